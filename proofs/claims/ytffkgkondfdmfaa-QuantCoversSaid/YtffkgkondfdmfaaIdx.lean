/- slices.IndexFunc and slices.ContainsFunc over rows of segs, for a function value that may write what it has captured. -/
import Derived.Test.YtffkgkondfdmfaaBase
set_option linter.unusedVariables false
set_option linter.unusedSimpArgs false
namespace Go.Proofs.Ytffkgkondfdmfaa
open Go.RowKit Go.Shelf

/-- What IndexFunc tells: the first k at which p holds, or -1; J k: what holds when k elements have been asked. -/
def IdxPost (n : Nat) (p : Nat → Bool) (J : Nat → World → Prop) (i : Int) (w' : World) : Prop :=
  (∃ k : Nat, k < n ∧ i = k ∧ p k = true ∧ (∀ j < k, p j = false) ∧ J (k + 1) w') ∨ (i = -1 ∧ (∀ j < n, p j = false) ∧ J n w')
def IdxEnd (n : Nat) (p : Nat → Bool) (J : Nat → World → Prop) (e : Ending) (w' : World) : Prop := ∃ i : Int, e = .returned (.int .i64 i) ∧ IdxPost n p J i w'

theorem idxFunc (g : Nat) (cap : Array Value) (eg : Ent g) (A : Option Addr) (n : Nat) (l : List Sg) (w : World) (hn : l.length = n) (hm : n ≤ 9223372036854775807) (c : Nat)
    (p : Nat → Bool) (J : Nat → World → Prop)
    (hS : ∀ k W, J k W → SliceAt W A (segCells l))
    (hc : ∀ k (hk : k < l.length) W, J k W → (∀ j < k, p j = false) → FnCalls g cap #[sgVal l[k]] W fun e W' => e = .returned (.bool (p k)) ∧ J (k + 1) W')
    (h0 : J 0 w) :
    Calls Try.prog 45 #[.slice A n c, .func (.func g) #[] cap] w (IdxEnd n p J) := by
  go_enter Try.func45, Try.ntmps45
  go_wp2
  go_loopw [8, 5] (fun i _ wr => ∃ k : Nat, k ≤ n ∧ i = .int .i64 k ∧ (∀ j < k, p j = false) ∧ J k wr) (fun i _ _ => n - (intOf i).toNat)
  case atStart => exact ⟨0, Nat.zero_le _, rfl, by simp, h0⟩
  case round =>
    obtain ⟨k, hk, rfl, hp, hJ⟩ := hrel
    have HP := Lib.hid hp
    clear hp
    by_cases hlt : k < n
    · have hcall := hc k (by omega) wr hJ HP.out
      unfold FnCalls sgVal at hcall
      obtain ⟨ad, rfl, h1, h2, h3⟩ := seg_at (hS k wr hJ) k (by omega)
      unfold Ent at eg
      cases hpk : p k with
      | true =>
        have HPK := Lib.hid hpk
        rw [hpk] at hcall
        clear hpk hc
        go_wp2_with fail
        refine hcall.mono ?_
        rintro e w' ⟨rfl, hJ'⟩
        go_wp2
        go_ret
        exact ⟨k, rfl, .inl ⟨k, hlt, rfl, HPK.out, HP.out, hJ'⟩⟩
      | false =>
        have HPK := Lib.hid hpk
        rw [hpk] at hcall
        clear hpk hc
        go_wp2_with fail
        refine hcall.mono ?_
        rintro e w' ⟨rfl, hJ'⟩
        go_wp2
        go_roundw
        case rel =>
          refine ⟨k + 1, by omega, by go_num, fun j hj => ?_, hJ'⟩
          rcases Nat.lt_or_ge j k with h | h
          · exact HP.out j h
          · obtain rfl : j = k := by omega
            exact HPK.out
        case measure => simp [intOf]; omega
    · obtain rfl : k = n := by omega
      go_wp2
      go_ret
      exact ⟨-1, rfl, .inr ⟨rfl, HP.out, hJ⟩⟩

def ContEnd (n : Nat) (p : Nat → Bool) (J : Nat → World → Prop) (e : Ending) (w' : World) : Prop :=
  (e = .returned (.bool true) ∧ ∃ k : Nat, k < n ∧ p k = true ∧ (∀ j < k, p j = false) ∧ J (k + 1) w') ∨ (e = .returned (.bool false) ∧ (∀ j < n, p j = false) ∧ J n w')

theorem contFunc (g : Nat) (cap : Array Value) (eg : Ent g) (A : Option Addr) (n : Nat) (l : List Sg) (w : World) (hn : l.length = n) (hm : n ≤ 9223372036854775807) (c : Nat)
    (p : Nat → Bool) (J : Nat → World → Prop)
    (hS : ∀ k W, J k W → SliceAt W A (segCells l))
    (hc : ∀ k (hk : k < l.length) W, J k W → (∀ j < k, p j = false) → FnCalls g cap #[sgVal l[k]] W fun e W' => e = .returned (.bool (p k)) ∧ J (k + 1) W')
    (h0 : J 0 w) :
    Calls Try.prog 33 #[.slice A n c, .func (.func g) #[] cap] w (ContEnd n p J) := by
  have h := idxFunc g cap eg A n l w hn hm c p J hS hc h0
  clear hc hS
  go_enter Try.func33, Try.ntmps33
  go_wp2_with fail
  refine h.mono ?_
  rintro e w' ⟨i, rfl, hi⟩
  rcases hi with ⟨k, hk, rfl, hpk, hp, hJ⟩ | ⟨rfl, hp, hJ⟩
  · have HPK := Lib.hid hpk
    have HP := Lib.hid hp
    clear hpk hp
    go_wp2
    go_ret
    exact .inl ⟨rfl, k, hk, HPK.out, HP.out, hJ⟩
  · have HP := Lib.hid hp
    clear hp
    go_wp2
    go_ret
    exact .inr ⟨rfl, HP.out, hJ⟩

/-- The same with what is told of the row as a whole, of a predicate that writes nothing that lay. -/
theorem contFunc_pure (g : Nat) (cap : Array Value) (eg : Ent g) (A : Option Addr) (l : List Sg) (w : World) (hm : l.length ≤ 9223372036854775807) (c : Nat)
    (p : Sg → Bool) (hS : SliceAt w A (segCells l))
    (hc : ∀ s, s ∈ l → ∀ W, Pure w W → FnCalls g cap #[sgVal s] W fun e W' => e = .returned (.bool (p s)) ∧ Pure W W') :
    Calls Try.prog 33 #[.slice A l.length c, .func (.func g) #[] cap] w fun e w' => e = .returned (.bool (l.any p)) ∧ Pure w w' := by
  refine (contFunc g cap eg A l.length l w rfl hm c (fun k => if h : k < l.length then p l[k] else false) (fun _ W => Pure w W) (fun _ W h => hS.pure h) (fun k hk W hW _ => ?_) (Kept.refl _ _)).mono ?_
  · rw [dif_pos hk]
    exact (hc _ (List.getElem_mem _) W hW).mono fun e W' h => ⟨h.1, hW.trans h.2⟩
  · rintro e w' (⟨rfl, k, hk, hpk, _, hJ⟩ | ⟨rfl, hp, hJ⟩)
    · simp only [hk, dite_true] at hpk
      exact ⟨by rw [List.any_eq_true.2 ⟨_, List.getElem_mem hk, hpk⟩], hJ⟩
    · refine ⟨?_, hJ⟩
      rw [List.any_eq_false.2 ?_]
      intro x hx
      obtain ⟨j, hj, rfl⟩ := List.getElem_of_mem hx
      have := hp j hj
      simp only [hj, dite_true] at this
      simp [this]

end Go.Proofs.Ytffkgkondfdmfaa
