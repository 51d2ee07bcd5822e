/- slices.IsSortedFunc over rows of segs. -/
import Derived.Test.YtffkgkondfdmfaaVec
import Derived.StillTailTactics
import Derived.Deep.QuietTactic
import Derived.Deep.RegionWith
import Derived.BigQuiet
set_option linter.unusedVariables false
set_option linter.unusedSimpArgs false
namespace Go.Proofs.Ytffkgkondfdmfaa
open Go.RowKit Go.Shelf

def cmpS (a b : Sg) : Int := if a.t < b.t then -1 else if b.t < a.t then 1 else 0

theorem compare_any (v : Value) (a b : Sg) (w : World) : Calls Try.prog 55 #[v, sgVal a, sgVal b] w fun e w' => e = .returned (.int .i64 (cmpS a b)) ∧ Pure w w' := by
  unfold sgVal
  have hP : Pure w ((w.alloc (.cells #[.int .i64 a.t, .int .i64 a.m, .int .i64 a.c] 42)).alloc (.cells #[.int .i64 b.t, .int .i64 b.m, .int .i64 b.c] 42)) := ((Kept.refl _ w).alloc _).alloc _
  by_cases h1 : a.t < b.t
  · go_enter Try.func55, Try.ntmps55
    go_wp2
    go_ret
    exact ⟨by simp [cmpS, h1], hP⟩
  · by_cases h2 : b.t < a.t
    · go_enter Try.func55, Try.ntmps55
      go_wp2
      go_ret
      exact ⟨by simp [cmpS, h1, h2], hP⟩
    · go_enter Try.func55, Try.ntmps55
      go_wp2
      go_ret
      have : cmpS a b = 0 := by unfold cmpS; rw [if_neg (by omega), if_neg (by omega)]
      exact ⟨by rw [this]; rfl, hP⟩

/-- weakly rising -/
def risesB (l : List Sg) : Bool := (List.range (l.length - 1)).all fun k => decide ((l.getD k ⟨0, 0, 0⟩).t ≤ (l.getD (k + 1) ⟨0, 0, 0⟩).t)

theorem isSorted (v : Value) (A : Option Addr) (c : Nat) (l : List Sg) (w : World) (hm : l.length ≤ 9223372036854775807) (hS : SliceAt w A (segCells l)) :
    Calls Try.prog 65 #[.slice A l.length c, .func (.func 55) #[v] #[]] w fun e w' => e = .returned (.bool (risesB l)) ∧ Pure w w' := by
  obtain ⟨n, hn⟩ : ∃ n, l.length = n := ⟨_, rfl⟩
  rw [hn] at hm ⊢
  have HN := Lib.hid hn
  clear hn
  go_enter Try.func65, Try.ntmps65
  go_wp2
  go_loopw [5] (fun i wr => ∃ z : Int, -1 ≤ z ∧ z < n ∧ i = .int .i64 z ∧ (∀ j : Nat, z ≤ j → j + 1 < n → (l.getD j ⟨0, 0, 0⟩).t ≤ (l.getD (j + 1) ⟨0, 0, 0⟩).t) ∧ Pure w wr) (fun i _ => (intOf i).toNat)
  case atStart => exact ⟨n - 1, by omega, by omega, by first | rfl | (congr 1; unfold wrap64; omega), fun j h1 h2 => by omega, Kept.refl _ _⟩
  case round =>
    obtain ⟨z, hz1, hz2, rfl, hp, hK⟩ := hrel
    have HP := Lib.hid hp
    clear hp
    have hS' := hS.pure hK
    by_cases hlt : 0 < z
    · obtain ⟨k, rfl⟩ : ∃ k : Nat, z = ((k + 1 : Nat) : Int) := ⟨(z - 1).toNat, by omega⟩
      have hk1 : k + 1 < l.length := by have := HN.out; omega
      have hk0 : k < l.length := by omega
      obtain ⟨ad, rfl, h1, h2, h3⟩ := seg_at hS' (k + 1) hk1
      obtain ⟨ad', e', g1, g2, g3⟩ := seg_at hS' k hk0
      obtain rfl : ad = ad' := Option.some.inj e'
      clear e'
      go_wp2
      have b1 : (k : Int) < n := by omega
      have b2 : (k : Int) + 1 < n := by omega
      have b3 : IntKind.i64.wrap (k : Int) = k := IntWalk.i64_in _ (by omega)
      have b4 : ((k : Int) + 1).toNat = k + 1 := by omega
      have b5 : (0 : Int) ≤ (k : Int) + 1 := by omega
      have hcmp := fun W => compare_any v l[k + 1] l[k] W
      unfold sgVal at hcmp
      go_region_with ((go_at_call 55; refine (hcmp _).mono ?_; rintro e w1 ⟨rfl, hK1⟩))
      all_goals
        clear b3 b4 hcmp
        have hP1 : Pure w w1 := hK.drew.then_ hK1 (fun _ _ h => h)
        by_cases hlt2 : l[k + 1].t < l[k].t
        · have hc : cmpS l[k + 1] l[k] < 0 := by unfold cmpS; rw [if_pos hlt2]; omega
          go_wp2
          go_ret
          have : risesB l = false := by
            unfold risesB
            rw [List.all_eq_false]
            exact ⟨k, by simp; omega, by simp [List.getD_eq_getElem?_getD, hk1, hk0]; omega⟩
          exact ⟨by rw [this]; rfl, hP1⟩
        · have hc : ¬ cmpS l[k + 1] l[k] < 0 := by unfold cmpS; rw [if_neg hlt2]; split <;> omega
          go_wp2
          go_roundw
          case rel =>
            refine ⟨k, by omega, by omega, by go_num, fun j h1 h2 => ?_, hP1⟩
            rcases Nat.lt_or_ge k j with h | h
            · exact HP.out j (by omega) h2
            · obtain rfl : j = k := by omega
              simp [List.getD_eq_getElem?_getD, hk1, hk0]; omega
          case measure => simp [intOf]
    · go_wp2
      go_ret
      have : risesB l = true := by
        unfold risesB
        rw [List.all_eq_true]
        intro j hj
        have := HN.out
        simp at hj
        have := HP.out j (by omega) (by omega)
        simpa using this
      exact ⟨by rw [this]; rfl, hK⟩

theorem rises_any (A : Option Addr) (c : Nat) (l : List Sg) (w : World) (hm : l.length ≤ 9223372036854775807) (hS : SliceAt w A (segCells l)) :
    Calls Try.prog 60 #[.slice A l.length c] w fun e w' => e = .returned (.bool (risesB l)) ∧ Pure w w' := by
  have h := isSorted (.slice A l.length c) A c l w hm hS
  go_enter Try.func60, Try.ntmps60
  go_wp2_with fail
  refine h.mono ?_
  rintro e w' ⟨rfl, hK⟩
  go_wp2
  go_ret
  exact ⟨rfl, hK⟩
end Go.Proofs.Ytffkgkondfdmfaa
