/- EventHeld over numbers and lists alone: the law's function answers true at every input. -/
import Derived.Test.YtnohbjgmldjbmaaDoorHeldLaw
import Derived.Test.YtnohbjgmldjbmaaDoorSameSelf
set_option linter.unusedVariables false
set_option linter.unusedSimpArgs false
namespace Go.Proofs.YtnohbjgmldjbmaaDoor.P
open Go.RowKit Go.Proofs.YtnohbjgmldjbmaaDoorW.PrintWords Go.Proofs.YtnohbjgmldjbmaaDoorW.PrintLast Go.Proofs.YtnohbjgmldjbmaaDoorW.PrintMore

theorem ofL_le (l : List S32) (id : Int) : (ofL l id).length ≤ l.length := List.length_filter_le _ _
theorem held_end (l : List S32) (x : S32) (cut : Int) (hc : 0 ≤ cut ∧ cut < 256) (hid : 0 ≤ x.f2 ∧ x.f2 < 4294967296) (hl : l.length ≤ 100) (i k : Nat) (hi : l.length ≤ i) (hk : 1000 < k) :
    liverylaw30_EventHeld.l0 k l cut ((countL l x.f1 : Nat) : Int) i x.f0 x.f1 x.f2 x.f3 = some true := by
  obtain ⟨k, rfl⟩ : ∃ m, k = m + 1 := ⟨k - 1, by omega⟩
  have hol := ofL_le l x.f2
  have hwc : wrap64 cut = cut := by rw [IntWalk.wrap64_in _ ⟨by omega, by omega⟩]
  have hwl : wrap64 ((l.length : Int) + 1) = ((l.length + 1 : Nat) : Int) := wrap_succ _ (by omega)
  obtain ⟨c, rfl⟩ : ∃ c : Nat, cut = c := ⟨cut.toNat, by omega⟩
  have hm : Int.tmod (c : Int) ((l.length + 1 : Nat) : Int) = ((c % (l.length + 1) : Nat) : Int) := Int.ofNat_tmod _ _ |>.symm
  obtain ⟨n, hn⟩ : ∃ n, n = c % (l.length + 1) := ⟨_, rfl⟩
  have hnl : n < l.length + 1 := by rw [hn]; exact Nat.mod_lt _ (by omega)
  have ht : (l.take n).length ≤ l.length := by rw [List.length_take]; omega
  have hd : (l.drop n).length ≤ l.length := by rw [List.length_drop]; omega
  have hx : x.f2 ≠ (x.f2 + 1) % 4294967296 := by omega
  have hsp : heldX (l.take n) x.f2 x.f0 + heldX (l.drop n) x.f2 x.f0 = heldX l x.f2 x.f0 := by rw [← heldX_append, List.take_append_drop]
  have hsc : countL (l.take n) x.f1 + countL (l.drop n) x.f1 = countL l x.f1 := by rw [← countL_append, List.take_append_drop]
  have hcl := countL_le l x.f1
  simp only [liverylaw30_EventHeld.l0, liverylaw30_head.f]
  rw [if_neg (by omega), rof_eq l x.f2 (by omega) k (by omega), Option.bind_some, of_eq l x.f2 (by omega) k (by omega), Option.bind_some, same_self _ (by omega) k (by omega), Option.bind_some, if_pos rfl,
    held_eq l _ _ (by omega) k (by omega), Option.bind_some, rheld_eq l _ _ (by omega) k (by omega), Option.bind_some, if_pos rfl,
    count_eq l _ (by omega) k (by omega), Option.bind_some, if_pos rfl, held_eq _ _ _ (by omega) k (by omega), Option.bind_some, Option.bind_some, heldX_of, if_pos rfl,
    hwc, hwl, hm, ← hn, if_neg (by omega), if_pos (by omega), if_pos (by omega), Int.toNat_natCast,
    held_eq _ _ _ (by omega) k (by omega), Option.bind_some, held_eq _ _ _ (by omega) k (by omega), Option.bind_some, Option.bind_some, wrap_two, hsp, if_pos rfl,
    count_eq _ _ (by omega) k (by omega), Option.bind_some, count_eq _ _ (by omega) k (by omega), Option.bind_some,
    if_pos (by rw [IntWalk.wrap64_in _ ⟨by omega, by omega⟩]; omega)]
  rw [held_eq l _ _ (by omega) k (by omega), Option.bind_some, Option.bind_some, List.nil_append, if_pos (by simp only [List.length_nil]; omega), Option.bind_some, Option.bind_some, if_pos (by simp only [List.length_singleton]; omega),
    held_eq _ _ _ (by simp only [List.length_append, List.length_singleton]; omega) k (by simp only [List.length_append, List.length_singleton]; omega), Option.bind_some, heldX_other _ _ _ _ hx, if_pos rfl, Option.bind_some]
theorem held_loop (l : List S32) (x : S32) (cut : Int) (hc : 0 ≤ cut ∧ cut < 256) (hid : 0 ≤ x.f2 ∧ x.f2 < 4294967296) (hl : l.length ≤ 100) : ∀ (d i k n : Nat), i + d = l.length → d + 1000 < k → n + countL (l.drop i) x.f1 = countL l x.f1 →
    liverylaw30_EventHeld.l0 k l cut n i x.f0 x.f1 x.f2 x.f3 = some true
  | 0, i, k, n, hi, hk, hn => by
    rw [List.drop_eq_nil_of_le (by omega)] at hn
    have h0 : countL [] x.f1 = 0 := rfl
    rw [h0] at hn
    obtain rfl : n = countL l x.f1 := by omega
    exact held_end l x cut hc hid hl i k (by omega) (by omega)
  | d + 1, i, k, n, hi, hk, hn => by
    obtain ⟨k, rfl⟩ : ∃ m, k = m + 1 := ⟨k - 1, by omega⟩
    have hil : i < l.length := by omega
    have hd : countL (l.drop i) x.f1 = countL (l.drop (i + 1)) x.f1 + (if l[i].f1 = x.f1 then 1 else 0) := by
      rw [List.drop_eq_getElem_cons hil]
      unfold countL
      rw [List.countP_cons]
      simp
    have hcl := countL_le l x.f1
    rw [liverylaw30_EventHeld.l0]
    rw [if_pos (by omega), if_pos (by omega), rd_nat l i hil, wrap_succ i (by omega)]
    by_cases h : l[i].f1 = x.f1
    · rw [if_pos h] at hd
      rw [if_pos h, wrap_succ n (by omega)]
      exact held_loop l x cut hc hid hl d (i + 1) k (n + 1) (by omega) (by omega) (by omega)
    · rw [if_neg h] at hd
      rw [if_neg h]
      exact held_loop l x cut hc hid hl d (i + 1) k n (by omega) (by omega) (by omega)
theorem held_pure (l : List S32) (x : S32) (cut : Int) (hc : 0 ≤ cut ∧ cut < 256) (hid : 0 ≤ x.f2 ∧ x.f2 < 4294967296) : ∃ k, liverylaw30_EventHeld.f k l x.f0 x.f1 x.f2 x.f3 cut = some true := by
  refine ⟨2000, ?_⟩
  unfold liverylaw30_EventHeld.f
  by_cases hl : (l.length : Int) > 100
  · rw [if_pos hl]; rfl
  · rw [if_neg hl]
    exact held_loop l x cut hc hid (by omega) l.length 0 2000 0 (by omega) (by omega) (by simp)
end Go.Proofs.YtnohbjgmldjbmaaDoor.P
