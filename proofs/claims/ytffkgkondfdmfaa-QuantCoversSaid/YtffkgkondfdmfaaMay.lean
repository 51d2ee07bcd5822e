/- rle.May: whether a function is canonical. -/
import Derived.Test.YtffkgkondfdmfaaIdx
import Derived.Test.YtffkgkondfdmfaaVec
set_option linter.unusedVariables false
set_option linter.unusedSimpArgs false
namespace Go.Proofs.Ytffkgkondfdmfaa
open Go.RowKit Go.Shelf

/-- The run ahead of place k. -/
def prv (l : List Sg) (k : Nat) : Sg := if k = 0 then ⟨-1125899906842625, 0, 0⟩ else l.getD (k - 1) ⟨-1125899906842625, 0, 0⟩
def oddOf (p s : Sg) : Bool := !sgOk s || vEq s.m s.c p.m p.c || decide (s.t ≤ p.t)
def oddAt (l : List Sg) (k : Nat) : Bool := match l[k]? with | none => false | some s => oddOf (prv l k) s
def may (l : List Sg) : Bool := (List.range l.length).all fun k => !oddAt l k

/-- What the two stores leave. -/
theorem may1_close {s p : Sg} {B1 B2 : Nat} {w w1 : World} {o : Obj} (hk : Pure (w.alloc o) w1) (h1 : w1.heap[B1]? = some (.cells #[.int .i64 p.m, .int .i64 p.c] 35 (0, 0))) (h2 : w1.heap[B2]? = some (.cells #[.int .i64 p.t] 2 (0, 0))) (hne : B1 ≠ B2) :
    Kept (fun k => k = B1 ∨ k = B2) w (((w1.setCell ⟨B1, 0, none⟩ (.int .i64 s.m)).setCell ⟨B1, 1, none⟩ (.int .i64 s.c)).setCell ⟨B2, 0, none⟩ (.int .i64 s.t)).drew ∧
      (((w1.setCell ⟨B1, 0, none⟩ (.int .i64 s.m)).setCell ⟨B1, 1, none⟩ (.int .i64 s.c)).setCell ⟨B2, 0, none⟩ (.int .i64 s.t)).drew.heap[B1]? = some (.cells #[.int .i64 s.m, .int .i64 s.c] 35 (0, 0)) ∧
      (((w1.setCell ⟨B1, 0, none⟩ (.int .i64 s.m)).setCell ⟨B1, 1, none⟩ (.int .i64 s.c)).setCell ⟨B2, 0, none⟩ (.int .i64 s.t)).drew.heap[B2]? = some (.cells #[.int .i64 s.t] 2 (0, 0)) := by
  refine ⟨?_, blk_far (blk_set (blk_set h1 0 _) 1 _) hne _, blk_set (blk_far (blk_far h2 hne.symm _) hne.symm _) 0 _⟩
  exact ((((((Kept.refl _ w).alloc o).then_ hk (fun _ _ h => h.elim)).setCell (p := ⟨B1, 0, none⟩) (.inl (.inl rfl)) _).setCell (p := ⟨B1, 1, none⟩) (.inl (.inl rfl)) _).setCell (p := ⟨B2, 0, none⟩) (.inl (.inr rfl)) _).drew

attribute [local go_sem high] eqIn_vec
set_option maxHeartbeats 1000000 in
theorem may1 (s p : Sg) (B1 B2 : Nat) (w : World) (h1 : w.heap[B1]? = some (.cells #[.int .i64 p.m, .int .i64 p.c] 35 (0, 0))) (h2 : w.heap[B2]? = some (.cells #[.int .i64 p.t] 2 (0, 0))) (hne : B1 ≠ B2) :
    FnCalls 44 #[.pointer (some ⟨B1, 0, none⟩), .pointer (some ⟨B2, 0, none⟩)] #[sgVal s] w fun e w' => e = .returned (.bool (oddOf p s)) ∧
      Kept (fun k => k = B1 ∨ k = B2) w w' ∧ w'.heap[B1]? = some (.cells #[.int .i64 s.m, .int .i64 s.c] 35 (0, 0)) ∧ w'.heap[B2]? = some (.cells #[.int .i64 s.t] 2 (0, 0)) := by
  unfold FnCalls sgVal
  have hl1 := blk_lt h1
  have hl2 := blk_lt h2
  cases hok : sgOk s with
  | false =>
    have HOK := Lib.hid hok
    clear hok
    go_enter Try.func44, Try.ntmps44
    go_wp2_with fail
    refine (rleIn s _).mono ?_
    rintro e w1 ⟨rfl, hk⟩
    rw [HOK.out]
    have hb0 := hk.blk (blk_new w _) (fun h => h)
    have hb1 := hk.blk (blk_alloc h1 _) (fun h => h)
    have hb2 := hk.blk (blk_alloc h2 _) (fun h => h)
    obtain ⟨c00, c01, c02, f0⟩ := blk3 hb0
    obtain ⟨c10, c11, f1⟩ := blk2 hb1
    obtain ⟨c20, f2⟩ := blk1 hb2
    go_wp2
    go_region
    go_wp2
    go_ret
    exact ⟨by simp [oddOf, HOK.out], may1_close hk hb1 hb2 hne⟩
  | true =>
    have HOK := Lib.hid hok
    clear hok
    cases hv : vEq s.m s.c p.m p.c with
    | true =>
      go_enter Try.func44, Try.ntmps44
      go_wp2_with fail
      refine (rleIn s _).mono ?_
      rintro e w1 ⟨rfl, hk⟩
      rw [HOK.out]
      have hb0 := hk.blk (blk_new w _) (fun h => h)
      have hb1 := hk.blk (blk_alloc h1 _) (fun h => h)
      have hb2 := hk.blk (blk_alloc h2 _) (fun h => h)
      obtain ⟨c00, c01, c02, f0⟩ := blk3 hb0
      obtain ⟨c10, c11, f1⟩ := blk2 hb1
      obtain ⟨c20, f2⟩ := blk1 hb2
      go_wp2
      go_region
      go_wp2
      go_ret
      exact ⟨by simp [oddOf, hv], may1_close hk hb1 hb2 hne⟩
    | false =>
      by_cases ht : s.t ≤ p.t
      all_goals
        go_enter Try.func44, Try.ntmps44
        go_wp2_with fail
        refine (rleIn s _).mono ?_
        rintro e w1 ⟨rfl, hk⟩
        rw [HOK.out]
        have hb0 := hk.blk (blk_new w _) (fun h => h)
        have hb1 := hk.blk (blk_alloc h1 _) (fun h => h)
        have hb2 := hk.blk (blk_alloc h2 _) (fun h => h)
        obtain ⟨c00, c01, c02, f0⟩ := blk3 hb0
        obtain ⟨c10, c11, f1⟩ := blk2 hb1
        obtain ⟨c20, f2⟩ := blk1 hb2
        go_wp2
        go_region
        go_wp2
        go_ret
        exact ⟨by simp [oddOf, HOK.out, hv, ht], may1_close hk hb1 hb2 hne⟩

theorem prv_zero (l : List Sg) : prv l 0 = ⟨-1125899906842625, 0, 0⟩ := rfl
theorem prv_succ (l : List Sg) (k : Nat) (h : k < l.length) : prv l (k + 1) = l[k] := by simp [prv, List.getD_eq_getElem?_getD, h]
theorem oddAt_lt (l : List Sg) (k : Nat) (h : k < l.length) : oddAt l k = oddOf (prv l k) l[k] := by simp [oddAt, h]

theorem rleMay (l : List Sg) (A : Option Addr) (c : Nat) (w : World) (hm : l.length ≤ 9223372036854775807) (hS : SliceAt w A (segCells l)) :
    Calls Try.prog 32 #[.slice A l.length c] w fun e w' => e = .returned (.bool (may l)) ∧ Pure w w' := by
  have key := contFunc 44 #[.pointer (some ⟨w.heap.size, 0, none⟩), .pointer (some ⟨w.heap.size + 1, 0, none⟩)] (enters_of Try.func44 (by kernel_rfl) rfl) A l.length l
    ((w.alloc (.cells #[.int .i64 0, .int .i64 0] 35)).alloc (.cells #[.int .i64 (-1125899906842625)] 2)) rfl hm c (fun k => oddAt l k)
    (fun k W => Pure w W ∧ W.heap[w.heap.size]? = some (.cells #[.int .i64 (prv l k).m, .int .i64 (prv l k).c] 35 (0, 0)) ∧ W.heap[w.heap.size + 1]? = some (.cells #[.int .i64 (prv l k).t] 2 (0, 0)))
    (fun k W h => hS.pure h.1)
    (fun k hk W hJ _ => (may1 l[k] (prv l k) w.heap.size (w.heap.size + 1) W hJ.2.1 hJ.2.2 (by omega)).mono fun e W' h => by
      refine ⟨by rw [oddAt_lt l k hk]; exact h.1, hJ.1.then_ h.2.1 (fun i hi h => by omega), ?_, ?_⟩
      · rw [prv_succ l k hk]; exact h.2.2.1
      · rw [prv_succ l k hk]; exact h.2.2.2)
    ⟨((Kept.refl _ w).alloc _).alloc _, blk_alloc (blk_new w _) _, blk_new1 w _ _⟩
  go_enter Try.func32, Try.ntmps32
  go_wp2_with fail
  refine key.mono ?_
  rintro e w' (⟨rfl, k, hk, hpk, _, hJ⟩ | ⟨rfl, hp, hJ⟩)
  · have HP := Lib.hid hpk
    clear hpk key
    go_wp2
    go_ret
    refine ⟨?_, hJ.1⟩
    have : may l = false := by rw [may, List.all_eq_false]; exact ⟨k, by simpa using hk, by simp [HP.out]⟩
    rw [this]; rfl
  · have HP := Lib.hid hp
    clear hp key
    go_wp2
    go_ret
    refine ⟨?_, hJ.1⟩
    have : may l = true := by rw [may, List.all_eq_true]; intro k hk; simp [HP.out k (by simpa using hk)]
    rw [this]; rfl

end Go.Proofs.Ytffkgkondfdmfaa
