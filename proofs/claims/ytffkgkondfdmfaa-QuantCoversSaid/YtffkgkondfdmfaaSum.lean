/- span.Sum and span.High. -/
import Derived.Test.YtffkgkondfdmfaaOver
set_option linter.unusedVariables false
set_option linter.unusedSimpArgs false
namespace Go.Proofs.Ytffkgkondfdmfaa
open Go.RowKit Go.Shelf

def sumStep (v : Int × Int) (r : Rn) : Int × Int := (wrap64 (v.1 + wrap64 (r.many * r.m)), wrap64 (v.2 + wrap64 (r.many * r.c)))
def sumF (l : List Rn) : Int × Int := l.foldl sumStep (0, 0)
theorem sumF_snoc (l : List Rn) (r : Rn) : sumF (l ++ [r]) = sumStep (sumF l) r := by simp [sumF, List.foldl_append]
def maxStep (v : Int × Int) (r : Rn) : Int × Int := (max v.1 r.m, max v.2 r.c)
def maxF (v : Int × Int) (l : List Rn) : Int × Int := l.foldl maxStep v
theorem maxF_snoc (v : Int × Int) (l : List Rn) (r : Rn) : maxF v (l ++ [r]) = maxStep (maxF v l) r := by simp [maxF, List.foldl_append]

theorem sum1 (Bo : Nat) (w : World) (pre : List Rn) (x : Rn) (W : World) (h : Heard w Bo sumF pre W) :
    FnCalls 37 #[.pointer (some ⟨Bo, 0, none⟩)] #[rnVal x] W fun e W' => e = .returned (.tuple #[]) ∧ Heard W Bo sumF (pre ++ [x]) W' := by
  unfold FnCalls rnVal
  obtain ⟨h1, h2⟩ := h
  obtain ⟨c0, c1, f0⟩ := blk2 h2
  have hl := blk_lt h2
  have hm := fun W' => more_any (sumF pre).1 (sumF pre).2 x.m x.c x.many W'
  go_enter Try.func37, Try.ntmps37
  go_wp2_with fail
  refine (hm _).mono ?_
  rintro e w1 ⟨rfl, hK⟩
  have hb := hK.blk (blk_alloc h2 _) (fun h => h)
  obtain ⟨d0, d1, g0⟩ := blk2 hb
  go_wp2
  go_end0
  refine ⟨rfl, ((((Kept.refl (fun i => i = Bo) W).alloc _).then_ hK (fun _ _ h => h.elim)).setCell (p := ⟨Bo, 0, none⟩) (.inl rfl) _).setCell (p := ⟨Bo, 1, none⟩) (.inl rfl) _, ?_⟩
  rw [sumF_snoc]
  exact blk_set (blk_set hb 0 _) 1 _

theorem least1 (Bo Bc : Nat) (v : Int × Int) (w : World) (hne : Bc ≠ Bo) (pre : List Rn) (x : Rn) (W : World) (hbc : w.heap[Bc]? = some (.cells #[.func (.func 40) #[] #[]] 69 (0, 0))) (h : Heard w Bo (maxF v) pre W) :
    FnCalls 49 #[.pointer (some ⟨Bc, 0, none⟩), .pointer (some ⟨Bo, 0, none⟩)] #[rnVal x] W fun e W' => e = .returned (.tuple #[]) ∧ Heard W Bo (maxF v) (pre ++ [x]) W' := by
  unfold FnCalls rnVal
  obtain ⟨h1, h2⟩ := h
  obtain ⟨c0, c1, f0⟩ := blk2 h2
  have hbc' := h1.blk hbc hne
  obtain ⟨k0, q0⟩ := blk1 hbc'
  have hl := blk_lt h2
  have hlc := blk_lt hbc'
  have hm := fun W' => vecMax (maxF v pre).1 (maxF v pre).2 x.m x.c W'
  go_enter Try.func49, Try.ntmps49
  go_wp2_with fail
  refine (hm _).mono ?_
  rintro e w1 ⟨rfl, hK⟩
  have hb := hK.blk (blk_alloc h2 _) (fun h => h)
  obtain ⟨d0, d1, g0⟩ := blk2 hb
  go_wp2
  go_end0
  refine ⟨rfl, ((((Kept.refl (fun i => i = Bo) W).alloc _).then_ hK (fun _ _ h => h.elim)).setCell (p := ⟨Bo, 0, none⟩) (.inl rfl) _).setCell (p := ⟨Bo, 1, none⟩) (.inl rfl) _, ?_⟩
  rw [maxF_snoc]
  exact blk_set (blk_set hb 0 _) 1 _

/-- What Sum, High answer. -/
def sumS (l : List Sg) (from_ to : Int) : (Int × Int) × Int := if overErr l from_ to = 0 then (sumF (runsL l from_ to), 0) else ((0, 0), overErr l from_ to)
def highS (l : List Sg) (from_ to : Int) : (Int × Int) × Int := if overErr l from_ to = 0 then (maxF (atV l from_) (runsL l from_ to), 0) else ((0, 0), overErr l from_ to)
def vecErr (r : (Int × Int) × Int) : Value := .tuple #[.agg #[.int .i64 r.1.1, .int .i64 r.1.2], .int .i64 r.2]

theorem ne_of_pure {w : World} {A : Option Addr} {cs : List Value} (h : SliceAt w A cs) {B : Nat} (hB : w.heap.size ≤ B) : cs ≠ [] → ∀ ad, A = some ad → ad.block ≠ B := fun hc ad e hb => by
  obtain ⟨ad', e', hcell⟩ := h hc
  obtain rfl : ad = ad' := Option.some.inj (e.symm.trans e')
  cases cs with
  | nil => exact hc rfl
  | cons c cs =>
    have := lt_of_cell (hcell 0 c rfl)
    rw [add_block] at this
    omega

set_option maxHeartbeats 1000000 in
theorem sum_any (l : List Sg) (A : Option Addr) (c : Nat) (from_ to : Int) (w : World) (hm : l.length ≤ 4611686018427387903) (hS : SliceAt w A (segCells l)) :
    Calls Try.prog 28 #[.slice A l.length c, .int .i64 from_, .int .i64 to] w fun e w' => e = .returned (vecErr (sumS l from_ to)) ∧ Pure w w' := by
  have hov := over_any l A c from_ to 37 #[.pointer (some ⟨w.heap.size + 1, 0, none⟩)] (enters_of Try.func37 (by kernel_rfl) rfl) (w.heap.size + 1) sumF ((w.alloc (.cells #[.int .i64 0, .int .i64 0] 35)).alloc (.cells #[.int .i64 0, .int .i64 0] 35))
    hm (hS.pure (((Kept.refl _ w).alloc _).alloc _)) (fun hc ad e => ne_of_pure hS (Nat.le_succ _) hc ad e) (blk_new1 w _ _) (fun pre x W h => sum1 _ _ pre x W h)
  go_enter Try.func28, Try.ntmps28
  go_wp2_with fail
  refine hov.mono ?_
  rintro e w1 ⟨rfl, hK, hb⟩
  have hP : Pure w w1 := (((Kept.refl _ w).alloc _).alloc _).then_ hK (fun i hi h => by omega)
  have hb6 := hK.blk (blk_alloc (blk_new w _) _) (by omega)
  obtain ⟨c60, c61, f6⟩ := blk2 hb6
  have hz := blk_lt hb6
  by_cases h0 : overErr l from_ to = 0
  · have hb1 := hb h0
    rw [h0]
    have H0 := Lib.hid h0
    clear h0 hb
    obtain ⟨c80, c81, f8⟩ := blk2 hb1
    have hz1 := blk_lt hb1
    go_wp2
    refine bodyPost_ret (v := vecErr (sumS l from_ to)) ?_ rfl ⟨rfl, ?_⟩
    · rw [sumS, if_pos H0.out]
      simp [results, Try.results28, go_sem, c60, c61, vecErr]
    · exact (hP.setCell (p := ⟨w.heap.size, 0, none⟩) (.inr (by simp)) _).setCell (p := ⟨w.heap.size, 1, none⟩) (.inr (by simp)) _
  · have h1 : (overErr l from_ to != 0) = true := by simpa using h0
    have H0 := Lib.hid h0
    clear h0 hb
    go_wp2
    refine bodyPost_ret (v := vecErr (sumS l from_ to)) ?_ rfl ⟨rfl, ?_⟩
    · rw [sumS, if_neg H0.out]
      simp [results, Try.results28, go_sem, c60, c61, vecErr]
    · exact (hP.setCell (p := ⟨w.heap.size, 0, none⟩) (.inr (by simp)) _).setCell (p := ⟨w.heap.size, 1, none⟩) (.inr (by simp)) _

set_option maxHeartbeats 1000000 in
theorem least_any (l : List Sg) (A : Option Addr) (c : Nat) (from_ to : Int) (w : World) (hm : l.length ≤ 4611686018427387903) (hS : SliceAt w A (segCells l)) :
    Calls Try.prog 39 #[.slice A l.length c, .int .i64 from_, .int .i64 to, .func (.func 40) #[] #[]] w fun e w' => e = .returned (vecErr (highS l from_ to)) ∧ Pure w w' := by
  have hat := fun W (h : SliceAt W A (segCells l)) => at_any A c l from_ W hm h
  go_enter Try.func39, Try.ntmps39
  go_wp2_with fail
  refine (hat _ (hS.pure (((Kept.refl _ w).alloc _).alloc _))).mono ?_
  rintro e w1 ⟨rfl, hK1⟩
  have hP1 : Pure w w1 := (((Kept.refl _ w).alloc _).alloc _).then_ hK1 (fun _ _ h => h)
  have hbc := hK1.blk (blk_alloc (blk_new w _) _) (fun h => h)
  have hb8 := hK1.blk (blk_new1 w _ _) (fun h => h)
  have hzc := blk_lt hbc
  have hz8 := blk_lt hb8
  have hov := over_any l A c from_ to 49 #[.pointer (some ⟨w.heap.size, 0, none⟩), .pointer (some ⟨w1.heap.size, 0, none⟩)] (enters_of Try.func49 (by kernel_rfl) rfl) w1.heap.size (maxF (atV l from_))
    (w1.alloc (.cells #[.int .i64 (atV l from_).1, .int .i64 (atV l from_).2] 35)) hm (hS.pure (hP1.alloc _)) (fun hc ad e => ne_of_pure (hS.pure hP1) (Nat.le_refl _) hc ad e) (blk_new w1 _)
    (fun pre x W h => least1 _ _ _ _ (by omega) pre x W (blk_alloc hbc _) h)
  go_wp2_with fail
  refine hov.mono ?_
  rintro e w2 ⟨rfl, hK, hb⟩
  have hP : Pure w w2 := (hP1.alloc _).then_ hK (fun i hi h => by omega)
  have hb8' := hK.blk (blk_alloc hb8 _) (by omega)
  obtain ⟨c60, c61, f6⟩ := blk2 hb8'
  have hz := blk_lt hb8'
  by_cases h0 : overErr l from_ to = 0
  · have hb1 := hb h0
    rw [h0]
    have H0 := Lib.hid h0
    clear h0 hb
    obtain ⟨c80, c81, f8⟩ := blk2 hb1
    have hz1 := blk_lt hb1
    go_wp2
    refine bodyPost_ret (v := vecErr (highS l from_ to)) ?_ rfl ⟨rfl, ?_⟩
    · rw [highS, if_pos H0.out]
      simp [results, Try.results39, go_sem, c60, c61, vecErr]
    · exact (hP.setCell (p := ⟨w.heap.size + 1, 0, none⟩) (.inr (by simp)) _).setCell (p := ⟨w.heap.size + 1, 1, none⟩) (.inr (by simp)) _
  · have h1 : (overErr l from_ to != 0) = true := by simpa using h0
    have H0 := Lib.hid h0
    clear h0 hb
    go_wp2
    refine bodyPost_ret (v := vecErr (highS l from_ to)) ?_ rfl ⟨rfl, ?_⟩
    · rw [highS, if_neg H0.out]
      simp [results, Try.results39, go_sem, c60, c61, vecErr]
    · exact (hP.setCell (p := ⟨w.heap.size + 1, 0, none⟩) (.inr (by simp)) _).setCell (p := ⟨w.heap.size + 1, 1, none⟩) (.inr (by simp)) _

theorem high_any (l : List Sg) (A : Option Addr) (c : Nat) (from_ to : Int) (w : World) (hm : l.length ≤ 4611686018427387903) (hS : SliceAt w A (segCells l)) :
    Calls Try.prog 29 #[.slice A l.length c, .int .i64 from_, .int .i64 to] w fun e w' => e = .returned (vecErr (highS l from_ to)) ∧ Pure w w' := by
  have h := least_any l A c from_ to (w.alloc (.cells #[.int .i64 0, .int .i64 0] 35)) hm (hS.pure ((Kept.refl _ w).alloc _))
  unfold vecErr at h ⊢
  go_enter Try.func29, Try.ntmps29
  go_wp2_with fail
  refine h.mono ?_
  rintro e w1 ⟨rfl, hK⟩
  have hP : Pure w w1 := ((Kept.refl _ w).alloc _).then_ hK (fun _ _ h => h)
  have hb := hK.blk (blk_new w _) (fun h => h)
  obtain ⟨c60, c61, f6⟩ := blk2 hb
  have hz := blk_lt hb
  go_wp2
  refine bodyPost_ret (v := vecErr (highS l from_ to)) ?_ rfl ⟨rfl, ?_⟩
  · simp [results, Try.results29, go_sem, c60, c61, vecErr]
  · exact (hP.setCell (p := ⟨w.heap.size, 0, none⟩) (.inr (by simp)) _).setCell (p := ⟨w.heap.size, 1, none⟩) (.inr (by simp)) _
end Go.Proofs.Ytffkgkondfdmfaa
