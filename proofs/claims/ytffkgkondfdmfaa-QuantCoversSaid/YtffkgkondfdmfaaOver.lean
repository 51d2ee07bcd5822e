/- span.over: a window's runs, each heard. -/
import Derived.Test.YtffkgkondfdmfaaRuns
import Derived.Test.YtffkgkondfdmfaaMay
import Derived.Test.YtffkgkondfdmfaaMax
set_option linter.unusedVariables false
set_option linter.unusedSimpArgs false
namespace Go.Proofs.Ytffkgkondfdmfaa
open Go.RowKit Go.Shelf
attribute [local go_sem] Oper.semAt_some

theorem runs_any (A : Option Addr) (n c : Nat) (from_ to : Int) (w : World) :
    Calls Try.prog 47 #[.slice A n c, .int .i64 from_, .int .i64 to] w fun e w' => e = .returned (.func (.func 59) #[] #[.pointer (some ⟨w.heap.size + 1, 0, none⟩), .pointer (some ⟨w.heap.size, 0, none⟩), .pointer (some ⟨w.heap.size + 1 + 1, 0, none⟩)]) ∧
      w' = ((w.alloc (.cells #[.slice A n c] 29)).alloc (.cells #[.int .i64 from_] 2)).alloc (.cells #[.int .i64 to] 2) := by
  go_enter Try.func47, Try.ntmps47
  go_wp2
  go_ret
  exact ⟨rfl, rfl⟩

/-- May a window be looked at? -/
def winOk (from_ to : Int) : Bool := okN from_ && okN to && decide (from_ < to) && decide (to - from_ ≤ 8000)
def overErr (l : List Sg) (from_ to : Int) : Int := if may l = true then if winOk from_ to = true then 0 else 2 else 5

theorem may_ok {l : List Sg} (h : may l = true) : ∀ s ∈ l, sgOk s = true := by
  intro s hs
  obtain ⟨k, hk, rfl⟩ := List.getElem_of_mem hs
  have := (List.all_eq_true.1 h) k (by simpa using hk)
  rw [oddAt_lt l k hk] at this
  cases h' : sgOk l[k] with
  | true => rfl
  | false => simp [oddOf, h'] at this

/-- The block that is written, before and behind each run. -/
def Heard (w : World) (Bo : Nat) (F : List Rn → Int × Int) (pre : List Rn) (W : World) : Prop :=
  Kept (fun i => i = Bo) w W ∧ W.heap[Bo]? = some (.cells #[.int .i64 (F pre).1, .int .i64 (F pre).2] 35 (0, 0))

theorem Heard.kpC {W W' : World} {Bo : Nat} (h : Kept (fun i => i = Bo) W W') : KpC (fun i => i = Bo) W W' := KpC.of_kept h
theorem keepsFrom_of_kept {B Bo : Nat} {W W' : World} (h : Kept (fun i => i = Bo) W W') (hB : Bo < B) : KeepsFrom B W W' := ⟨h.size, fun k o hk ho _ => h.blk ho (by omega)⟩

def OverEnd (w : World) (Bo : Nat) (F : List Rn → Int × Int) (l : List Sg) (from_ to : Int) (e : Ending) (w' : World) : Prop :=
  e = .returned (.int .i64 (overErr l from_ to)) ∧ Kept (fun i => i = Bo) w w' ∧ (overErr l from_ to = 0 → w'.heap[Bo]? = some (.cells #[.int .i64 (F (runsL l from_ to)).1, .int .i64 (F (runsL l from_ to)).2] 35 (0, 0)))

/-- What holds at the head of a round's body. -/
def OverAx (g : Nat) (cap : Array Value) (Bo : Nat) (F : List Rn → Int × Int) (w : World) (pre : List Rn) (x : Rn) (a₁ : Act) (W : World) : Prop :=
  Heard w Bo F pre W ∧ W.heap[w.heap.size]? = some (.cells #[.func (.func g) #[] cap] 67 (0, 0)) ∧
    ∃ (Bx : Nat) (u0 u1 u2 u3 u4 u5 u6 u8 u10 u11 u12 u13 u14 u15 u16 u17 u18 u19 u20 u21 u22 u23 u24 u25 u26 u27 u28 u29 u30 u31 u32 u33 u34 u35 u36 u37 u38 : Value), w.heap.size ≤ Bx ∧ W.heap[Bx]? = some (.cells #[.int .i64 x.m, .int .i64 x.c, .int .i64 x.many] 65 (0, 0)) ∧ a₁ = { tmps := #[u0, u1, u2, u3, u4, u5, u6, .pointer (some ⟨w.heap.size, 0, none⟩), u8, .pointer (some ⟨Bx, 0, none⟩), u10, u11, u12, u13, u14, u15, u16, u17, u18, u19, u20, u21, u22, u23, u24, u25, u26, u27, u28, u29, u30, u31, u32, u33, u34, u35, u36, u37, u38], defers := [] }
theorem OverAx.mk {g : Nat} {cap : Array Value} {Bo : Nat} {F : List Rn → Int × Int} {w W : World} {pre : List Rn} {x : Rn} (h : Heard w Bo F pre W) (hc : W.heap[w.heap.size]? = some (.cells #[.func (.func g) #[] cap] 67 (0, 0)))
    {Bx : Nat} {u0 u1 u2 u3 u4 u5 u6 u8 u10 u11 u12 u13 u14 u15 u16 u17 u18 u19 u20 u21 u22 u23 u24 u25 u26 u27 u28 u29 u30 u31 u32 u33 u34 u35 u36 u37 u38 : Value} (hB : w.heap.size ≤ Bx) (hx : W.heap[Bx]? = some (.cells #[.int .i64 x.m, .int .i64 x.c, .int .i64 x.many] 65 (0, 0))) :
    OverAx g cap Bo F w pre x { tmps := #[u0, u1, u2, u3, u4, u5, u6, .pointer (some ⟨w.heap.size, 0, none⟩), u8, .pointer (some ⟨Bx, 0, none⟩), u10, u11, u12, u13, u14, u15, u16, u17, u18, u19, u20, u21, u22, u23, u24, u25, u26, u27, u28, u29, u30, u31, u32, u33, u34, u35, u36, u37, u38], defers := [] } W := ⟨h, hc, Bx, _, _, _, _, _, _, _, _, _, _, _, _, _, _, _, _, _, _, _, _, _, _, _, _, _, _, _, _, _, _, _, _, _, _, _, _, _, hB, hx, rfl⟩

theorem Kept.stab {S : Nat → Prop} {w W W' : World} (h : Kept S w W) {n : Nat} (hb : Below n W W') (hn : w.heap.size ≤ n) : Kept S w W' :=
  ⟨hb.os.trans h.os, hb.tape.trans h.tape, hb.output.trans h.output, Nat.le_trans h.size hb.size, fun k hk hS => (hb.block k (by omega)).trans (h.block k hk hS)⟩
theorem blk_stab {W W' : World} {n k : Nat} {o : Obj} (h : W.heap[k]? = some o) (hb : Below n W W') (hk : k < n) : W'.heap[k]? = some o := (hb.block k hk).trans h

set_option maxHeartbeats 2000000 in
set_option maxRecDepth 100000 in
theorem over_any (l : List Sg) (A : Option Addr) (c : Nat) (from_ to : Int) (g : Nat) (cap : Array Value) (eg : Ent g) (Bo : Nat) (F : List Rn → Int × Int) (w : World)
    (hm : l.length ≤ 4611686018427387903) (hS : SliceAt w A (segCells l)) (hA : segCells l ≠ [] → ∀ ad, A = some ad → ad.block ≠ Bo)
    (hb : w.heap[Bo]? = some (.cells #[.int .i64 (F []).1, .int .i64 (F []).2] 35 (0, 0)))
    (hh : ∀ pre x W, Heard w Bo F pre W → FnCalls g cap #[rnVal x] W fun e W' => e = .returned (.tuple #[]) ∧ Heard W Bo F (pre ++ [x]) W') :
    Calls Try.prog 36 #[.slice A l.length c, .int .i64 from_, .int .i64 to, .func (.func g) #[] cap] w (OverEnd w Bo F l from_ to) := by
  obtain ⟨n, hn⟩ : ∃ n, l.length = n := ⟨_, rfl⟩
  have hmay := fun W (h : SliceAt W A (segCells l)) => rleMay l A c W (by omega) h
  rw [hn] at hm hmay ⊢
  have HN := Lib.hid hn
  clear hn
  have hS0 := hS.pure ((Kept.refl _ w).alloc (.cells #[.func (.func g) #[] cap] 67))
  cases hma : may l with
  | false =>
    have HM := Lib.hid hma
    clear hma
    refine callsIn_wide.1 (callsIn_of_wp_marks (n := 0) Try.func36 rfl trivial (wpIn_wide.2 ?_) rfl)
    simp only [Try.ntmps36, List.size_toArray, List.length_cons, List.length_nil, Nat.reduceAdd, Nat.reduceSub, Array.replicate_succ, Array.replicate_zero, List.push_toArray, List.append_toArray, List.nil_append, List.cons_append]
    go_wp2_with fail
    refine (hmay _ hS0).mono ?_
    rintro e w1 ⟨rfl, hK1⟩
    rw [HM.out]
    go_wp2
    refine leave_plain (.inl rfl) (results_tmp rfl _ _ _) ⟨?_, (((Kept.refl _ w).alloc _).then_ hK1 (fun _ _ h => h.elim)), fun h => ?_⟩
    · rw [overErr, if_neg (by rw [HM.out]; decide)]; rfl
    · rw [overErr, if_neg (by rw [HM.out]; decide)] at h; cases h
  | true =>
    have HM := Lib.hid hma
    clear hma
    cases hwin : winOk from_ to with
    | false =>
      have HW := Lib.hid hwin
      have hov : overErr l from_ to = 2 := by rw [overErr, if_pos HM.out, if_neg (by rw [hwin]; decide)]
      have HO := Lib.hid hov
      clear hov
      simp only [winOk, Bool.and_eq_false_iff, okN, decide_eq_false_iff_not] at hwin
      refine callsIn_wide.1 (callsIn_of_wp_marks (n := 0) Try.func36 rfl trivial (wpIn_wide.2 ?_) rfl)
      simp only [Try.ntmps36, List.size_toArray, List.length_cons, List.length_nil, Nat.reduceAdd, Nat.reduceSub, Array.replicate_succ, Array.replicate_zero, List.push_toArray, List.append_toArray, List.nil_append, List.cons_append]
      go_wp2_with fail
      refine (hmay _ hS0).mono ?_
      rintro e w1 ⟨rfl, hK1⟩
      rw [HM.out]
      have hS1 : SliceAt (w1.alloc (.cells #[.int .i64 from_, .int .i64 to] 2)) (some ⟨w1.heap.size, 0, none⟩) ([from_, to].map (Value.int .i64)) := SliceAt.blk (t := 2) (fr := (0, 0)) (blk_new w1 _)
      go_wp2_with fail
      refine (in_any [from_, to] _ _ _ _ rfl (by simp) (by simp) hS1).mono ?_
      rintro e w2 ⟨rfl, rfl⟩
      have hP : Kept (fun i => i = Bo) w (w1.alloc (.cells #[.int .i64 from_, .int .i64 to] 2)) := (((Kept.refl _ w).alloc _).then_ hK1 (fun _ _ h => h.elim)).alloc _
      by_cases hin : okN from_ = true ∧ okN to = true
      · have hall : [from_, to].all okN = true := by simp [hin]
        rw [hall]
        have hd : decide (to ≤ from_) = true ∨ (decide (to ≤ from_) = false ∧ decide (8000 < to - from_) = true) := by
          simp only [okN_iff] at hin
          by_cases h : to ≤ from_
          · exact .inl (by simpa using h)
          · refine .inr ⟨by simpa using h, ?_⟩
            simp
            omega
        have hb1 := (okN_iff.1 hin.1)
        have hb2 := (okN_iff.1 hin.2)
        clear hwin hin
        rcases hd with hd | ⟨hd, hd2⟩
        · simp only [decide_eq_true_eq] at hd
          go_wp2
          refine leave_plain (.inl rfl) (results_tmp rfl _ _ _) ⟨by rw [HO.out]; rfl, hP, fun h => by rw [HO.out] at h; cases h⟩
        · go_wp2
          refine leave_plain (.inl rfl) (results_tmp rfl _ _ _) ⟨by rw [HO.out]; rfl, hP, fun h => by rw [HO.out] at h; cases h⟩
      · have hall : [from_, to].all okN = false := by
          rw [List.all_eq_false]
          by_cases h1 : okN from_ = true
          · exact ⟨to, by simp, fun h2 => hin ⟨h1, h2⟩⟩
          · exact ⟨from_, by simp, h1⟩
        rw [hall]
        clear hwin hin
        go_wp2
        refine leave_plain (.inl rfl) (results_tmp rfl _ _ _) ⟨by rw [HO.out]; rfl, hP, fun h => by rw [HO.out] at h; cases h⟩
    | true =>
      have HW := Lib.hid hwin
      simp only [winOk, Bool.and_eq_true, okN_iff, decide_eq_true_eq] at hwin
      obtain ⟨⟨⟨hf, ht⟩, hlt⟩, hle⟩ := hwin
      refine callsIn_wide.1 (callsIn_of_wp_marks (n := 0) Try.func36 rfl trivial (wpIn_wide.2 ?_) rfl)
      simp only [Try.ntmps36, List.size_toArray, List.length_cons, List.length_nil, Nat.reduceAdd, Nat.reduceSub, Array.replicate_succ, Array.replicate_zero, List.push_toArray, List.append_toArray, List.nil_append, List.cons_append]
      go_wp2_with fail
      refine (hmay _ hS0).mono ?_
      rintro e w1 ⟨rfl, hK1⟩
      rw [HM.out]
      have hS1 : SliceAt (w1.alloc (.cells #[.int .i64 from_, .int .i64 to] 2)) (some ⟨w1.heap.size, 0, none⟩) ([from_, to].map (Value.int .i64)) := SliceAt.blk (t := 2) (fr := (0, 0)) (blk_new w1 _)
      go_wp2_with fail
      refine (in_any [from_, to] _ _ _ _ rfl (by simp) (by simp) hS1).mono ?_
      rintro e w2 ⟨rfl, rfl⟩
      have hin : [from_, to].all okN = true := by simp [okN]; omega
      rw [hin]
      go_wp2_with fail
      refine (runs_any _ _ _ _ _ _).mono ?_
      rintro e w3 ⟨rfl, hw3⟩
      obtain ⟨z, hz⟩ : ∃ z, w1.heap.size = z := ⟨_, rfl⟩
      have hwz : w.heap.size + 1 ≤ z := by rw [← hz]; simpa using hK1.size
      have hzz : ∀ o, (w1.alloc o).heap.size = z + 1 := fun o => by rw [← hz]; simp
      simp only [hzz]
      have hb1 : w3.heap[z + 1]? = some (.cells #[.slice A n c] 29 (0, 0)) := by rw [hw3, ← hzz]; exact blk_alloc (blk_alloc (blk_new _ _) _) _
      have hb2 : w3.heap[z + 1 + 1]? = some (.cells #[.int .i64 from_] 2 (0, 0)) := by rw [hw3, ← hzz]; exact blk_alloc (blk_new1 _ _ _) _
      have hb3 : w3.heap[z + 1 + 1 + 1]? = some (.cells #[.int .i64 to] 2 (0, 0)) := by rw [hw3, ← hzz]; exact blk_new2 _ _ _ _
      have hK3 : Pure w w3 := by rw [hw3]; exact ((((((Kept.refl _ w).alloc _).then_ hK1 (fun _ _ h => h.elim)).alloc _).alloc _).alloc _).alloc _
      have hsz3 : w3.heap.size = z + 1 + 1 + 1 + 1 := by rw [hw3]; simp [hz]
      have hbc : w3.heap[w.heap.size]? = some (.cells #[.func (.func g) #[] cap] 67 (0, 0)) := by rw [hw3]; exact blk_alloc (blk_alloc (blk_alloc (blk_alloc (hK1.blk (blk_new w _) (fun h => h)) _) _) _) _
      clear hw3 hzz hS1 hK1
      go_wp2
      clear hz
      have hBo := blk_lt hb
      have hF0 : Heard w Bo F [] w3 := ⟨hK3.kept, hK3.blk hb (fun h => h)⟩
      have hS3 := hS.pure hK3
      clear hK3 hS0 hS
      refine wp_range (gf := 59) (lb := #[.pointer (some ⟨z + 1 + 1, 0, none⟩), .pointer (some ⟨z + 1, 0, none⟩), .pointer (some ⟨z + 1 + 1 + 1, 0, none⟩)]) rfl (enters_of Try.func59 (by kernel_rfl) rfl) (fun x : Rn => #[rnVal x]) (fun _ => rfl)
        (KpC (fun i => i = Bo)) KpC.trans (fun W l o o' _ h ho => KpC.put W l o o' h ho) (fun xs => xs = runsL l from_ to) (fun _ => True) ?seq
        (fun pre W => Heard w Bo F pre W ∧ W.heap[w.heap.size]? = some (.cells #[.func (.func g) #[] cap] 67 (0, 0))) (fun _ _ _ => False) ?stI ?stX ⟨hF0, hbc⟩ (OverAx g cap Bo F w) ?stA ?assign ?body ?done ?stop
      case seq =>
        intro L J Jx W hW hJ hJx hY h0
        have hzW := hW.size
        exact runs1 (z + 1 + 1) (z + 1) (z + 1 + 1 + 1) l A c from_ to (fun i => i = Bo) L J Jx W (by omega) (by omega) (by omega) hA (fun i h => by omega)
          (blk_stab hb2 hW (by omega)) (by rw [HN.out]; exact blk_stab hb1 hW (by omega)) (blk_stab hb3 hW (by omega)) (hS3.pure (Pure.of_below hW)) (by have := HN.out; omega) (may_ok HM.out) (okN_iff.2 hf) (okN_iff.2 ht) hJ hY h0
      case stI =>
        rintro s W W' ⟨⟨h1, h2⟩, h3⟩ hB
        exact ⟨⟨h1.stab hB (by omega), blk_stab h2 hB (by omega)⟩, blk_stab h3 hB (by omega)⟩
      case stX => exact fun _ _ _ _ h _ => h
      case stA =>
        rintro s x a₁ W L o o' ⟨⟨h1, h2⟩, h3, Bx, u0, u1, u2, u3, u4, u5, u6, u8, u10, u11, u12, u13, u14, u15, u16, u17, u18, u19, u20, u21, u22, u23, u24, u25, u26, u27, u28, u29, u30, u31, u32, u33, u34, u35, u36, u37, u38, hB, hx, rfl⟩ hl ho hc
        exact OverAx.mk ⟨h1.put _ (.inr (by omega)), blk_put h2 _ (by omega)⟩ (blk_put h3 _ (by omega)) hB (blk_put hx _ (by rintro rfl; rw [hx] at ho; cases ho; cases hc))
      case assign =>
        rintro L pre x W hl ⟨h1, h2⟩
        simp only [rnVal]
        gi_wp2
        exact ⟨(KeepsOthers.alloc W _).from _, KpC.of_kept ((Kept.refl _ W).alloc _), OverAx.mk ⟨h1.1.alloc _, blk_alloc h1.2 _⟩ (blk_alloc h2 _) h1.1.size (blk_new W _)⟩
      case body =>
        rintro L pre x a₁ W hl ⟨h1, hc, Bx, u0, u1, u2, u3, u4, u5, u6, u8, u10, u11, u12, u13, u14, u15, u16, u17, u18, u19, u20, u21, u22, u23, u24, u25, u26, u27, u28, u29, u30, u31, u32, u33, u34, u35, u36, u37, u38, hB, hx, rfl⟩
        have hcall := hh pre x W h1
        unfold FnCalls at hcall
        simp only [rnVal] at hcall
        unfold Ent at eg
        obtain ⟨c0, f0⟩ := blk1 hc
        obtain ⟨c1, c2, c3, f1⟩ := blk3 hx
        gi_wp2_with fail
        refine ⟨trivial, rfl, CallsIn.inRound L (callsIn_wide.2 (hcall.mono ?_))⟩
        rintro e W' ⟨rfl, h2⟩
        gi_wp2
        exact ⟨keepsFrom_of_kept h2.1 (by omega), KpC.of_kept h2.1, ⟨h1.1.trans h2.1, h2.2⟩, h2.1.blk hc (by omega)⟩
      case done =>
        rintro D xs W hD rfl ⟨h1, h2⟩ hd
        go_wp2
        have hov : overErr l from_ to = 0 := by rw [overErr, if_pos HM.out, if_pos HW.out]
        refine leave_mark (.inl rfl) hd (results_tmp rfl _ _ _) ⟨by rw [hov]; rfl, h1.1.put _ (.inr (by omega)), fun _ => blk_put h1.2 _ (by omega)⟩
      case stop => exact fun _ _ _ _ _ _ h _ => h.elim
end Go.Proofs.Ytffkgkondfdmfaa
