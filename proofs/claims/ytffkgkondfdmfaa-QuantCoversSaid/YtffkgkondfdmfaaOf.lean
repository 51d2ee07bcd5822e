/- rle.Of at rows that rise. -/
import Derived.Test.YtffkgkondfdmfaaStable
import Derived.Test.YtffkgkondfdmfaaIdx
import Derived.Lib.SliceRun
set_option linter.unusedVariables false
set_option linter.unusedSimpArgs false
namespace Go.Proofs.Ytffkgkondfdmfaa
open Go.RowKit Go.Shelf

/-! ### slices.Clone -/
theorem clone_any (l : List Sg) (A : Option Addr) (n c : Nat) (w : World) (hn : Hid (l.length = n)) (hm : n ≤ 1000000000000) (hS : SliceAt w A (segCells l)) :
    Calls Try.prog 53 #[.slice A n c] w fun e w' => (∃ v, e = .returned v ∧ w'.ownsRow w.heap.size 42 3 v n (segCells l)) ∧ Pure w w' := by
  have qT : ∀ (w : World) (a : Option Addr) (n c n' c' : Nat), (binOp .eql 29 (.slice a n c) (.slice none n' c')).run Try.prog w = .ok (.bool a.isNone) w := fun w a n c n' c' => Lib.run_eql_slice_nil w _ _ a n c n' c' Try.underlying29
  cases A with
  | none =>
    obtain rfl : n = 0 := by
      rcases Nat.eq_zero_or_pos n with h | h
      · exact h
      · obtain ⟨_, e, _⟩ := hS (segCells_ne (by have := hn.out; omega))
        cases e
    go_enter Try.func53, Try.ntmps53
    go_wp2
    go_ret
    have hl : l = [] := List.eq_nil_of_length_eq_zero hn.out
    exact ⟨⟨_, rfl, by rw [hl]; exact World.ownsRow_nil _ _ _ _⟩, Kept.refl _ _⟩
  | some ad =>
    have hlen : (segCells l).length = n * 3 := by rw [segCells_length]; have := hn.out; omega
    have HL := Lib.hid hlen
    clear hlen
    go_enter Try.func53, Try.ntmps53
    go_wp2_with (at_builtin; refine append_slice (W := w.alloc (.cells #[] 42)) w.heap.size rfl (.tmp 5) (.tmp 6) 29 42 _ 3 24 rfl Try.underlying29 segInfo rfl (by omega) (by omega) (.slice (some ⟨w.heap.size, 0, none⟩) 0 0) 0 n c ad [] (segCells l) rfl rfl HL.out (seg_one l) (hS.pure ((Kept.refl _ w).alloc _)) (World.ownsRow_lit w #[] 0 (Nat.le_refl _) (Nat.zero_le _) rfl) (by simp) (by omega) ?_; intro v1 w1 hown hg hat)
    go_ret
    refine ⟨⟨v1, rfl, by simpa using hown⟩, ((Kept.refl _ w).alloc _).grown' hg ?_⟩
    intro k hk
    have : w.heap.size = k := by simpa [Value.ownBlock] using hk
    exact .inr (by omega)

/-! ### rle.folded -/
/-- What put does. -/
def putStep (s : List Sg × Int × Int) (x : Sg) : List Sg × Int × Int := if vEq x.m x.c s.2.1 s.2.2 = true then s else (s.1 ++ [x], x.m, x.c)
/-- What has been put, and the last value, when k runs have been looked at. -/
def foldSt (l : List Sg) : Nat → List Sg × Int × Int
  | 0 => ([], 0, 0)
  | k + 1 =>
    if k + 1 = l.length ∨ (l.getD (k + 1) ⟨0, 0, 0⟩).t ≠ (l.getD k ⟨0, 0, 0⟩).t then putStep (foldSt l k) (l.getD k ⟨0, 0, 0⟩) else foldSt l k
def ofL (l : List Sg) : List Sg := (foldSt l l.length).1
theorem foldSt_len (l : List Sg) : ∀ k, (foldSt l k).1.length ≤ k
  | 0 => Nat.le_refl _
  | k + 1 => by
    have ih := foldSt_len l k
    unfold foldSt putStep
    split
    · split
      · omega
      · simp; omega
    · omega

/-- What put's variables hold. -/
def PutSt (base B5 B4 : Nat) (o : List Sg) (m c : Int) (v : Value) (W : World) : Prop :=
  W.heap[B5]? = some (.cells #[.int .i64 m, .int .i64 c] 35 (0, 0)) ∧ W.heap[B4]? = some (.cells #[v] 29 (0, 0)) ∧ W.ownsRow base 42 3 v o.length (segCells o)
def PutEnd (base B5 B4 : Nat) (o : List Sg) (m c : Int) (v : Value) (W : World) (e : Ending) (W' : World) : Prop :=
  e = .returned (.tuple #[]) ∧ Kept (fun k => k = B4 ∨ k = B5 ∨ some k = v.ownBlock) W W' ∧ ∃ v', PutSt base B5 B4 o m c v' W' ∧ (v'.ownBlock = v.ownBlock ∨ ∃ b, v'.ownBlock = some b ∧ W.heap.size ≤ b)

attribute [local go_sem high] eqIn_vec
set_option maxHeartbeats 1000000 in
theorem put_same (base B5 B4 : Nat) (o : List Sg) (m c : Int) (v : Value) (x : Sg) (W : World) (h : PutSt base B5 B4 o m c v W) (he : vEq x.m x.c m c = true) :
    FnCalls 56 #[.pointer (some ⟨B5, 0, none⟩), .pointer (some ⟨B4, 0, none⟩)] #[sgVal x] W (PutEnd base B5 B4 o m c v W) := by
  obtain ⟨h5, h4, ho⟩ := h
  unfold FnCalls sgVal
  have hl5 := blk_lt h5
  obtain ⟨c50, c51, f5⟩ := blk2 h5
  go_enter Try.func56, Try.ntmps56
  go_wp2
  go_end0
  exact ⟨rfl, (Kept.refl _ W).alloc _, v, ⟨blk_alloc h5 _, blk_alloc h4 _, ho.alloc _⟩, .inl rfl⟩

set_option maxHeartbeats 1000000 in
theorem put_new (base B5 B4 : Nat) (o : List Sg) (m c : Int) (v : Value) (x : Sg) (W : World) (h : PutSt base B5 B4 o m c v W) (he : vEq x.m x.c m c = false) (hB : base ≤ W.heap.size) (hlen : o.length ≤ 1000000000000) :
    FnCalls 56 #[.pointer (some ⟨B5, 0, none⟩), .pointer (some ⟨B4, 0, none⟩)] #[sgVal x] W (PutEnd base B5 B4 (o ++ [x]) x.m x.c v W) := by
  obtain ⟨h5, h4, ho⟩ := h
  unfold FnCalls sgVal
  have hl5 := blk_lt h5
  have hl4 := blk_lt h4
  obtain ⟨c50, c51, f5⟩ := blk2 h5
  obtain ⟨c40, f4⟩ := blk1 h4
  have hB1 : base ≤ (W.alloc (.cells #[.int .i64 x.t, .int .i64 x.m, .int .i64 x.c] 42)).heap.size := by simp; omega
  have hlen1 : (o.length + 1) * 24 ≤ 140737488355328 := by omega
  have n5 : some B5 ≠ v.ownBlock := fun e => own_ne_block ho h5 (by decide) e.symm
  have n4 : some B4 ≠ v.ownBlock := fun e => own_ne_block ho h4 (by decide) e.symm
  have nx : some W.heap.size ≠ v.ownBlock := fun e => by have := own_lt ho _ e.symm; omega
  have h54 : B5 ≠ B4 := fun e => by subst e; rw [h5] at h4; simp at h4
  go_enter Try.func56, Try.ntmps56
  go_wp2_with (at_builtin; refine append_cells (W := W.alloc (.cells #[.int .i64 x.t, .int .i64 x.m, .int .i64 x.c] 42)) base rfl (.tmp 8) (.tmp 10) 29 42 _ 3 24 rfl Try.underlying29 segInfo rfl (by omega) (by omega) v o.length (segCells o) [.int .i64 x.t, .int .i64 x.m, .int .i64 x.c] rfl rfl (World.size_alloc _ _).symm rfl (seg_one [x]) (ho.alloc _) hB1 hlen1 ?_; intro v1 w1 hown hg hat; obtain ⟨A1, c1, rfl, _⟩ := own_slice hown; have k5 := (hg.block B5 (by simp; omega) n5).trans (blk_alloc h5 _); have k4 := (hg.block B4 (by simp; omega) n4).trans (blk_alloc h4 _); have kx := (hg.block W.heap.size (by simp) nx).trans (blk_new W _); obtain ⟨d50, d51, e5⟩ := blk2 k5; obtain ⟨d40, e4⟩ := blk1 k4; obtain ⟨dx0, dx1, dx2, ex⟩ := blk3 kx)
  go_end0
  have hlast : (o ++ [x]).length = o.length + 1 := by simp
  refine ⟨rfl, ?_, .slice A1 (o.length + 1) c1, ⟨blk_set (blk_set (blk_far k5 h54 _) 0 _) 1 _, blk_far (blk_far (blk_set k4 0 _) h54.symm _) h54.symm _, ?_⟩, ?_⟩
  · exact (((((Kept.refl (fun k => k = B4 ∨ k = B5 ∨ some k = v.ownBlock) W).alloc _).grown' hg (fun k hk => .inl (.inr (.inr hk.symm)))).setCell (p := ⟨B4, 0, none⟩) (.inl (.inl rfl)) _).setCell (p := ⟨B5, 0, none⟩) (.inl (.inr (.inl rfl))) _).setCell (p := ⟨B5, 1, none⟩) (.inl (.inr (.inl rfl))) _
  · rw [hlast, segCells_snoc]
    exact own_far (own_far (own_far hown (own_ne_block hown k4 (by decide)) _) (own_ne_block hown k5 (by decide)) _) (own_ne_block hown k5 (by decide)) _
  · rcases hat with h | ⟨b, h, hb⟩
    · exact .inl h
    · exact .inr ⟨b, h, by simp at hb; omega⟩

theorem put_any (base B5 B4 : Nat) (st : List Sg × Int × Int) (v : Value) (x : Sg) (W : World) (h : PutSt base B5 B4 st.1 st.2.1 st.2.2 v W) (hB : base ≤ W.heap.size) (hlen : st.1.length ≤ 1000000000000) :
    FnCalls 56 #[.pointer (some ⟨B5, 0, none⟩), .pointer (some ⟨B4, 0, none⟩)] #[sgVal x] W (PutEnd base B5 B4 (putStep st x).1 (putStep st x).2.1 (putStep st x).2.2 v W) := by
  unfold putStep
  cases he : vEq x.m x.c st.2.1 st.2.2 with
  | true => rw [if_pos rfl]; exact put_same base B5 B4 _ _ _ v x W h he
  | false => rw [if_neg (by decide)]; exact put_new base B5 B4 _ _ _ v x W h he hB hlen

theorem foldSt_put {l : List Sg} {k : Nat} (hk : k < l.length) (h : k + 1 = l.length ∨ ∃ h : k + 1 < l.length, l[k + 1].t ≠ l[k].t) : foldSt l (k + 1) = putStep (foldSt l k) l[k] := by
  have hg : l.getD k ⟨0, 0, 0⟩ = l[k] := by simp [List.getD_eq_getElem?_getD, hk]
  rw [foldSt, hg]
  refine if_pos ?_
  rcases h with h | ⟨h, hne⟩
  · exact .inl h
  · refine .inr ?_
    simpa [List.getD_eq_getElem?_getD, h] using hne
theorem foldSt_skip {l : List Sg} {k : Nat} (hk : k + 1 < l.length) (h : l[k + 1].t = l[k].t) : foldSt l (k + 1) = foldSt l k := by
  rw [foldSt]
  refine if_neg ?_
  have hk' : k < l.length := by omega
  simp [List.getD_eq_getElem?_getD, hk, hk', h]
  omega

/-- What holds at the loop's head. -/
def FoldAt (l : List Sg) (w2 : World) (k : Nat) (v : Value) (wr : World) : Prop :=
  Pure w2 wr ∧ PutSt w2.heap.size (w2.heap.size + 1) w2.heap.size (foldSt l k).1 (foldSt l k).2.1 (foldSt l k).2.2 v wr

theorem FoldAt.put {l : List Sg} {w2 : World} {k : Nat} {v : Value} {wr : World} {o : Obj} (h : FoldAt l w2 k v wr) (hk : k < l.length) (hp : k + 1 = l.length ∨ ∃ h : k + 1 < l.length, l[k + 1].t ≠ l[k].t) {e : Ending} {W W' : World} (hW : W = wr.alloc o ∨ W = (wr.alloc o).drew ∨ ∃ n, W = (wr.alloc o).drewN n)
    (he : PutEnd w2.heap.size (w2.heap.size + 1) w2.heap.size (putStep (foldSt l k) l[k]).1 (putStep (foldSt l k) l[k]).2.1 (putStep (foldSt l k) l[k]).2.2 v W e W') :
    e = .returned (.tuple #[]) ∧ ∃ v', FoldAt l w2 (k + 1) v' W' := by
  obtain ⟨h1, h5, h4, ho⟩ := h
  obtain ⟨e1, hK, v', hst, _⟩ := he
  refine ⟨e1, v', ?_, by rw [foldSt_put hk hp]; exact hst⟩
  have hPW : Pure w2 W := by
    rcases hW with rfl | rfl | ⟨n, rfl⟩
    · exact h1.alloc _
    · exact (h1.alloc _).drew
    · exact (h1.alloc _).drewN _
  refine hPW.then_ hK fun i hi hs => ?_
  rcases hs with rfl | rfl | hs
  · omega
  · omega
  · have := own_base ho _ hs.symm
    omega

theorem PutSt.alloc {base B5 B4 : Nat} {o : List Sg} {m c : Int} {v : Value} {W : World} (h : PutSt base B5 B4 o m c v W) (x : Obj) : PutSt base B5 B4 o m c v (W.alloc x) := ⟨blk_alloc h.1 _, blk_alloc h.2.1 _, h.2.2.alloc _⟩
theorem PutSt.drewN {base B5 B4 : Nat} {o : List Sg} {m c : Int} {v : Value} {W : World} (h : PutSt base B5 B4 o m c v W) (n : Nat) : PutSt base B5 B4 o m c v (W.drewN n) := ⟨h.1, h.2.1, h.2.2⟩
theorem PutSt.drew {base B5 B4 : Nat} {o : List Sg} {m c : Int} {v : Value} {W : World} (h : PutSt base B5 B4 o m c v W) : PutSt base B5 B4 o m c v W.drew := h.drewN 1

set_option maxHeartbeats 2000000 in
set_option maxRecDepth 100000 in
theorem folded_any (l : List Sg) (A : Option Addr) (n c : Nat) (w : World) (hn : Hid (l.length = n)) (hm : n ≤ 1000000000000) (hr : Rises l) (hS : SliceAt w A (segCells l)) :
    Calls Try.prog 43 #[.slice A n c] w fun e w' => (∃ v, e = .returned v ∧ OwnSegs w' w.heap.size v (ofL l)) ∧ Pure w w' := by
  have hcl := clone_any l A n c w hn hm hS
  go_enter Try.func43, Try.ntmps43
  go_wp2_with fail
  refine hcl.mono ?_
  rintro e w1 ⟨⟨v0, rfl, hown⟩, hK1⟩
  obtain ⟨A0, c0, rfl, hS0, hA0⟩ := own_slice hown
  have hsort := sortStable (.slice A0 n c0) l A0 n c0 w1 hn (by omega) hr hS0
  go_wp2_with fail
  refine hsort.mono ?_
  rintro e w2 ⟨rfl, hK2⟩
  have hP : Pure w w2 := hK1.trans hK2
  have hS2 := hS0.pure hK2
  clear hsort hcl hA0 hS0 hown hK1 hK2 hS
  go_wp2
  go_loopw [18, 7, 8] (fun i _ _ wr => ∃ (k : Nat) (v : Value), k ≤ n ∧ i = .int .i64 k ∧ FoldAt l w2 k v wr) (fun i _ _ _ => n - (intOf i).toNat)
  case atStart => exact ⟨0, _, Nat.zero_le _, rfl, ((Kept.refl _ w2).alloc _).alloc _, blk_new1 w2 _ _, blk_alloc (blk_new w2 _) _, World.ownsRow_nil _ _ _ _⟩
  case round =>
    obtain ⟨k, v, hk, rfl, hF⟩ := hrel
    by_cases hlt : k < n
    · have hkl : k < l.length := by have := hn.out; omega
      obtain ⟨ad, rfl, g1, g2, g3⟩ := seg_at (hS2.pure hF.1) k hkl
      have hput := fun (W : World) (hst : PutSt w2.heap.size (w2.heap.size + 1) w2.heap.size (foldSt l k).1 (foldSt l k).2.1 (foldSt l k).2.2 v W) (hB : w2.heap.size ≤ W.heap.size) => put_any w2.heap.size (w2.heap.size + 1) w2.heap.size (foldSt l k) v l[k] W hst hB (Nat.le_trans (foldSt_len l k) (by omega))
      unfold FnCalls sgVal at hput
      by_cases hend : k + 1 = n
      · have hbe : ((k : Int) + 1 == (n : Int)) = true := by simp; omega
        have he := Lib.hid hend
        clear hend
        go_wp2_with fail
        go_quiet (fail)
        go_wp2_with fail
        refine (hput _ ((hF.2.alloc _).drewN _) (by have := hF.1.size; simp at this ⊢; omega)).mono ?_
        intro e w3 hw3
        obtain ⟨rfl, v3, hF3⟩ := hF.put hkl (.inl (by have := he.out; have := hn.out; omega)) (.inr (.inr ⟨_, rfl⟩)) hw3
        clear hput hw3
        go_wp2
        exact ⟨⟨k + 1, v3, by have := he.out; omega, by push_cast; rfl, hF3⟩, by simp [intOf]; omega⟩
      · have hk1 : k + 1 < l.length := by have := hn.out; omega
        obtain ⟨ad', had, g4, g5, g6⟩ := seg_at (hS2.pure hF.1) (k + 1) hk1
        obtain rfl := Option.some.inj had
        have hst : l[k + 1].t ≠ l[k].t → foldSt l (k + 1) = putStep (foldSt l k) l[k] := fun h => foldSt_put hkl (.inr ⟨hk1, h⟩)
        have hF2 := hF
        obtain ⟨k1, hk1e⟩ : ∃ k1, Hid (k + 1 = k1) := ⟨k + 1, rfl⟩
        have hn1 : k1 < n := by have := hk1e.out; omega
        have hwk : IntKind.i64.wrap ((k : Int) + 1) = (k1 : Int) := by rw [IntWalk.i64_in _ (by omega), ← hk1e.out]; push_cast; rfl
        have hne1 : k1 ≠ n := by omega
        have hbe : ((k1 : Int) == (n : Int)) = false := by simp; omega
        have hbe1 : (k1 == n) = false := by simp; omega
        have hq' : FoldAt l w2 k v wr → k1 ≤ n ∧ n - k1 < n - k := fun _ => ⟨by omega, by have := hk1e.out; omega⟩
        have hsk : l[k + 1].t = l[k].t → foldSt l k1 = foldSt l k := fun h => by rw [← hk1e.out]; exact foldSt_skip hk1 h
        have hpt : ∀ {e : Ending} {W' : World} {o : Obj} {q : Nat}, PutEnd w2.heap.size (w2.heap.size + 1) w2.heap.size (putStep (foldSt l k) l[k]).1 (putStep (foldSt l k) l[k]).2.1 (putStep (foldSt l k) l[k]).2.2 v ((wr.alloc o).drewN q) e W' → l[k + 1].t ≠ l[k].t → e = .returned (.tuple #[]) ∧ ∃ v', FoldAt l w2 k1 v' W' := fun he hne => by
          rw [← hk1e.out]; exact hF2.put hkl (.inr ⟨hk1, hne⟩) (.inr (.inr ⟨_, rfl⟩)) he
        clear hst g5 g6
        generalize hb : l[k + 1] = b at g4 hsk hpt
        rw [hk1e.out] at g4
        clear hend hwk hb hk1
        have gA : ∀ o, (wr.alloc o).cell? (ad.add (k1 * 3)) = some (.int .i64 b.t) := fun o => ((Kept.refl (fun _ => False) wr).alloc o).cell g4 id
        have hwk : IntKind.i64.wrap ((k : Int) + 1) = (k1 : Int) := by rw [IntWalk.i64_in _ (by omega), ← hk1e.out]; push_cast; rfl
        by_cases heq : b.t = l[k].t
        · have hbt : (b.t == l[k].t) = true := by simpa using heq
          have hbt' : (b.t != l[k].t) = false := by simpa using heq
          have hsk := hsk heq
          clear heq hput hpt
          go_wp2_with fail
          go_quiet (fail)
          go_wp2
          exact ⟨⟨k1, v, (hq' hF2).1, rfl, (hF2.1.alloc _).drewN _, by rw [hsk]; exact (hF2.2.alloc _).drewN _⟩, by simpa [intOf] using (hq' hF2).2⟩
        · have hbt : (b.t == l[k].t) = false := by simpa using heq
          have hbt' : (b.t != l[k].t) = true := by simpa using heq
          have hpt := fun e W' o q h => hpt (e := e) (W' := W') (o := o) (q := q) h heq
          have hl := Lib.hid heq
          clear heq hsk
          go_wp2_with fail
          go_quiet (fail)
          go_wp2_with fail
          refine (hput _ ((hF.2.alloc _).drewN _) (by have := hF.1.size; simp at this ⊢; omega)).mono ?_
          intro e w3 hw3
          obtain ⟨rfl, v3, hF3⟩ := hpt _ _ _ _ hw3
          clear hput hw3 hpt
          go_wp2
          exact ⟨⟨k1, v3, (hq' hF).1, rfl, hF3⟩, by simpa [intOf] using (hq' hF).2⟩
    · obtain rfl : k = n := by omega
      have hF2 := hF
      obtain ⟨hPw, h5, h4, ho⟩ := hF
      obtain ⟨c40, f4⟩ := blk1 h4
      clear hF2
      go_wp2
      have hf : ofL l = (foldSt l k).1 := by unfold ofL; rw [hn.out]
      go_ret
      exact ⟨⟨_, rfl, by rw [hf]; exact own_lower ho hP.size⟩, hP.trans hPw⟩

/-! ### rle.Of -/
theorem ofBad_any (s : Sg) (w : World) : FnCalls 41 #[] #[sgVal s] w fun e w' => e = .returned (.bool (!sgOk s)) ∧ Pure w w' := by
  have hin := fun W => rleIn s W
  unfold FnCalls sgVal
  unfold sgVal at hin
  go_enter Try.func41, Try.ntmps41
  go_wp2_with fail
  refine (hin _).mono ?_
  rintro e w1 ⟨rfl, hK⟩
  clear hin
  go_wp2
  go_ret
  exact ⟨rfl, ((Kept.refl _ w).alloc _).then_ hK (fun _ _ h => h)⟩

/-- rle.Of on rising runs: the folded runs, or the error of a value that is out of range. -/
theorem of_any (l : List Sg) (A : Option Addr) (n c : Nat) (w : World) (hn : Hid (l.length = n)) (hm : n ≤ 1000000000000) (hr : Rises l) (hS : SliceAt w A (segCells l)) :
    Calls Try.prog 30 #[.slice A n c] w fun e w' => (∃ v, e = .returned (.tuple #[v, .int .i64 (if l.all sgOk then 0 else 10)]) ∧ OwnSegs w' w.heap.size v (if l.all sgOk then ofL l else [])) ∧ Pure w w' := by
  have hall : (!(l.any fun s => !sgOk s)) = l.all sgOk := by
    clear hn hr hS
    induction l with
    | nil => rfl
    | cons a l ih => simp only [List.any_cons, List.all_cons, Bool.not_or, Bool.not_not, ih]
  have hco := contFunc_pure 41 #[] (enters_of Try.func41 (by kernel_rfl) rfl) A l w (by have := hn.out; omega) c (fun s => !sgOk s) hS (fun s _ W _ => ofBad_any s W)
  rw [hn.out] at hco
  have hfo := fun W (h : Pure w W) => folded_any l A n c W hn hm hr (hS.pure h)
  clear hS hr hn
  generalize (l.any fun s => !sgOk s) = bb at hall hco
  cases hb : l.all sgOk with
  | true =>
    obtain rfl : bb = false := by rw [hb] at hall; cases bb <;> simp_all
    clear hall
    simp only [if_true]
    go_enter Try.func30, Try.ntmps30
    go_wp2_with fail
    refine hco.mono ?_
    rintro e w1 ⟨rfl, hK⟩
    have hfo := hfo w1 hK
    clear hco
    go_wp2_with fail
    refine hfo.mono ?_
    rintro e w2 ⟨⟨v, rfl, ho⟩, hK2⟩
    go_wp2
    go_ret2
    exact ⟨⟨v, rfl, own_lower ho hK.size⟩, hK.trans hK2⟩
  | false =>
    obtain rfl : bb = true := by rw [hb] at hall; cases bb <;> simp_all
    clear hall hfo
    simp only [Bool.false_eq_true, if_false]
    go_enter Try.func30, Try.ntmps30
    go_wp2_with fail
    refine hco.mono ?_
    rintro e w1 ⟨rfl, hK⟩
    clear hco
    go_wp2
    go_ret2
    exact ⟨⟨_, rfl, World.ownsRow_nil _ _ _ _⟩, hK⟩
end Go.Proofs.Ytffkgkondfdmfaa
