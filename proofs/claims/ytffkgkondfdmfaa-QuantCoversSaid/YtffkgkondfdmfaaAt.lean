/- rle.At: the value at a time. -/
import Derived.Test.YtffkgkondfdmfaaSort
set_option linter.unusedVariables false
set_option linter.unusedSimpArgs false
namespace Go.Proofs.Ytffkgkondfdmfaa
open Go.RowKit Go.Shelf

/-- The value of runs in any order at a time. -/
def atV (l : List Sg) (t : Int) : Int × Int := l.foldl (fun v s => if s.t ≤ t then (s.m, s.c) else v) (0, 0)
theorem atV_snoc (l : List Sg) (s : Sg) (t : Int) : atV (l ++ [s]) t = if s.t ≤ t then (s.m, s.c) else atV l t := by simp [atV, List.foldl_append]
theorem take_snoc {α : Type} (l : List α) (k : Nat) (h : k < l.length) : l.take (k + 1) = l.take k ++ [l[k]] := List.take_succ_eq_append_getElem h

theorem slow_any (A : Option Addr) (c : Nat) (l : List Sg) (t : Int) (w : World) (hm : l.length ≤ 9223372036854775807) (hS : SliceAt w A (segCells l)) :
    Calls Try.prog 61 #[.slice A l.length c, .int .i64 t] w fun e w' => e = .returned (.agg #[.int .i64 (atV l t).1, .int .i64 (atV l t).2]) ∧ Pure w w' := by
  obtain ⟨n, hn⟩ : ∃ n, l.length = n := ⟨_, rfl⟩
  rw [hn] at hm ⊢
  have HN := Lib.hid hn
  clear hn
  go_enter Try.func61, Try.ntmps61
  go_wp2
  go_loopw [7, 10] (fun _ i wr => ∃ k : Nat, k ≤ n ∧ i = .int .i64 k ∧ Pure w wr ∧ wr.heap[w.heap.size]? = some (.cells #[.int .i64 0, .int .i64 0] 35 (0, 0)) ∧
    wr.heap[w.heap.size + 1]? = some (.cells #[.int .i64 (atV (l.take k) t).1, .int .i64 (atV (l.take k) t).2] 35 (0, 0))) (fun _ i _ => n - (intOf i).toNat)
  case atStart => exact ⟨0, Nat.zero_le _, rfl, ((Kept.refl _ w).alloc _).alloc _, blk_alloc (blk_new w _) _, blk_new1 w _ _⟩
  case round =>
    obtain ⟨k, hk, rfl, hK, hb0, hb1⟩ := hrel
    obtain ⟨c00, c01, f0⟩ := blk2 hb0
    obtain ⟨c10, c11, f1⟩ := blk2 hb1
    have hz1 := blk_lt hb1
    by_cases hlt : k < n
    · have hk1 : k < l.length := by have := HN.out; omega
      obtain ⟨ad, rfl, h1, h2, h3⟩ := seg_at (hS.pure hK) k hk1
      have hts := Lib.hid (take_snoc l k hk1)
      by_cases ht : l[k].t ≤ t
      · go_wp2
        go_roundw
        case rel =>
          refine ⟨k + 1, by omega, by go_num, ((hK.setCell (p := ⟨w.heap.size + 1, 0, none⟩) (.inr (by simp)) _).setCell (p := ⟨w.heap.size + 1, 1, none⟩) (.inr (by simp)) _).alloc _, blk_alloc (blk_far (blk_far hb0 (by simp) _) (by simp) _) _, ?_⟩
          rw [hts.out, atV_snoc, if_pos ht]
          exact blk_alloc (blk_set (blk_set hb1 0 _) 1 _) _
        case measure => simp [intOf]; omega
      · go_wp2
        go_roundw
        case rel =>
          refine ⟨k + 1, by omega, by go_num, hK.alloc _, blk_alloc hb0 _, ?_⟩
          rw [hts.out, atV_snoc, if_neg (by omega)]
          exact blk_alloc hb1 _
        case measure => simp [intOf]; omega
    · have hl : l.take k = l := List.take_of_length_le (by have := HN.out; omega)
      rw [hl] at hb1 c10 c11
      go_wp2
      refine bodyPost_ret (v := .agg #[.int .i64 (atV l t).1, .int .i64 (atV l t).2]) (by simp [results, Try.results61, go_sem, c00, c01, hz1]) rfl ⟨rfl, ?_⟩
      exact (hK.setCell (p := ⟨w.heap.size, 0, none⟩) (.inr (by simp)) _).setCell (p := ⟨w.heap.size, 1, none⟩) (.inr (by simp)) _

theorem fold_keep (l : List Sg) (t : Int) : ∀ (v : Int × Int), (∀ s ∈ l, t < s.t) → l.foldl (fun v s => if s.t ≤ t then (s.m, s.c) else v) v = v := by
  induction l with
  | nil => intro v _; rfl
  | cons s l ih =>
    intro v h
    rw [List.foldl_cons, if_neg (by have := h s (by simp); omega)]
    exact ih v fun s hs => h s (by simp [hs])
/-- Of rising runs the last one that has begun. -/
theorem atV_split (l : List Sg) (t : Int) (k : Nat) (hk : k ≤ l.length) (h1 : ∀ j (h : j < l.length), j < k → l[j].t ≤ t) (h2 : ∀ j (h : j < l.length), k ≤ j → t < l[j].t) :
    atV l t = if h : 0 < k then (l[k - 1].m, l[k - 1].c) else (0, 0) := by
  have hd : atV l t = atV (l.take k) t := by
    unfold atV
    conv => lhs; rw [← List.take_append_drop k l, List.foldl_append]
    refine fold_keep _ _ _ fun s hs => ?_
    obtain ⟨j, hj, rfl⟩ := List.getElem_of_mem hs
    rw [List.getElem_drop]
    exact h2 _ _ (by omega)
  rw [hd]
  by_cases h : 0 < k
  · rw [dif_pos h]
    obtain ⟨i, rfl⟩ : ∃ i, k = i + 1 := ⟨k - 1, by omega⟩
    rw [take_snoc l i (by omega), atV_snoc, if_pos (h1 i (by omega) (by omega))]
    rfl
  · rw [dif_neg h]
    obtain rfl : k = 0 := by omega
    rfl

theorem risesB_le (l : List Sg) (h : risesB l = true) : ∀ i j (hj : j < l.length) (hi : i ≤ j), (l[i]'(by omega)).t ≤ l[j].t := by
  intro i j hj hi
  induction j with
  | zero => obtain rfl : i = 0 := by omega
            omega
  | succ j ih =>
    rcases Nat.lt_or_ge i (j + 1) with hlt | hge
    · have h1 := ih (by omega) (by omega)
      have h2 := (List.all_eq_true.1 h) j (by simp; omega)
      have hj' : j < l.length := by omega
      simp [List.getD_eq_getElem?_getD, hj, hj'] at h2
      omega
    · obtain rfl : i = j + 1 := by omega
      omega

section
variable {P : Program} {a : Act} {w : World} {Q : Exit → Act → World → Prop}
/-- 'wp_scope_jumps', the pass walked once. -/
theorem wp_scope_pass {c R : Code} (l : Nat) (J : Act → World → Prop) (μ : Act → World → Nat) (hf : findLabel c l = some (.seq .skip R))
    (pass : ∀ a w, J a w → R.wp P (Exit.jump l (fun a' w' => J a' w' ∧ μ a' w' < μ a w) Q) a w)
    (first : (∀ a w, J a w → R.wp P (Exit.jump l J Q) a w) → c.wp P (Exit.jump l J Q) a w) : (Code.scope c).wp P Q a w :=
  wp_scope_jumps l J μ hf (first fun a w h => Code.wp_mono (fun e a w q => by cases e <;> first | exact q | exact ⟨q.1, q.2.1⟩) (pass a w h)) fun a w h => wp_seq (wp_skip (pass a w h))
end

/-- What holds at the label. -/
def HalfAt (A : Option Addr) (n c : Nat) (l : List Sg) (t : Int) (w : World) (a' : Act) (w' : World) : Prop :=
  Pure w w' ∧ w'.heap[w.heap.size]? = some (.cells #[.int .i64 0, .int .i64 0] 35 (0, 0)) ∧
    ∃ (lo hi : Nat) (u2 u3 u7 u8 u9 u10 u11 u12 u13 u14 u15 u16 u17 u18 u19 u20 u21 u22 u23 u24 u25 u26 u27 u28 u29 u30 u31 u32 u33 u34 u35 u36 u37 u38 u39 u40 u41 : Value),
      lo ≤ hi ∧ hi ≤ n ∧ (∀ j (h : j < l.length), j < lo → l[j].t ≤ t) ∧ (∀ j (h : j < l.length), hi ≤ j → t < l[j].t) ∧
      a' = { tmps := #[.slice A n c, .int .i64 t, u2, u3, .pointer (some ⟨w.heap.size, 0, none⟩), .int .i64 (lo : Nat), .int .i64 (hi : Nat), u7, u8, u9, u10, u11, u12, u13, u14, u15, u16, u17, u18, u19, u20, u21, u22, u23, u24, u25, u26, u27, u28, u29, u30, u31, u32, u33, u34, u35, u36, u37, u38, u39, u40, u41], defers := [] }

theorem HalfAt.mk {A : Option Addr} {n c : Nat} {l : List Sg} {t : Int} {w w' : World} (hK : Pure w w') (hb0 : w'.heap[w.heap.size]? = some (.cells #[.int .i64 0, .int .i64 0] 35 (0, 0))) (lo hi : Nat) {u2 u3 u7 u8 u9 u10 u11 u12 u13 u14 u15 u16 u17 u18 u19 u20 u21 u22 u23 u24 u25 u26 u27 u28 u29 u30 u31 u32 u33 u34 u35 u36 u37 u38 u39 u40 u41 v5 v6 : Value}
    (e5 : v5 = .int .i64 (lo : Nat)) (e6 : v6 = .int .i64 (hi : Nat)) (h1 : lo ≤ hi) (h2 : hi ≤ n) (h3 : ∀ j (h : j < l.length), j < lo → l[j].t ≤ t) (h4 : ∀ j (h : j < l.length), hi ≤ j → t < l[j].t) :
    HalfAt A n c l t w { tmps := #[.slice A n c, .int .i64 t, u2, u3, .pointer (some ⟨w.heap.size, 0, none⟩), v5, v6, u7, u8, u9, u10, u11, u12, u13, u14, u15, u16, u17, u18, u19, u20, u21, u22, u23, u24, u25, u26, u27, u28, u29, u30, u31, u32, u33, u34, u35, u36, u37, u38, u39, u40, u41], defers := [] } w' := by
  subst e5
  subst e6
  exact ⟨hK, hb0, lo, hi, _, _, _, _, _, _, _, _, _, _, _, _, _, _, _, _, _, _, _, _, _, _, _, _, _, _, _, _, _, _, _, _, _, _, _, _, _, h1, h2, h3, h4, rfl⟩

set_option maxHeartbeats 1000000 in
set_option maxRecDepth 100000 in
theorem at_any (A : Option Addr) (c : Nat) (l : List Sg) (t : Int) (w : World) (hm : l.length ≤ 4611686018427387903) (hS : SliceAt w A (segCells l)) :
    Calls Try.prog 48 #[.slice A l.length c, .int .i64 t] w fun e w' => e = .returned (.agg #[.int .i64 (atV l t).1, .int .i64 (atV l t).2]) ∧ Pure w w' := by
  obtain ⟨n, hn⟩ : ∃ n, l.length = n := ⟨_, rfl⟩
  have hrise := fun W (h : SliceAt W A (segCells l)) => rises_any A c l W (by omega) h
  have hslow := fun W (h : SliceAt W A (segCells l)) => slow_any A c l t W (by omega) h
  rw [hn] at hm hrise hslow ⊢
  have HN := Lib.hid hn
  clear hn
  have hS0 := hS.pure ((Kept.refl _ w).alloc (.cells #[.int .i64 0, .int .i64 0] 35))
  cases hr : risesB l with
  | false =>
    have HR := Lib.hid hr
    clear hr
    go_enter Try.func48, Try.ntmps48
    go_wp2_with fail
    go_step3
    go_wp2_with fail
    refine (hrise _ hS0).mono ?_
    rintro e w1 ⟨rfl, hK1⟩
    rw [HR.out]
    have hb0 := hK1.blk (blk_new w _) (fun h => h)
    obtain ⟨c00, c01, f0⟩ := blk2 hb0
    go_wp2_with fail
    refine (hslow _ (hS0.pure hK1)).mono ?_
    rintro e w2 ⟨rfl, hK2⟩
    have hb0' := hK2.blk hb0 (fun h => h)
    obtain ⟨d00, d01, g0⟩ := blk2 hb0'
    go_wp2
    have hP : Pure w w2 := (((Kept.refl _ w).alloc _).then_ hK1 (fun _ _ h => h)).then_ hK2 (fun _ _ h => h)
    rw [Exit.noGoto_ret]
    refine bodyPost_ret (v := .agg #[.int .i64 (atV l t).1, .int .i64 (atV l t).2]) (by simp [results, Try.results48, go_sem, d00, d01]) rfl ⟨rfl, ?_⟩
    exact (hP.setCell (p := ⟨w.heap.size, 0, none⟩) (.inr (by simp)) _).setCell (p := ⟨w.heap.size, 1, none⟩) (.inr (by simp)) _
  | true =>
    have HR := Lib.hid hr
    clear hr
    go_enter Try.func48, Try.ntmps48
    go_wp2_with fail
    refine wp_scope_pass 0 (HalfAt A n c l t w) (fun a' _ => (intOf (a'.tmps.getD 6 undef)).toNat - (intOf (a'.tmps.getD 5 undef)).toNat) rfl ?pass ?first
    case pass =>
      rintro a' w' ⟨hK, hb0, lo, hi, u2, u3, u7, u8, u9, u10, u11, u12, u13, u14, u15, u16, u17, u18, u19, u20, u21, u22, u23, u24, u25, u26, u27, u28, u29, u30, u31, u32, u33, u34, u35, u36, u37, u38, u39, u40, u41, h1, h2, h3, h4, rfl⟩
      have H3 := Lib.hid h3
      have H4 := Lib.hid h4
      clear h3 h4
      obtain ⟨c00, c01, f0⟩ := blk2 hb0
      by_cases hlt : lo < hi
      · obtain ⟨k, hk⟩ : ∃ k : Nat, k = (lo + hi) / 2 := ⟨_, rfl⟩
        have hk0 : lo ≤ k := by omega
        have hk1 : k < hi := by omega
        have hkl : k < l.length := by have := HN.out; omega
        obtain ⟨ad, rfl, g1, g2, g3⟩ := seg_at (hS.pure hK) k hkl
        have e1 : ((lo : Int) + (hi : Int)) / 2 = (k : Int) := by omega
        have b1 : (lo : Int) + (hi : Int) ≤ 9223372036854775807 := by omega
        have b2 : (k : Int) < n := by omega
        clear hk
        by_cases ht : l[k].t ≤ t
        · go_wp2
          go_step3
          refine ⟨rfl, HalfAt.mk hK hb0 (k + 1) hi (by go_num) rfl (by omega) h2 (fun j h hj => ?_) H4.out, ?_⟩
          · exact Int.le_trans (risesB_le l HR.out j k hkl (by omega)) ht
          · simp [intOf]; omega
        · go_wp2
          go_step3
          refine ⟨rfl, HalfAt.mk hK hb0 lo k rfl rfl (by omega) (by omega) H3.out (fun j h hj => ?_), ?_⟩
          · exact Int.lt_of_lt_of_le (by omega) (risesB_le l HR.out k j h hj)
          · simp [intOf]; omega
      · obtain rfl : lo = hi := by omega
        have hspl := Lib.hid (atV_split l t lo (by have := HN.out; omega) H3.out H4.out)
        by_cases h0 : lo = 0
        · subst h0
          go_wp2
          simp only [Exit.jump]
          refine bodyPost_ret (v := .agg #[.int .i64 0, .int .i64 0]) (by simp [results, Try.results48, go_sem, c00, c01]) rfl ⟨by rw [hspl.out]; rfl, ?_⟩
          exact (hK.setCell (p := ⟨w.heap.size, 0, none⟩) (.inr (by simp)) _).setCell (p := ⟨w.heap.size, 1, none⟩) (.inr (by simp)) _
        · obtain ⟨i, rfl⟩ : ∃ i, lo = i + 1 := ⟨lo - 1, by omega⟩
          have hil : i < l.length := by have := HN.out; omega
          obtain ⟨ad, rfl, g1, g2, g3⟩ := seg_at (hS.pure hK) i hil
          have b2 : (i : Int) + 1 ≤ n := by omega
          go_wp2
          simp only [Exit.jump]
          refine bodyPost_ret (v := .agg #[.int .i64 l[i].m, .int .i64 l[i].c]) (by simp [results, Try.results48, go_sem, c00, c01]) rfl ⟨by rw [hspl.out, dif_pos (by omega)]; rfl, ?_⟩
          exact (hK.setCell (p := ⟨w.heap.size, 0, none⟩) (.inr (by simp)) _).setCell (p := ⟨w.heap.size, 1, none⟩) (.inr (by simp)) _
    case first =>
      intro hpass
      go_wp2_with fail
      refine (hrise _ hS0).mono ?_
      rintro e w1 ⟨rfl, hK1⟩
      rw [HR.out]
      have hb0 := hK1.blk (blk_new w _) (fun h => h)
      go_wp2_with fail
      refine wp_label ?_
      rename_i hk
      exact hk _ _ (hpass _ _ (HalfAt.mk (((Kept.refl _ w).alloc _).then_ hK1 (fun _ _ h => h)) hb0 0 n rfl rfl (Nat.zero_le _) (Nat.le_refl _) (fun j h hj => by omega) (fun j h hj => by have := HN.out; omega)))
end Go.Proofs.Ytffkgkondfdmfaa
