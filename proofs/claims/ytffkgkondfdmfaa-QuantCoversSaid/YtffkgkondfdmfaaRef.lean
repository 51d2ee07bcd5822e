import Derived.Test.YtffkgkondfdmfaaCanon
set_option linter.unusedVariables false
set_option linter.unusedSimpArgs false
namespace Go.Proofs.Ytffkgkondfdmfaa
open Go.RowKit

theorem left_any (t q : Int) (w : World) (hq1 : 1 ≤ q) (hq2 : q ≤ 4096) :
    Calls Try.prog 23 #[.int .i64 t, .int .i64 q] w fun e w' => e = .returned (.int .i64 (t % q)) ∧ w' = w := by
  have hz : (q == 0) = false := by simp; omega
  have hz' : q ≠ 0 := by omega
  have h0 := Int.emod_nonneg t (b := q) (by omega)
  have h1 := Int.emod_lt_of_pos t (b := q) (by omega)
  rcases tmod_two t hq1 with he | ⟨he, hne⟩
  · generalize t % q = x at *
    go_enter Try.func23, Try.ntmps23
    go_wp2
    go_ret
    exact ⟨rfl, rfl⟩
  · have hw : IntKind.i64.wrap (t.tmod q + q) = t % q := by rw [he, Int.sub_add_cancel]; exact IntWalk.i64_in _ (by omega)
    have hn : t.tmod q < 0 := by omega
    generalize t % q = x at *
    go_enter Try.func23, Try.ntmps23
    go_wp2
    go_ret
    exact ⟨rfl, rfl⟩

def badS (t q : Int) : Int := if mayB q = false then 2 else if inB t 1125899906842624 = false then 10 else 0
theorem bad_any (t q : Int) (w : World) :
    Calls Try.prog 21 #[.int .i64 t, .int .i64 q] w fun e w' => e = .returned (.int .i64 (badS t q)) ∧ w' = w := by
  unfold badS mayB inB
  by_cases h1 : 1 ≤ q <;> by_cases h2 : q ≤ 4096 <;> by_cases h3 : -1125899906842624 ≤ t <;> by_cases h4 : t ≤ 1125899906842624 <;>
  · simp only [h1, h2, h3, h4, decide_true, decide_false, Bool.and_true, Bool.and_false, Bool.true_and, Bool.false_and, if_true, Bool.true_eq_false, if_false]
    go_enter Try.func21, Try.ntmps21
    go_wp2
    all_goals (go_ret; exact ⟨rfl, rfl⟩)

def toldS (t : Int) : Int × Int := if inB t 1125899906842624 = false then (0, 10) else (t, 0)
theorem told_any (t : Int) (w : World) :
    Calls Try.prog 22 #[.int .i64 t] w fun e w' => e = .returned (.tuple #[.int .i64 (toldS t).1, .int .i64 (toldS t).2]) ∧ w' = w := by
  unfold toldS inB
  by_cases h3 : -1125899906842624 ≤ t <;> by_cases h4 : t ≤ 1125899906842624 <;>
  · simp only [h3, h4, decide_true, decide_false, Bool.and_true, Bool.and_false, Bool.true_and, Bool.false_and, if_true, Bool.true_eq_false, if_false]
    go_enter Try.func22, Try.ntmps22
    go_wp2
    go_ret2
    exact ⟨rfl, rfl⟩

theorem rdown_any (t q : Int) (w : World) :
    Calls Try.prog 8 #[.int .i64 t, .int .i64 q] w fun e w' => e = .returned (.tuple #[.int .i64 (downS t q).1, .int .i64 (downS t q).2]) ∧ w' = w := by
  have hb := fun W => bad_any t q W
  by_cases hz : badS t q = 0
  · have hm : mayB q = true ∧ inB t 1125899906842624 = true := by
      unfold badS at hz
      cases h1 : mayB q <;> cases h2 : inB t 1125899906842624 <;> simp_all
    have hq' : 1 ≤ q ∧ q ≤ 4096 := by simpa [mayB] using hm.1
    have ht' : -1125899906842624 ≤ t ∧ t ≤ 1125899906842624 := by simpa [inB] using hm.2
    obtain ⟨hq1, hq2⟩ := hq'
    have h0 := Int.emod_nonneg t (b := q) (by omega)
    have h1 := Int.emod_lt_of_pos t (b := q) (by omega)
    have hl := fun W => left_any t q W hq1 hq2
    have hd : downS t q = toldS (t - t % q) := by
      unfold downS rnd toldS
      rw [hm.1, hm.2, if_neg (by decide), if_neg (by decide), Int.sub_eq_add_neg]
    have ht := fun W => told_any (t - t % q) W
    rw [hz] at hb
    rw [hd]
    clear hm hd
    generalize t % q = x at *
    have hw : IntKind.i64.wrap (t - x) = t - x := IntWalk.i64_in _ (by omega)
    generalize toldS (t - x) = R at *
    go_enter Try.func8, Try.ntmps8
    go_wp2_with fail
    refine (hb _).mono ?_
    rintro e w1 ⟨rfl, rfl⟩
    go_wp2_with fail
    refine (hl _).mono ?_
    rintro e w1 ⟨rfl, rfl⟩
    go_wp2_with fail
    refine (ht _).mono ?_
    rintro e w1 ⟨rfl, rfl⟩
    go_wp2
    go_ret2
    exact ⟨rfl, rfl⟩
  · have hd : downS t q = (0, badS t q) := by
      unfold downS rnd badS at *
      cases h1 : mayB q <;> cases h2 : inB t 1125899906842624 <;> simp_all
    have hbn : (badS t q != 0) = true := by simp [hz]
    rw [hd]
    clear hd
    generalize badS t q = z at *
    go_enter Try.func8, Try.ntmps8
    go_wp2_with fail
    refine (hb _).mono ?_
    rintro e w1 ⟨rfl, rfl⟩
    go_wp2
    go_ret2
    exact ⟨rfl, rfl⟩

theorem rup_any (t q : Int) (w : World) :
    Calls Try.prog 10 #[.int .i64 t, .int .i64 q] w fun e w' => e = .returned (.tuple #[.int .i64 (upS t q).1, .int .i64 (upS t q).2]) ∧ w' = w := by
  have hb := fun W => bad_any t q W
  by_cases hz : badS t q = 0
  · have hm : mayB q = true ∧ inB t 1125899906842624 = true := by
      unfold badS at hz
      cases h1 : mayB q <;> cases h2 : inB t 1125899906842624 <;> simp_all
    have hq' : 1 ≤ q ∧ q ≤ 4096 := by simpa [mayB] using hm.1
    have ht' : -1125899906842624 ≤ t ∧ t ≤ 1125899906842624 := by simpa [inB] using hm.2
    obtain ⟨hq1, hq2⟩ := hq'
    have h0 := Int.emod_nonneg t (b := q) (by omega)
    have h1 := Int.emod_lt_of_pos t (b := q) (by omega)
    have hl := fun W => left_any t q W hq1 hq2
    rw [hz] at hb
    by_cases hx : t % q = 0
    · have hd : upS t q = (t, 0) := by
        unfold upS rnd
        rw [hm.1, hm.2, if_neg (by decide), if_neg (by decide), if_pos hx, Int.add_zero, hm.2, if_neg (by decide)]
      rw [hd]
      rw [hx] at hl
      clear hm hd hx h0 h1
      go_enter Try.func10, Try.ntmps10
      go_wp2_with fail
      refine (hb _).mono ?_
      rintro e w1 ⟨rfl, rfl⟩
      go_wp2_with fail
      refine (hl _).mono ?_
      rintro e w1 ⟨rfl, rfl⟩
      go_wp2
      go_ret2
      exact ⟨rfl, rfl⟩
    · have hd : upS t q = toldS (t - t % q + q) := by
        unfold upS rnd toldS
        rw [hm.1, hm.2, if_neg (by decide), if_neg (by decide), if_neg hx, show t + (q - t % q) = t - t % q + q by omega]
      have ht := fun W => told_any (t - t % q + q) W
      have hxb : (t % q == 0) = false := by simp [hx]
      rw [hd]
      clear hm hd
      generalize t % q = x at *
      have hw : IntKind.i64.wrap (t - x) = t - x := IntWalk.i64_in _ (by omega)
      have hw2 : IntKind.i64.wrap (t - x + q) = t - x + q := IntWalk.i64_in _ (by omega)
      generalize toldS (t - x + q) = R at *
      go_enter Try.func10, Try.ntmps10
      go_wp2_with fail
      refine (hb _).mono ?_
      rintro e w1 ⟨rfl, rfl⟩
      go_wp2_with fail
      refine (hl _).mono ?_
      rintro e w1 ⟨rfl, rfl⟩
      go_wp2_with fail
      refine (hl _).mono ?_
      rintro e w1 ⟨rfl, rfl⟩
      go_wp2_with fail
      refine (ht _).mono ?_
      rintro e w1 ⟨rfl, rfl⟩
      go_wp2
      go_ret2
      exact ⟨rfl, rfl⟩
  · have hd : upS t q = (0, badS t q) := by
      unfold upS rnd badS at *
      cases h1 : mayB q <;> cases h2 : inB t 1125899906842624 <;> simp_all
    have hbn : (badS t q != 0) = true := by simp [hz]
    rw [hd]
    clear hd
    generalize badS t q = z at *
    go_enter Try.func10, Try.ntmps10
    go_wp2_with fail
    refine (hb _).mono ?_
    rintro e w1 ⟨rfl, rfl⟩
    go_wp2
    go_ret2
    exact ⟨rfl, rfl⟩

theorem le_any (a b c d : Int) (w : World) :
    Calls Try.prog 17 #[.agg #[.int .i64 a, .int .i64 b], .agg #[.int .i64 c, .int .i64 d]] w fun e w' => e = .returned (.bool (decide (a ≤ c) && decide (b ≤ d))) ∧ Pure w w' := by
  by_cases h : a ≤ c
  · go_enter Try.func17, Try.ntmps17
    go_wp2
    go_ret
    exact ⟨by simp [h], ((Kept.refl _ w).alloc _).alloc _⟩
  · go_enter Try.func17, Try.ntmps17
    go_wp2
    go_ret
    exact ⟨by simp; omega, ((Kept.refl _ w).alloc _).alloc _⟩

theorem lseg_any (a b c : Int) (w : World) :
    Calls Try.prog 25 #[.int .i64 a, .int .i64 b, .int .i64 c] w fun e w' => e = .returned (.agg #[.int .i64 a, .int .i64 b, .int .i64 c]) ∧ Pure w w' := by
  go_enter Try.func25, Try.ntmps25
  go_wp2
  refine bodyPost_ret (v := .agg #[.int .i64 a, .int .i64 b, .int .i64 c]) (by simp [results, Try.results25, go_sem]) rfl ⟨rfl, (Kept.refl _ w).alloc _⟩

/-! ### liveryref02.At -/
theorem rat_any (A : Option Addr) (c : Nat) (l : List Sg) (n : Nat) (t : Int) (w : World) (HN : Hid (l.length = n)) (hm : n ≤ 4611686018427387903) (hS : SliceAt w A (segCells l)) :
    Calls Try.prog 18 #[.slice A n c, .int .i64 t] w fun e w' => e = .returned (.agg #[.int .i64 (atV l t).1, .int .i64 (atV l t).2]) ∧ Pure w w' := by
  go_enter Try.func18, Try.ntmps18
  go_wp2
  go_loopw [6] (fun i wr => ∃ k : Nat, k ≤ n ∧ i = .int .i64 k ∧ Pure w wr ∧ wr.heap[w.heap.size]? = some (.cells #[.int .i64 0, .int .i64 0] 35 (0, 0)) ∧
    wr.heap[w.heap.size + 1]? = some (.cells #[.int .i64 (atV (l.take k) t).1, .int .i64 (atV (l.take k) t).2] 35 (0, 0))) (fun i _ => n - (intOf i).toNat)
  case atStart => exact ⟨0, Nat.zero_le _, rfl, ((Kept.refl _ w).alloc _).alloc _, blk_alloc (blk_new w _) _, blk_new1 w _ _⟩
  case round =>
    obtain ⟨k, hk, rfl, hK, hb0, hb1⟩ := hrel
    obtain ⟨c00, c01, f0⟩ := blk2 hb0
    obtain ⟨c10, c11, f1⟩ := blk2 hb1
    have hz1 := blk_lt hb1
    by_cases hlt : k < n
    · have hk1 : k < l.length := by have := HN.out; omega
      obtain ⟨ad, rfl, h1, h2, h3⟩ := seg_at (hS.pure hK) k hk1
      have hts := Lib.hid (take_snoc l k hk1)
      by_cases ht : l[k].t ≤ t
      · go_wp2
        go_roundw
        case rel =>
          refine ⟨k + 1, by omega, by go_num, ((hK.setCell (p := ⟨w.heap.size + 1, 0, none⟩) (.inr (by simp)) _).setCell (p := ⟨w.heap.size + 1, 1, none⟩) (.inr (by simp)) _), (blk_far (blk_far hb0 (by simp) _) (by simp) _), ?_⟩
          rw [hts.out, atV_snoc, if_pos ht]
          exact (blk_set (blk_set hb1 0 _) 1 _)
        case measure => simp [intOf]; omega
      · go_wp2
        go_roundw
        case rel =>
          refine ⟨k + 1, by omega, by go_num, hK, hb0, ?_⟩
          rw [hts.out, atV_snoc, if_neg (by omega)]
          exact hb1
        case measure => simp [intOf]; omega
    · have hl : l.take k = l := List.take_of_length_le (by have := HN.out; omega)
      rw [hl] at hb1 c10 c11
      go_wp2
      refine bodyPost_ret (v := .agg #[.int .i64 (atV l t).1, .int .i64 (atV l t).2]) (by simp [results, Try.results18, go_sem, c00, c01, hz1]) rfl ⟨rfl, ?_⟩
      exact (hK.setCell (p := ⟨w.heap.size, 0, none⟩) (.inr (by simp)) _).setCell (p := ⟨w.heap.size, 1, none⟩) (.inr (by simp)) _

/-! ### liveryref04.Total -/
def totS (l : List Sg) (a : Int) : Nat → Int × Int
  | 0 => (0, 0)
  | k + 1 => (wrap64 ((totS l a k).1 + (atV l (a + k)).1), wrap64 ((totS l a k).2 + (atV l (a + k)).2))
theorem total_any (A : Option Addr) (c : Nat) (l : List Sg) (n : Nat) (a : Int) (m : Nat) (w : World) (HN : Hid (l.length = n)) (hm : n ≤ 4611686018427387903) (hS : SliceAt w A (segCells l)) (ha : -1152921504606846976 ≤ a ∧ a + m ≤ 1152921504606846976) :
    Calls Try.prog 13 #[.slice A n c, .int .i64 a, .int .i64 (a + m)] w fun e w' => e = .returned (.agg #[.int .i64 (totS l a m).1, .int .i64 (totS l a m).2]) ∧ Pure w w' := by
  obtain ⟨b, hb⟩ : ∃ b, Hid (a + (m : Int) = b) := ⟨_, Lib.hid rfl⟩
  rw [hb.out]
  have hab : a ≤ b ∧ b ≤ 1152921504606846976 := by have := hb.out; omega
  go_enter Try.func13, Try.ntmps13
  go_wp2
  go_loopw [8] (fun i wr => ∃ k : Nat, k ≤ m ∧ i = .int .i64 (a + k) ∧ Pure w wr ∧ wr.heap[w.heap.size]? = some (.cells #[.int .i64 0, .int .i64 0] 35 (0, 0)) ∧
    wr.heap[w.heap.size + 1]? = some (.cells #[.int .i64 (totS l a k).1, .int .i64 (totS l a k).2] 35 (0, 0))) (fun i _ => (b - intOf i).toNat)
  case atStart => exact ⟨0, Nat.zero_le _, by simp, ((Kept.refl _ w).alloc _).alloc _, blk_alloc (blk_new w _) _, blk_new1 w _ _⟩
  case round =>
    obtain ⟨k, hk, rfl, hK, hb0, hb1⟩ := hrel
    by_cases hlt : k < m
    · have hat := rat_any A c l n (a + k) wr HN hm (hS.pure hK)
      obtain ⟨t, ht⟩ : ∃ t, Hid (a + (k : Int) = t) := ⟨_, Lib.hid rfl⟩
      have htb : a ≤ t ∧ t < b := by have := ht.out; have := hb.out; omega
      have hnx : t + 1 = a + ((k + 1 : Nat) : Int) := by rw [← ht.out]; push_cast; omega
      have hst := Lib.hid (show totS l a (k + 1) = (wrap64 ((totS l a k).1 + (atV l t).1), wrap64 ((totS l a k).2 + (atV l t).2)) by rw [totS, ht.out])
      rw [ht.out] at hat ⊢
      generalize atV l t = p at hat hst
      generalize totS l a k = s at hb1 hst
      have hlt1 : t < b := htb.2
      go_wp2_with fail
      refine hat.mono ?_
      rintro e w1 ⟨rfl, hK1⟩
      have hb0' := hK1.blk hb0 (fun h => h)
      have hb1' := hK1.blk hb1 (fun h => h)
      obtain ⟨c10, c11, f1⟩ := blk2 hb1'
      have hz1 := blk_lt hb1'
      have hP := hK.trans hK1
      clear hat
      go_wp2
      refine ⟨⟨k + 1, by omega, by push_cast; rfl, (((hP.setCell (p := ⟨w.heap.size + 1, 0, none⟩) (.inr (by simp)) _).setCell (p := ⟨w.heap.size + 1, 1, none⟩) (.inr (by simp)) _).alloc _), blk_alloc (blk_far (blk_far hb0' (by simp) _) (by simp) _) _, ?_⟩, by simp [intOf]; have := ht.out; omega⟩
      rw [hst.out]
      exact blk_alloc (blk_set (blk_set hb1' 0 _) 1 _) _
    · obtain rfl : k = m := by omega
      obtain ⟨c00, c01, f0⟩ := blk2 hb0
      obtain ⟨c10, c11, f1⟩ := blk2 hb1
      have hz1 := blk_lt hb1
      rw [hb.out]
      go_wp2
      refine bodyPost_ret (v := .agg #[.int .i64 (totS l a k).1, .int .i64 (totS l a k).2]) (by simp [results, Try.results13, go_sem, c00, c01, hz1]) rfl ⟨rfl, ?_⟩
      exact (hK.setCell (p := ⟨w.heap.size, 0, none⟩) (.inr (by simp)) _).setCell (p := ⟨w.heap.size, 1, none⟩) (.inr (by simp)) _

/-! ### liveryref02.Same -/
attribute [local go_sem high] eqIn_seg
set_option maxHeartbeats 1000000 in
theorem same_any (A B : Option Addr) (c d : Nat) (l r : List Sg) (n m : Nat) (w : World) (hl : Hid (l.length = n)) (hr : Hid (r.length = m)) (hm : n ≤ 4611686018427387903) (hS : SliceAt w A (segCells l)) (hT : SliceAt w B (segCells r)) :
    Calls Try.prog 16 #[.slice A n c, .slice B m d] w fun e w' => (∃ b, e = .returned (.bool b) ∧ (b = true ↔ l = r)) ∧ Pure w w' := by
  by_cases hnm : n = m
  · subst hnm
    go_enter Try.func16, Try.ntmps16
    go_wp2
    go_loopw [5] (fun i wr => ∃ k : Nat, k ≤ n ∧ i = .int .i64 k ∧ Pure w wr ∧ l.take k = r.take k) (fun i _ => n - (intOf i).toNat)
    case atStart => exact ⟨0, Nat.zero_le _, rfl, Kept.refl _ w, rfl⟩
    case round =>
      obtain ⟨k, hk, rfl, hK, hpre⟩ := hrel
      by_cases hlt : k < n
      · have hk1 : k < l.length := by have := hl.out; omega
        have hk2 : k < r.length := by have := hr.out; omega
        obtain ⟨ad, rfl, h1, h2, h3⟩ := seg_at (hS.pure hK) k hk1
        obtain ⟨bd, rfl, g1, g2, g3⟩ := seg_at (hT.pure hK) k hk2
        have ht1 := Lib.hid (take_snoc l k hk1)
        have ht2 := Lib.hid (take_snoc r k hk2)
        have hse := Lib.hid (sEq_iff (a := l[k].t) (b := l[k].m) (c := l[k].c) (x := r[k].t) (y := r[k].m) (z := r[k].c))
        have hP := Lib.hid hpre
        clear hpre
        cases he : sEq l[k].t l[k].m l[k].c r[k].t r[k].m r[k].c with
        | true =>
          go_wp2_with fail
          go_quiet (fail)
          go_wp2
          go_roundw
          case rel =>
            refine ⟨k + 1, by omega, by go_num, hK.drewN _, ?_⟩
            obtain ⟨e1, e2, e3⟩ := hse.out.1 he
            rw [ht1.out, ht2.out, hP.out]
            congr 2
            cases h : l[k]; cases h' : r[k]
            simp_all
          case measure => simp [intOf]; omega
        | false =>
          go_wp2_with fail
          go_quiet (fail)
          go_wp2
          go_ret
          refine ⟨⟨_, rfl, ?_⟩, hK.drewN _⟩
          constructor
          · intro h; cases h
          · intro h
            exfalso
            subst h
            have := hse.out.2 ⟨rfl, rfl, rfl⟩
            rw [this] at he; cases he
      · have e1 : l.take k = l := List.take_of_length_le (by have := hl.out; omega)
        have e2 : r.take k = r := List.take_of_length_le (by have := hr.out; omega)
        rw [e1, e2] at hpre
        have hP := Lib.hid hpre
        clear hpre e1 e2
        go_wp2
        go_ret
        exact ⟨⟨_, rfl, by simp [hP.out]⟩, hK⟩
  · have hb : ((n : Int) != (m : Int)) = true := by simp; omega
    have hne : l ≠ r := fun e => hnm (by rw [← hl.out, ← hr.out, e])
    go_enter Try.func16, Try.ntmps16
    go_wp2
    go_ret
    exact ⟨⟨_, rfl, by simp [hne]⟩, Kept.refl _ w⟩
end Go.Proofs.Ytffkgkondfdmfaa
