import Derived.Test.YtffkgkondfdmfaaBins
import Derived.WalkMore
set_option linter.unusedVariables false
set_option linter.unusedSimpArgs false
namespace Go.Proofs.Ytffkgkondfdmfaa
open Go.RowKit

/-- The point of Quant at t. -/
def pt (l : List Sg) (q t : Int) : Sg := ⟨t, (maxF (atV l t) (runsL l t (t + q))).1, (maxF (atV l t) (runsL l t (t + q))).2⟩
def dn (t q : Int) : Int := t - t % q
/-- The raw rows and the last time, k rows looked at. -/
def rawSt (l : List Sg) (q : Int) : Nat → List Sg × Int
  | 0 => ([], -1125899906842624)
  | k + 1 => if dn (l.getD k ⟨0, 0, 0⟩).t q = (rawSt l q k).2 then rawSt l q k else ((rawSt l q k).1 ++ [pt l q (dn (l.getD k ⟨0, 0, 0⟩).t q), pt l q (dn (l.getD k ⟨0, 0, 0⟩).t q + q)], dn (l.getD k ⟨0, 0, 0⟩).t q)
def rawL (l : List Sg) (q : Int) : List Sg := (rawSt l q l.length).1
def quantS (l : List Sg) (q : Int) : List Sg × Int :=
  if fitS l q = 0 then if (rawL l q).all sgOk = true then (ofL (rawL l q), 0) else ([], 10) else ([], fitS l q)

theorem rawSt_len (l : List Sg) (q : Int) : ∀ k, (rawSt l q k).1.length ≤ 2 * k
  | 0 => Nat.le_refl _
  | k + 1 => by
    have ih := rawSt_len l q k
    rw [rawSt]
    split
    · omega
    · simp; omega
theorem rawSt_same {l : List Sg} {q : Int} {k : Nat} (hk : k < l.length) (h : dn l[k].t q = (rawSt l q k).2) : rawSt l q (k + 1) = rawSt l q k := by
  have hg : l.getD k ⟨0, 0, 0⟩ = l[k] := by simp [List.getD_eq_getElem?_getD, hk]
  rw [rawSt, hg, if_pos h]
theorem rawSt_new {l : List Sg} {q : Int} {k : Nat} (hk : k < l.length) (h : dn l[k].t q ≠ (rawSt l q k).2) : rawSt l q (k + 1) = ((rawSt l q k).1 ++ [pt l q (dn l[k].t q), pt l q (dn l[k].t q + q)], dn l[k].t q) := by
  have hg : l.getD k ⟨0, 0, 0⟩ = l[k] := by simp [List.getD_eq_getElem?_getD, hk]
  rw [rawSt, hg, if_neg h]

theorem highS_ok {l : List Sg} {a b : Int} (hm : may l = true) (h1 : -1125899906842624 ≤ a) (h2 : a < b) (h3 : b ≤ 1125899906842624) (h4 : b - a ≤ 8000) : highS l a b = (maxF (atV l a) (runsL l a b), 0) := by
  have : overErr l a b = 0 := by
    unfold overErr
    rw [if_pos hm, if_pos (by simp [winOk, okN]; omega)]
  unfold highS; rw [if_pos this]

def QuantPost (w : World) (r : List Sg) (z : Int) (e : Ending) (w' : World) : Prop :=
  (∃ v, e = .returned (.tuple #[v, .int .i64 z]) ∧ OwnSegs w' w.heap.size v r) ∧ Pure w w'
theorem QuantPost.none {w w' : World} {z : Int} (h : Pure w w') : QuantPost w [] z (.returned (.tuple #[.slice none 0 0, .int .i64 z])) w' := ⟨⟨_, rfl, World.ownsRow_nil _ _ _ _⟩, h⟩

theorem size_alloc_le {w W : World} (h : Pure w W) (o : Obj) : w.heap.size ≤ (W.alloc o).heap.size := Nat.le_trans h.size (by simp)
theorem quant_bad (V : Value) (q z : Int) (w : World) (hz : z = 5 ∨ z = 2 ∨ z = 10)
    (hf : Calls Try.prog 26 #[V, .int .i64 q] w fun e w' => e = .returned (.int .i64 z) ∧ Pure w w') :
    Calls Try.prog 14 #[V, .int .i64 q] w (QuantPost w [] z) := by
  rcases hz with rfl | rfl | rfl <;>
  · go_enter Try.func14, Try.ntmps14
    go_wp2_with fail
    go_step3
    go_wp2_with fail
    refine hf.mono ?_
    rintro e w1 ⟨rfl, hK⟩
    go_wp2
    try rw [Exit.noGoto_ret]
    go_ret2
    exact .none hK

set_option maxHeartbeats 20000000 in
set_option maxRecDepth 100000 in
theorem quant_loop (l : List Sg) (A : Option Addr) (n c : Nat) (q : Int) (w : World) (hn : Hid (l.length = n)) (hnm : n ≤ 100000000000) (hS : SliceAt w A (segCells l)) (hq : mayB q = true) (hmay : Hid (may l = true)) (hnear : Hid (nearB l = true))
    (hri : Rises (rawL l q)) (r : List Sg) (z : Int) (hr : Hid ((if (rawL l q).all sgOk = true then ofL (rawL l q) else []) = r)) (hz : Hid ((if (rawL l q).all sgOk = true then (0 : Int) else 10) = z))
    (hf : Calls Try.prog 26 #[.slice A n c, .int .i64 q] w fun e w' => e = .returned (.int .i64 0) ∧ Pure w w') :
    Calls Try.prog 14 #[.slice A n c, .int .i64 q] w (QuantPost w r z) := by
  have hq' : 1 ≤ q ∧ q ≤ 4096 := by simpa [mayB] using hq
  obtain ⟨hq1, hq2⟩ := hq'
  have hdn : ∀ t W, -1099511627776 ≤ t → t ≤ 1099511627776 → Calls Try.prog 7 #[.int .i64 t, .int .i64 q] W fun e w' => e = .returned (.tuple #[.int .i64 (dn t q), .int .i64 0]) ∧ Pure W w' := fun t W h1 h2 => by
    have h := down_any t q W
    have hq0 := Int.emod_nonneg t (b := q) (by omega)
    have hq1 := Int.emod_lt_of_pos t (b := q) (by omega)
    have hd : downS t q = (dn t q, 0) := by
      unfold downS rnd dn
      rw [hq, if_neg (by decide), if_neg (by simp [inB]; omega), if_neg (by simp [inB]; omega), Int.sub_eq_add_neg]
    rw [hd] at h; exact h
  have hhi : ∀ t W, -1200000000000 ≤ t → t ≤ 1200000000000 → Pure w W → Calls Try.prog 29 #[.slice A n c, .int .i64 t, .int .i64 (t + q)] W fun e w' => e = .returned (.tuple #[.agg #[.int .i64 (pt l q t).m, .int .i64 (pt l q t).c], .int .i64 0]) ∧ Pure W w' := fun t W h1 h2 hW => by
    have h := high_any l A c t (t + q) W (by have := hn.out; omega) (hS.pure hW)
    rw [highS_ok hmay.out (by omega) (by omega) (by omega) (by omega), hn.out] at h
    exact h
  clear hq
  go_enter Try.func14, Try.ntmps14
  go_wp2_with fail
  go_step3
  go_wp2_with fail
  refine hf.mono ?_
  rintro e w1 ⟨rfl, hP⟩
  clear hf
  go_wp2
  go_step3
  go_wp2
  go_loopw [25, 7, 8] (fun i o la wr => ∃ k : Nat, k ≤ n ∧ i = .int .i64 k ∧ la = .int .i64 (rawSt l q k).2 ∧ OwnSegs wr w.heap.size o (rawSt l q k).1 ∧ Pure w wr) (fun i _ _ _ => n - (intOf i).toNat)
  case atStart => exact ⟨0, Nat.zero_le _, rfl, rfl, World.ownsRow_nil _ _ _ _, hP⟩
  case round =>
    obtain ⟨k, hk, rfl, rfl, ho, hPw⟩ := hrel
    by_cases hlt : k < n
    · have hkl : k < l.length := by have := hn.out; omega
      obtain ⟨ad, rfl, g1, g2, g3⟩ := seg_at (hS.pure hPw) k hkl
      have htk : -1099511627776 ≤ l[k].t ∧ l[k].t ≤ 1099511627776 := by
        have := List.all_eq_true.1 hnear.out l[k] (List.getElem_mem _)
        unfold inB near1 at this
        rw [Bool.and_eq_true] at this
        exact ⟨of_decide_eq_true this.1, of_decide_eq_true this.2⟩
      have hdn := fun W => hdn l[k].t W htk.1 htk.2
      obtain ⟨hlen3, hlen5⟩ : ((rawSt l q k).1.length + 1) * 24 ≤ 140737488355328 ∧ ((rawSt l q k).1.length + 1 + 1) * 24 ≤ 140737488355328 := by
        have hlen := rawSt_len l q k
        omega
      by_cases hsame : dn l[k].t q = (rawSt l q k).2
      · have hst := Lib.hid (rawSt_same hkl hsame)
        have hbt : (dn l[k].t q == (rawSt l q k).2) = true := by simpa using hsame
        clear hsame hhi
        generalize dn l[k].t q = at_ at hdn hbt
        go_wp2_with fail
        refine (hdn _).mono ?_
        rintro e w2 ⟨rfl, hK2⟩
        clear hdn
        go_wp2
        exact ⟨⟨k + 1, by omega, by push_cast; rfl, by rw [hst.out], by rw [hst.out]; exact own_kept (ho.alloc _) hK2 (fun _ _ h => h), (hPw.alloc _).trans hK2⟩, by simp [intOf]; omega⟩
      · have hst := Lib.hid (rawSt_new hkl hsame)
        have hbt : (dn l[k].t q == (rawSt l q k).2) = false := by simpa using hsame
        clear hsame
        obtain ⟨a, ha⟩ : ∃ a, Hid (dn l[k].t q = a) := ⟨_, Lib.hid rfl⟩
        have hda : -1099511631872 ≤ a ∧ a ≤ 1099511627776 := by
          have hq0 := Int.emod_nonneg l[k].t (b := q) (by omega)
          have hq1 := Int.emod_lt_of_pos l[k].t (b := q) (by omega)
          have := ha.out
          unfold dn at this
          omega
        have hh1 := fun W h => hhi a W (by omega) (by omega) h
        have hh2 := fun W h => hhi (a + q) W (by omega) (by omega) h
        rw [ha.out] at hdn hbt hst
        have hw1 : IntKind.i64.wrap (a + q) = a + q := IntWalk.i64_in _ (by omega)
        have hw2 : IntKind.i64.wrap (a + q + q) = a + q + q := IntWalk.i64_in _ (by omega)
        clear hhi
        go_wp2_with fail
        refine (hdn _).mono ?_
        rintro e w2 ⟨rfl, hK2⟩
        clear hdn
        have hP2 := (hPw.alloc (.cells #[.int .i64 l[k].t, .int .i64 l[k].m, .int .i64 l[k].c] 42)).trans hK2
        have ho2 : OwnSegs w2 w.heap.size _ (rawSt l q k).1 := own_kept (ho.alloc _) hK2 (fun _ _ h => h)
        have i0 : ∀ w, (Instr.index 30 (.agg #[.int .i64 a, .int .i64 (a + q)]) (.int .i64 0)).run Try.prog w = .ok (.int .i64 a) w := fun w => by
          simp [Instr.index, run_underlying Try.underlying30, asIntOf, go_sem]
        have i1 : ∀ w, (Instr.index 30 (.agg #[.int .i64 a, .int .i64 (a + q)]) (.int .i64 1)).run Try.prog w = .ok (.int .i64 (a + q)) w := fun w => by
          simp [Instr.index, run_underlying Try.underlying30, asIntOf, go_sem]
        go_wp2
        refine wp_loop_rounds 3 ?_
        rw [rounds_succ]
        go_wp2_with fail
        refine (hh1 _ hP2).mono ?_
        rintro e w3 ⟨rfl, hK3⟩
        have hP3 := hP2.trans hK3
        have ho3 : OwnSegs w3 w.heap.size _ _ := own_kept ho2 hK3 (fun _ _ h => h)
        clear hh1 ho2 hP2
        generalize hL : (rawSt l q k).1 = L at ho3 hlen3 hlen5 hst
        generalize hp1 : pt l q a = p1 at hst
        have hp1t : p1.t = a := by rw [← hp1]; rfl
        have hB3 := size_alloc_le hP3 (.cells #[.int .i64 p1.m, .int .i64 p1.c] 35)
        clear ho
        go_wp2_with (at_builtin; refine append_cells (W := w3.alloc (.cells #[.int .i64 p1.m, .int .i64 p1.c] 35)) w.heap.size rfl (.tmp 59) (.tmp 63) 29 42 _ 3 24 rfl Try.underlying29 segInfo rfl (by decide) (by decide) u7 L.length (segCells L) [.int .i64 a, .int .i64 p1.m, .int .i64 p1.c] rfl rfl (World.size_alloc _ _).symm rfl (by simp [Value.oneCell']) (ho3.alloc _) hB3 hlen3 ?_; intro v1 w4 hown hg hat; obtain ⟨A1, c1, rfl, _⟩ := own_slice hown)
        rw [rounds_succ]
        have hP4 : Pure w w4 := (hP3.alloc _).grown' hg (fun j hj => .inr (own_base ho3 j hj))
        clear hg hat ho3 hP3
        go_wp2_with fail
        refine (hh2 _ hP4).mono ?_
        rintro e w5 ⟨rfl, hK5⟩
        have hP5 := hP4.trans hK5
        have ho5 := own_kept hown hK5 (fun _ _ h => h)
        clear hh2 hown hP4
        generalize hp2 : pt l q (a + q) = p2 at hst
        have hp2t : p2.t = a + q := by rw [← hp2]; rfl
        have hB5 := size_alloc_le hP5 (.cells #[.int .i64 p2.m, .int .i64 p2.c] 35)
        go_wp2_with (at_builtin; refine append_cells (W := w5.alloc (.cells #[.int .i64 p2.m, .int .i64 p2.c] 35)) w.heap.size rfl (.tmp 59) (.tmp 63) 29 42 _ 3 24 rfl Try.underlying29 segInfo rfl (by decide) (by decide) (.slice A1 (L.length + 1) c1) (L.length + 1) (segCells L ++ [.int .i64 a, .int .i64 p1.m, .int .i64 p1.c]) [.int .i64 (a + q), .int .i64 p2.m, .int .i64 p2.c] rfl rfl (World.size_alloc _ _).symm rfl (by simp [Value.oneCell']) (ho5.alloc _) hB5 hlen5 ?_; intro v2 w6 hown hg hat; obtain ⟨A2, c2, rfl, _⟩ := own_slice hown)
        rw [rounds_succ]
        have hP6 : Pure w w6 := (hP5.alloc _).grown' hg (fun j hj => .inr (own_base ho5 j hj))
        clear hg hat ho5 hP5
        go_wp2
        refine ⟨⟨k + 1, by omega, by push_cast; rfl, by rw [hst.out], ?_, hP6⟩, by simp [intOf]; omega⟩
        rw [hst.out]
        unfold OwnSegs
        have hl2 : (L ++ [p1, p2]).length = L.length + 1 + 1 := by simp
        have hc2 : segCells (L ++ [p1, p2]) = segCells L ++ [.int .i64 a, .int .i64 p1.m, .int .i64 p1.c] ++ [.int .i64 (a + q), .int .i64 p2.m, .int .i64 p2.c] := by
          simp [segCells, sgCells, hp1t, hp2t]
        show w6.ownsRow _ _ _ _ (L ++ [p1, p2]).length (segCells (L ++ [p1, p2]))
        rw [hl2, hc2]
        exact hown
    · obtain rfl : k = n := by omega
      have hkl : (rawSt l q k).1 = rawL l q := by unfold rawL; rw [hn.out]
      rw [hkl] at ho
      have hlen := rawSt_len l q k
      rw [hkl] at hlen
      obtain ⟨A1, c1, rfl, hS1, _⟩ := own_slice ho
      obtain ⟨n1, hn1⟩ : ∃ n1, Hid ((rawL l q).length = n1) := ⟨_, Lib.hid rfl⟩
      have hof := of_any (rawL l q) A1 n1 c1 wr hn1 (by have := hn1.out; omega) hri hS1
      rw [hr.out, hz.out] at hof
      rw [hn1.out]
      clear hri ho hdn hhi
      go_wp2_with fail
      refine hof.mono ?_
      rintro e w2 ⟨⟨v, rfl, ho2⟩, hK2⟩
      go_wp2
      try rw [Exit.noGoto_ret]
      go_ret2
      exact ⟨⟨_, rfl, own_lower ho2 hPw.size⟩, hPw.trans hK2⟩
end Go.Proofs.Ytffkgkondfdmfaa
