/- EventCuts: the walk. -/
import Derived.Test.YtnohbjgmldjbmaaDoorCutsLaw
import Derived.Test.YtnohbjgmldjbmaaDoorSameSelf
set_option linter.unusedVariables false
set_option linter.unusedSimpArgs false
namespace Go.Proofs.YtnohbjgmldjbmaaDoor.P
open Go.RowKit Go.Proofs.YtnohbjgmldjbmaaDoorW.PrintWords Go.Proofs.YtnohbjgmldjbmaaDoorW.PrintLast Go.Proofs.YtnohbjgmldjbmaaDoorW.PrintMore

set_option maxHeartbeats 4000000 in
theorem cuts_big (la lb : List S32) (A B : Option Addr) (ca cb : Nat) (at_ : Int) (w : World) (hG : LaidW w) (h : 60 < la.length ∨ 60 < lb.length) :
    Calls Tryd.prog 6 #[.slice A la.length ca, .slice B lb.length cb, .int .u16 at_] w fun e w' => e = .returned (.bool true) ∧ Below w.heap.size w w' := by
  by_cases h1 : 60 < la.length
  · have d1 : decide ((60 : Int) < (la.length : Int)) = true := decide_eq_true (by omega)
    have d2 : decide (60 < la.length) = true := decide_eq_true (by omega)
    clear h h1
    go_enter Tryd.func6, Tryd.ntmps6
    go_wp2_with fail
    refine (liverylaw30_head.calls true _ rfl hG).mono ?_
    rintro e w1 ⟨rfl, hb⟩
    go_wp2
    go_ret
    exact ⟨rfl, hb⟩
  · have d1 : decide ((60 : Int) < (la.length : Int)) = false := decide_eq_false (by omega)
    have d2 : decide (60 < la.length) = false := decide_eq_false (by omega)
    have d3 : decide ((60 : Int) < (lb.length : Int)) = true := decide_eq_true (by omega)
    have d4 : decide (60 < lb.length) = true := decide_eq_true (by omega)
    clear h h1
    go_enter Tryd.func6, Tryd.ntmps6
    go_wp2_with fail
    refine (liverylaw30_head.calls true _ rfl hG).mono ?_
    rintro e w1 ⟨rfl, hb⟩
    go_wp2
    go_ret
    exact ⟨rfl, hb⟩

set_option maxHeartbeats 4000000 in
theorem cuts_odd (la lb : List S32) (A B : Option Addr) (ca cb : Nat) (at_ : Int) (w : World) (hG : LaidW w) (h1 : la.length ≤ 60) (h2 : lb.length ≤ 60) (hA : Kd.C k32 w A la.length la) (hac : la.length ≤ ca) (hB : Kd.C k32 w B lb.length lb) (hbc : lb.length ≤ cb)
    (K : Nat) (s t : ByteArray) (es et : Int) (hs : event_Lines.f K la = some (s, es)) (ht : event_Lines.f K lb = some (t, et)) (h : es ≠ 0 ∨ es = 0 ∧ et ≠ 0) :
    Calls Tryd.prog 6 #[.slice A la.length ca, .slice B lb.length cb, .int .u16 at_] w fun e w' => e = .returned (.bool true) ∧ Below w.heap.size w w' := by
  have d1 : decide ((60 : Int) < (la.length : Int)) = false := decide_eq_false (by omega)
  have d2 : decide (60 < la.length) = false := decide_eq_false (by omega)
  have d3 : decide ((60 : Int) < (lb.length : Int)) = false := decide_eq_false (by omega)
  have d4 : decide (60 < lb.length) = false := decide_eq_false (by omega)
  have HA := Aside0.mk hA
  have HBr := Aside0.mk hB
  have HAc := Aside0.mk hac
  have HBc := Aside0.mk hbc
  have HG := Aside0.mk hG
  have Hs := Aside0.mk hs
  have Ht := Aside0.mk ht
  clear hA hB hac hbc hG hs ht h1 h2
  rcases h with h | ⟨rfl, h⟩
  · have b1 : (es == 0) = false := beq_eq_false_iff_ne.2 h
    have b2 : (es != 0) = true := by simp [bne, b1]
    clear h
    go_enter Tryd.func6, Tryd.ntmps6
    go_wp2_with fail
    refine (event_Lines.calls K A ca la s es _ HA.out HAc.out Hs.out HG.out).mono ?_
    rintro e w1 ⟨rfl, hb1⟩
    have HB1 := Aside0.mk hb1
    clear hb1
    go_wp2_with fail
    refine (event_Lines.calls K B cb lb t et _ (Kd.C_below HBr.out HB1.out) HBc.out Ht.out (LaidW.below HG.out HB1.out)).mono ?_
    rintro e w2 ⟨rfl, hb2⟩
    have HB2 := Aside0.mk (below_step HB1.out hb2)
    clear hb2
    go_wp2_with fail
    refine (liverylaw30_head.calls true _ rfl (LaidW.below HG.out HB2.out)).mono ?_
    rintro e w3 ⟨rfl, hb3⟩
    go_wp2
    go_ret
    exact ⟨rfl, below_step HB2.out hb3⟩
  · have b1 : (et == 0) = false := beq_eq_false_iff_ne.2 h
    have b2 : (et != 0) = true := by simp [bne, b1]
    clear h
    go_enter Tryd.func6, Tryd.ntmps6
    go_wp2_with fail
    refine (event_Lines.calls K A ca la s 0 _ HA.out HAc.out Hs.out HG.out).mono ?_
    rintro e w1 ⟨rfl, hb1⟩
    have HB1 := Aside0.mk hb1
    clear hb1
    go_wp2_with fail
    refine (event_Lines.calls K B cb lb t et _ (Kd.C_below HBr.out HB1.out) HBc.out Ht.out (LaidW.below HG.out HB1.out)).mono ?_
    rintro e w2 ⟨rfl, hb2⟩
    have HB2 := Aside0.mk (below_step HB1.out hb2)
    clear hb2
    go_wp2_with fail
    refine (liverylaw30_head.calls true _ rfl (LaidW.below HG.out HB2.out)).mono ?_
    rintro e w3 ⟨rfl, hb3⟩
    go_wp2
    go_ret
    exact ⟨rfl, below_step HB2.out hb3⟩
/-! ### main -/
theorem bytes_soft (w : World) (s : ByteArray) (j : Nat) (hj : j < s.size) : (Lib.bytesWorld w 5 s).frozen? ⟨w.heap.size, j, none⟩ = false := by
  have h : s.size ≤ (Lib.bytesCells w 5 s).size := by
    unfold Lib.bytesCells
    rw [Array.size_append, Array.size_map]
    exact Nat.le_add_right _ _
  simp [World.frozen?, Lib.bytesWorld_at_new]
  omega
theorem turned_string (w : World) (s : ByteArray) (j : Nat) (b : Int) (hj : j < s.size) (c : Nat) : (convert 46 9 (.slice (some ⟨w.heap.size, 0, none⟩) s.size c)).run Tryd.prog ((Lib.bytesWorld w 5 s).setCell ⟨w.heap.size, j, none⟩ (.int .u8 b)) = .ok (.string (strOfNums ((bytesOf s).set j b))) ((Lib.bytesWorld w 5 s).setCell ⟨w.heap.size, j, none⟩ (.int .u8 b)) := by
  refine run_convert_bytes_arg _ 46 5 Tryd.underlying46 Tryd.underlying5 w.heap.size 0 s.size c ((bytesOf s).set j b) (by rw [List.length_set]; exact bytesOf_length s) (fun i hi => ?_) 9 Tryd.underlying9
  rw [Nat.zero_add]
  have hl : (bytesOf s).length = s.size := bytesOf_length s
  by_cases h : j = i
  · subst h
    rw [World.cell?_setCell_same' _ _ _ (by rw [Lib.bytesWorld_cell w 5 s j hj]; rfl)]
    simp [List.getD_eq_getElem?_getD, hl, hj]
  · rw [World.cell?_setCell_other _ _ _ _ (by intro e; injection e; omega), Lib.bytesWorld_cell w 5 s i hi]
    have hd : i < s.data.toList.length := by rw [data_length]; exact hi
    have h2 : ((bytesOf s).set j b).getD i 0 = (bytesOf s).getD i 0 := by rw [List.getD_eq_getElem?_getD, List.getD_eq_getElem?_getD, List.getElem?_set_ne h]
    rw [h2]
    simp [bytesOf, List.getD_eq_getElem?_getD, List.getElem?_eq_getElem hd]
theorem empty_row (w : World) : k32.R 32 (w.alloc (.cells #[] 32)) w.heap.size (fun _ => True) (.slice (some ⟨w.heap.size, 0, none⟩) 0 0) [] :=
  ⟨fun _ _ => trivial, [], World.ownsRow_lit w #[] 0 (Nat.le_refl _) (Nat.zero_le _) rfl, Reps.none _ _⟩
set_option maxRecDepth 100000 in
set_option maxHeartbeats 1000000 in
theorem cuts_le (la lb : List S32) (A B : Option Addr) (n m ca cb : Nat) (at_ : Int) (w : World) (hG : LaidW w) (hn : Aside0 (la.length = n + 1)) (hm : Aside0 (lb.length = m + 1)) (h1 : n < 60) (h2 : m < 60) (hA : Kd.C k32 w A (n + 1) la) (hac : n + 1 ≤ ca) (hB : Kd.C k32 w B (m + 1) lb) (hbc : m + 1 ≤ cb)
    (K : Nat) (s t : ByteArray) (hs : event_Lines.f K la = some (s, 0)) (ht : event_Lines.f K lb = some (t, 0)) (hst : s.size + t.size ≤ 100000) (hz : 0 < s.size)
    (kk : Nat) (hkk : kk < s.size) (hm1 : (wrap64 at_).tmod (s.size : Int) = (kk : Int)) (b : Nat) (hb : (s.data.toList.getD kk 0).toNat = b) (b2 : Int) (hx : bits .xor .u8 (b : Int) 64 = b2) (U V : ByteArray) (hU : strOfNums ((bytesOf s).set kk b2) = U) (l8 : List S32) (hrU : event_Read.f K U = some (l8, 5)) (hV : s.extract 0 kk = V) (part : List S32) (i : Int) (hrV : event_Read.f K V = some (part, i)) (hpl : part.length ≤ n + 1)
    (hj : kk = 0 ∨ ∃ k2 : Nat, kk = k2 + 1 ∧ (bt s k2 = 10 ∨ bt s k2 ≠ 10 ∧ i = 5)) (hle : (rd_T32 la n).f0 ≤ (rd_T32 lb 0).f0) (hr : event_Read.f K (s ++ t) = some (la ++ lb, 0)) :
    Calls Tryd.prog 6 #[.slice A (n + 1) ca, .slice B (m + 1) cb, .int .u16 at_] w fun e w' => e = .returned (.bool true) ∧ Below w.heap.size w w' := by
  have HA := Aside0.mk (show Kd.C k32 w A la.length la by rw [hn.out]; exact hA)
  have HBr := Aside0.mk (show Kd.C k32 w B lb.length lb by rw [hm.out]; exact hB)
  have HAc := Aside0.mk (show la.length ≤ ca by rw [hn.out]; exact hac)
  have HBc := Aside0.mk (show lb.length ≤ cb by rw [hm.out]; exact hbc)
  have HG := Aside0.mk hG
  have Hs := Aside0.mk hs
  have Ht := Aside0.mk ht
  have Hr := Aside0.mk hr
  have d1 : decide ((60 : Int) < ((n + 1 : Nat) : Int)) = false := decide_eq_false (by omega)
  have d1' : decide ((60 : Int) < (n : Int) + 1) = false := decide_eq_false (by omega)
  have d2 : decide (60 < n + 1) = false := decide_eq_false (by omega)
  have d3 : decide ((60 : Int) < ((m + 1 : Nat) : Int)) = false := decide_eq_false (by omega)
  have d3' : decide ((60 : Int) < (m : Int) + 1) = false := decide_eq_false (by omega)
  have d4 : decide (60 < m + 1) = false := decide_eq_false (by omega)
  clear hA hB hac hbc hG hs ht hr
  have HK1 := Aside0.mk h1
  have HK2 := Aside0.mk h2
  have HST := Aside0.mk hst
  have HLE := Aside0.mk hle
  have HZ := Aside0.mk hz
  have HKK := Aside0.mk hkk
  have HM := Aside0.mk hm1
  have HX := Aside0.mk hx
  have HBB := Aside0.mk hb
  have HU := Aside0.mk hU
  have HrU := Aside0.mk hrU
  have HV := Aside0.mk hV
  have HrV := Aside0.mk hrV
  have HPL := Aside0.mk hpl
  have HJ := Aside0.mk hj
  clear h1 h2 hst hle hz hkk hm1 hx hb hU hrU hV hrV hpl hj
  go_enter Tryd.func6, Tryd.ntmps6
  go_wp2_with fail
  refine (show Calls Tryd.prog 8 #[.slice A (n + 1) ca] _ _ by rw [← hn.out]; exact event_Lines.calls K A ca la s 0 _ HA.out HAc.out Hs.out HG.out).mono ?_
  rintro e w1 ⟨rfl, hb1⟩
  have HB1 := Aside0.mk hb1
  clear hb1
  go_wp2_with fail
  refine (show Calls Tryd.prog 8 #[.slice B (m + 1) cb] _ _ by rw [← hm.out]; exact event_Lines.calls K B cb lb t 0 _ (Kd.C_below HBr.out HB1.out) HBc.out Ht.out (LaidW.below HG.out HB1.out)).mono ?_
  rintro e w2 ⟨rfl, hb2⟩
  have HB2 := Aside0.mk (below_step HB1.out hb2)
  clear hb2
  have z1 : (9223372036854775807 < s.size + t.size) = False := eq_false (by have := HST.out; omega)
  have z2 : (9223372036854775807 < (s ++ t).size) = False := eq_false (by have := HST.out; rw [ByteArray.size_append]; omega)
  go_wp2_with fail
  refine (event_Read.calls K (s ++ t) (la ++ lb) 0 _ Hr.out (LaidW.below HG.out HB2.out)).mono ?_
  rintro e w3 ⟨v3, rfl, hR3, hb3⟩
  obtain ⟨A3, c3, rfl, hl3, hC3⟩ := Kd.R_reads hR3
  have HB3 := Aside0.mk (below_step HB2.out hb3)
  have HC3 := Aside0.mk hC3
  have HL3 := Aside0.mk hl3
  clear hb3 hC3 hR3 hl3
  have HGA := Aside0.mk (Kd.C_below HA.out HB3.out)
  have HGB := Aside0.mk (Kd.C_below HBr.out HB3.out)
  obtain ⟨ada, rfl, ca0, _⟩ := at_T32 HGA.out (n : Int) (by omega) (by have := hn.out; omega)
  obtain ⟨adb, rfl, cb0, _⟩ := at_T32 HGB.out 0 (by omega) (by have := hm.out; omega)
  have e1 : ((n + 1 : Nat) : Int) - 1 = (n : Int) := by omega
  have e2 : wrap64 (n : Int) = (n : Int) := IntWalk.wrap64_in _ ⟨by omega, by have := HK1.out; omega⟩
  have e3 : IntKind.i64.wrap (n : Int) = (n : Int) := by have := HK1.out; exact IntWalk.i64_in _ (by omega)
  have q1 : (((n + 1 : Nat) : Int) == 0) = false := beq_eq_false_iff_ne.2 (by omega)
  have q2 : (((m + 1 : Nat) : Int) == 0) = false := beq_eq_false_iff_ne.2 (by omega)
  have q1' : ((n : Int) + 1 == 0) = false := beq_eq_false_iff_ne.2 (by omega)
  have q2' : ((m : Int) + 1 == 0) = false := beq_eq_false_iff_ne.2 (by omega)
  have q3 : decide ((rd_T32 la n).f0 ≤ (rd_T32 lb 0).f0) = true := decide_eq_true HLE.out
  simp only [Int.toNat_natCast, Int.toNat_zero, Nat.zero_mul] at ca0 cb0
  have l1 : ((n : Int) < (n : Int) + 1) = True := eq_true (by omega)
  have l2 : ((0 : Int) < (m : Int) + 1) = True := eq_true (by omega)
  have ad0 : adb.add 0 = adb := by simp [Addr.add]
  rw [ad0] at cb0
  go_wp2
  go_region
  go_wp2_with (first
    | ((with_reducible refine gate_builtin (b := .append) (xs := #[.tmp 78, .tmp 79]) rfl ?_); (try (refine gate_guard (by rfl) ?_; dsimp only)); at_builtin; refine Kd.R_append_rows k32 (w0 := w3) w3.heap.size rfl (.tmp 78) (.tmp 79) 22 32 (.agg #[(.int .i64 0), (.int .u8 0), (.int .u32 0), (.int .i64 0)]) 24 rfl Tryd.underlying22 info32 rfl (by decide) (by omega) (.slice (some ⟨w3.heap.size, 0, none⟩) 0 0) [] la _ _ _ (fun _ => True) (fun _ => False) rfl rfl ?aO ?aR (fun _ _ h => h) (fun _ h => h.elim) ?aF ?aB ?aS ?aL ?_; (case aO => exact Kd.R_drew (empty_row w3)); (case aR => rw [← hn.out]; exact Kd.C_below HGA.out (below_drew1 (below_alloc (Below.refl _ _) _))); (case aF => exact fun _ _ => trivial); (case aB => exact below_drew1 (below_alloc (Below.refl _ _) _)); (case aS => exact (below_drew1 (below_alloc (Below.refl _ _) _)).size); (case aL => have := HK1.out; simp only [List.length_nil]; omega); intro v4 w4 hR4 hb4 hx4 hy4; have HR4 := Aside0.mk hR4; have HB4 := Aside0.mk hb4; clear hR4 hb4 hx4 hy4)
    | ((with_reducible refine gate_builtin (b := .append) (xs := #[.tmp 80, .tmp 81]) rfl ?_); (try (refine gate_guard (by rfl) ?_; dsimp only)); at_builtin; refine Kd.R_append_rows k32 (w0 := w3) w3.heap.size rfl (.tmp 80) (.tmp 81) 22 32 (.agg #[(.int .i64 0), (.int .u8 0), (.int .u32 0), (.int .i64 0)]) 24 rfl Tryd.underlying22 info32 rfl (by decide) (by omega) _ la lb _ _ _ (fun _ => True) (fun _ => False) rfl rfl ?aO ?aR (fun _ _ h => h) (fun _ h => h.elim) ?aF ?aB ?aS ?aL ?_; (case aO => exact HR4.out); (case aR => rw [← hm.out]; exact Kd.C_below HGB.out HB4.out); (case aF => exact fun _ _ => trivial); (case aB => exact HB4.out); (case aS => exact HB4.out.size); (case aL => have := HK1.out; have := HK2.out; have := hn.out; omega); intro v5 w5 hR5 hb5 hx5 hy5; obtain ⟨A5, c5, rfl, hl5, hC5⟩ := Kd.R_reads hR5; have HC5 := Aside0.mk hC5; have HL5 := Aside0.mk hl5; have HB5 := Aside0.mk hb5; clear hR5 hC5 hl5 hb5 hx5 hy5)
    | fail)
  have hlen : (la ++ lb).length ≤ 120 := by have := HK1.out; have := HK2.out; have := hn.out; have := hm.out; simp; omega
  refine (show Calls Tryd.prog 15 #[.slice A3 (la.length + lb.length) c3, .slice A5 (la.length + lb.length) c5] w5 (fun e w' => e = .returned (.bool true) ∧ Drawn0 w5 w') by rw [← List.length_append]; exact liveryref30_Same.calls 1000 A3 c3 (la ++ lb) A5 c5 (la ++ lb) true _ (Kd.C_below HC3.out HB5.out) HL3.out HC5.out HL5.out (same_self _ (by omega) _ (by omega))).mono ?_
  rintro e w6 ⟨rfl, ⟨nd, rfl⟩⟩
  have HB6 := Aside0.mk (pw_below_drewN (below_step HB3.out HB5.out) nd)
  have HN5 := Aside0.mk (show w.heap.size ≤ w5.heap.size from Nat.le_trans HB3.out.size HB5.out.size)
  have q0 : ((s.size : Int) == 0) = false := beq_eq_false_iff_ne.2 (by have := HZ.out; omega)
  have q0' : ((s.size : Int) = 0) = False := eq_false (by have := HZ.out; omega)
  have q0'' : (s.size = 0) = False := eq_false (by have := HZ.out; omega)
  have kb := fun W => print_bytes (P := Tryd.prog) 9 46 5 Tryd.underlying9 Tryd.underlying46 Tryd.underlying5 s W
  have m1 := HM.out
  have m2 : wrap64 (kk : Int) = (kk : Int) := IntWalk.wrap64_in _ ⟨by omega, by have := HKK.out; have := HST.out; omega⟩
  have m3 : IntKind.i64.wrap (kk : Int) = (kk : Int) := by have := HKK.out; have := HST.out; exact IntWalk.i64_in _ (by omega)
  have x1 : ((0 : Int) ≤ (kk : Int)) = True := eq_true (by omega)
  have x2 : ((kk : Int) < (s.size : Int)) = True := eq_true (by have := HKK.out; omega)
  have x2' : (kk < s.size) = True := eq_true HKK.out
  have c7 : (Lib.bytesWorld (w5.drewN nd) 5 s).cell? ⟨w5.heap.size, kk, none⟩ = some (.int .u8 (b : Nat)) := by rw [← HBB.out]; exact Lib.bytesWorld_cell (w5.drewN nd) 5 s kk HKK.out
  have f7 : (Lib.bytesWorld (w5.drewN nd) 5 s).frozen? ⟨w5.heap.size, kk, none⟩ = false := bytes_soft (w5.drewN nd) s kk HKK.out
  have hx := HX.out
  have ks : (convert 46 9 (.slice (some ⟨w5.heap.size, 0, none⟩) s.size (grownCap (w5.drewN nd) s.size 0 5))).run Tryd.prog ((Lib.bytesWorld (w5.drewN nd) 5 s).setCell ⟨w5.heap.size, kk, none⟩ (.int .u8 b2)) = .ok (.string U) ((Lib.bytesWorld (w5.drewN nd) 5 s).setCell ⟨w5.heap.size, kk, none⟩ (.int .u8 b2)) := by
    rw [← HU.out]
    exact turned_string (w5.drewN nd) s kk b2 HKK.out _
  have HB7 := Aside0.mk ((bytes_below HB6.out HB6.out.size 5 s).setCell (p := ⟨w5.heap.size, kk, none⟩) HN5.out (.int .u8 b2))
  go_wp2_with fail
  refine (event_Read.calls K U l8 5 _ HrU.out (LaidW.below HG.out HB7.out)).mono ?_
  rintro e w8 ⟨v8, rfl, hR8, hb8⟩
  have HB8 := Aside0.mk (below_step HB7.out hb8)
  clear hb8 hR8
  have y1 : ((0 : Int) ≤ (kk : Int)) = True := eq_true (by omega)
  have y2 : ((kk : Int) ≤ (s.size : Int)) = True := eq_true (by have := HKK.out; omega)
  have y3 : (kk ≤ s.size) = True := eq_true (by have := HKK.out; omega)
  go_wp2_with fail
  rw [HV.out]
  refine (event_Read.calls K V part i _ HrV.out (LaidW.below HG.out HB8.out)).mono ?_
  rintro e w9 ⟨v9, rfl, hR9, hb9⟩
  obtain ⟨A9, c9, rfl, hl9, hC9⟩ := Kd.R_reads hR9
  have HB9 := Aside0.mk (below_step HB8.out hb9)
  clear hb9 hC9 hR9 hl9 c7 f7 ks kb m1 m2 m3 hx x1 x2 x2' y1 y2 y3
  have t1 : decide ((part.length : Int) ≤ (n : Int) + 1) = true := decide_eq_true (by have := HPL.out; omega)
  have t1' : decide ((part.length : Int) ≤ ((n + 1 : Nat) : Int)) = true := decide_eq_true (by have := HPL.out; omega)
  have t2 : decide (part.length ≤ n + 1) = true := decide_eq_true HPL.out
  rcases HJ.out with e0 | ⟨k2, e0, hc | ⟨hc, e5⟩⟩
  · clear HV HrV HX HBB HU HM HJ
    subst e0
    go_wp2_with fail
    refine (liverylaw30_head.calls true _ rfl (LaidW.below HG.out HB9.out)).mono ?_
    rintro e w10 ⟨rfl, hb10⟩
    go_wp2
    all_goals go_ret
    all_goals exact ⟨rfl, below_step HB9.out hb10⟩
  · clear HV HrV HX HBB HU HM HJ
    subst e0
    have g1 : ((0 : Int) < (k2 : Int) + 1) = True := eq_true (by omega)
    have g3 : wrap64 (k2 : Int) = (k2 : Int) := IntWalk.wrap64_in _ ⟨by omega, by have := HKK.out; have := HST.out; omega⟩
    have g4 : IntKind.i64.wrap (k2 : Int) = (k2 : Int) := by have := HKK.out; have := HST.out; exact IntWalk.i64_in _ (by omega)
    have p1 : ((0 : Int) ≤ (k2 : Int)) = True := eq_true (by omega)
    have p2 : ((k2 : Int) < (s.size : Int)) = True := eq_true (by have := HKK.out; omega)
    have p2' : (k2 < s.size) = True := eq_true (by have := HKK.out; omega)
    have hxb := bt_at s (k2 : Int)
    rw [Int.toNat_natCast] at hxb
    have b1 : (bt s (k2 : Int) == 10) = true := beq_iff_eq.2 hc
    have b3 : (bt s (k2 : Int) != 10) = false := by simp [bne, b1]
    go_wp2_with fail
    refine (liverylaw30_head.calls true _ rfl (LaidW.below HG.out HB9.out)).mono ?_
    rintro e w10 ⟨rfl, hb10⟩
    go_wp2
    all_goals go_ret
    all_goals exact ⟨rfl, below_step HB9.out hb10⟩
  · clear HV HrV HX HBB HU HM HJ
    subst e0 e5
    have g1 : ((0 : Int) < (k2 : Int) + 1) = True := eq_true (by omega)
    have g3 : wrap64 (k2 : Int) = (k2 : Int) := IntWalk.wrap64_in _ ⟨by omega, by have := HKK.out; have := HST.out; omega⟩
    have g4 : IntKind.i64.wrap (k2 : Int) = (k2 : Int) := by have := HKK.out; have := HST.out; exact IntWalk.i64_in _ (by omega)
    have p1 : ((0 : Int) ≤ (k2 : Int)) = True := eq_true (by omega)
    have p2 : ((k2 : Int) < (s.size : Int)) = True := eq_true (by have := HKK.out; omega)
    have p2' : (k2 < s.size) = True := eq_true (by have := HKK.out; omega)
    have hxb := bt_at s (k2 : Int)
    rw [Int.toNat_natCast] at hxb
    have b1 : (bt s (k2 : Int) == 10) = false := beq_eq_false_iff_ne.2 hc
    have b3 : (bt s (k2 : Int) != 10) = true := by simp [bne, b1]
    go_wp2_with fail
    refine (liverylaw30_head.calls true _ rfl (LaidW.below HG.out HB9.out)).mono ?_
    rintro e w10 ⟨rfl, hb10⟩
    go_wp2
    all_goals go_ret
    all_goals exact ⟨rfl, below_step HB9.out hb10⟩
set_option maxRecDepth 100000 in
set_option maxHeartbeats 1000000 in
theorem cuts_no (la lb : List S32) (A B : Option Addr) (n ca cb : Nat) (at_ : Int) (w : World) (hG : LaidW w) (hn : Aside0 (la.length = n + 1)) (hm : Aside0 (lb.length = 0)) (h1 : n < 60) (hA : Kd.C k32 w A (n + 1) la) (hac : n + 1 ≤ ca) (hB : Kd.C k32 w B 0 lb)
    (K : Nat) (s t : ByteArray) (hs : event_Lines.f K la = some (s, 0)) (ht : event_Lines.f K lb = some (t, 0)) (hst : s.size + t.size ≤ 100000) (hz : 0 < s.size)
    (kk : Nat) (hkk : kk < s.size) (hm1 : (wrap64 at_).tmod (s.size : Int) = (kk : Int)) (b : Nat) (hb : (s.data.toList.getD kk 0).toNat = b) (b2 : Int) (hx : bits .xor .u8 (b : Int) 64 = b2) (U V : ByteArray) (hU : strOfNums ((bytesOf s).set kk b2) = U) (l8 : List S32) (hrU : event_Read.f K U = some (l8, 5)) (hV : s.extract 0 kk = V) (part : List S32) (i : Int) (hrV : event_Read.f K V = some (part, i)) (hpl : part.length ≤ n + 1)
    (hj : kk = 0 ∨ ∃ k2 : Nat, kk = k2 + 1 ∧ (bt s k2 = 10 ∨ bt s k2 ≠ 10 ∧ i = 5)) (hr : event_Read.f K (s ++ t) = some (la ++ lb, 0)) :
    Calls Tryd.prog 6 #[.slice A (n + 1) ca, .slice B 0 cb, .int .u16 at_] w fun e w' => e = .returned (.bool true) ∧ Below w.heap.size w w' := by
  have HA := Aside0.mk (show Kd.C k32 w A la.length la by rw [hn.out]; exact hA)
  have HBr := Aside0.mk (show Kd.C k32 w B lb.length lb by rw [hm.out]; exact hB)
  have HAc := Aside0.mk (show la.length ≤ ca by rw [hn.out]; exact hac)
  have HBc := Aside0.mk (show lb.length ≤ cb by rw [hm.out]; exact Nat.zero_le _)
  have HG := Aside0.mk hG
  have Hs := Aside0.mk hs
  have Ht := Aside0.mk ht
  have Hr := Aside0.mk hr
  have d1 : decide ((60 : Int) < ((n + 1 : Nat) : Int)) = false := decide_eq_false (by omega)
  have d1' : decide ((60 : Int) < (n : Int) + 1) = false := decide_eq_false (by omega)
  have d2 : decide (60 < n + 1) = false := decide_eq_false (by omega)
  clear hA hB hac hG hs ht hr
  have HK1 := Aside0.mk h1
  have HST := Aside0.mk hst
  have HZ := Aside0.mk hz
  have HKK := Aside0.mk hkk
  have HM := Aside0.mk hm1
  have HX := Aside0.mk hx
  have HBB := Aside0.mk hb
  have HU := Aside0.mk hU
  have HrU := Aside0.mk hrU
  have HV := Aside0.mk hV
  have HrV := Aside0.mk hrV
  have HPL := Aside0.mk hpl
  have HJ := Aside0.mk hj
  clear h1 hst hz hkk hm1 hx hb hU hrU hV hrV hpl hj
  go_enter Tryd.func6, Tryd.ntmps6
  go_wp2_with fail
  refine (show Calls Tryd.prog 8 #[.slice A (n + 1) ca] _ _ by rw [← hn.out]; exact event_Lines.calls K A ca la s 0 _ HA.out HAc.out Hs.out HG.out).mono ?_
  rintro e w1 ⟨rfl, hb1⟩
  have HB1 := Aside0.mk hb1
  clear hb1
  go_wp2_with fail
  refine (show Calls Tryd.prog 8 #[.slice B 0 cb] _ _ by rw [← hm.out]; exact event_Lines.calls K B cb lb t 0 _ (Kd.C_below HBr.out HB1.out) HBc.out Ht.out (LaidW.below HG.out HB1.out)).mono ?_
  rintro e w2 ⟨rfl, hb2⟩
  have HB2 := Aside0.mk (below_step HB1.out hb2)
  clear hb2
  have z1 : (9223372036854775807 < s.size + t.size) = False := eq_false (by have := HST.out; omega)
  have z2 : (9223372036854775807 < (s ++ t).size) = False := eq_false (by have := HST.out; rw [ByteArray.size_append]; omega)
  go_wp2_with fail
  refine (event_Read.calls K (s ++ t) (la ++ lb) 0 _ Hr.out (LaidW.below HG.out HB2.out)).mono ?_
  rintro e w3 ⟨v3, rfl, hR3, hb3⟩
  obtain ⟨A3, c3, rfl, hl3, hC3⟩ := Kd.R_reads hR3
  have HB3 := Aside0.mk (below_step HB2.out hb3)
  have HC3 := Aside0.mk hC3
  have HL3 := Aside0.mk hl3
  clear hb3 hC3 hR3 hl3
  have HGA := Aside0.mk (Kd.C_below HA.out HB3.out)
  have HGB := Aside0.mk (Kd.C_below HBr.out HB3.out)
  have q1 : (((n + 1 : Nat) : Int) == 0) = false := beq_eq_false_iff_ne.2 (by omega)
  have q1' : ((n : Int) + 1 == 0) = false := beq_eq_false_iff_ne.2 (by omega)
  go_wp2
  go_region
  go_wp2_with (first
    | ((with_reducible refine gate_builtin (b := .append) (xs := #[.tmp 78, .tmp 79]) rfl ?_); (try (refine gate_guard (by rfl) ?_; dsimp only)); at_builtin; refine Kd.R_append_rows k32 (w0 := w3) w3.heap.size rfl (.tmp 78) (.tmp 79) 22 32 (.agg #[(.int .i64 0), (.int .u8 0), (.int .u32 0), (.int .i64 0)]) 24 rfl Tryd.underlying22 info32 rfl (by decide) (by omega) (.slice (some ⟨w3.heap.size, 0, none⟩) 0 0) [] la _ _ _ (fun _ => True) (fun _ => False) rfl rfl ?aO ?aR (fun _ _ h => h) (fun _ h => h.elim) ?aF ?aB ?aS ?aL ?_; (case aO => exact Kd.R_drew (empty_row w3)); (case aR => rw [← hn.out]; exact Kd.C_below HGA.out (below_drew1 (below_alloc (Below.refl _ _) _))); (case aF => exact fun _ _ => trivial); (case aB => exact below_drew1 (below_alloc (Below.refl _ _) _)); (case aS => exact (below_drew1 (below_alloc (Below.refl _ _) _)).size); (case aL => have := HK1.out; simp only [List.length_nil]; omega); intro v4 w4 hR4 hb4 hx4 hy4; have HR4 := Aside0.mk hR4; have HB4 := Aside0.mk hb4; clear hR4 hb4 hx4 hy4)
    | ((with_reducible refine gate_builtin (b := .append) (xs := #[.tmp 80, .tmp 81]) rfl ?_); (try (refine gate_guard (by rfl) ?_; dsimp only)); at_builtin; refine Kd.R_append_rows k32 (w0 := w3) w3.heap.size rfl (.tmp 80) (.tmp 81) 22 32 (.agg #[(.int .i64 0), (.int .u8 0), (.int .u32 0), (.int .i64 0)]) 24 rfl Tryd.underlying22 info32 rfl (by decide) (by omega) _ la lb _ _ _ (fun _ => True) (fun _ => False) rfl rfl ?aO ?aR (fun _ _ h => h) (fun _ h => h.elim) ?aF ?aB ?aS ?aL ?_; (case aO => exact HR4.out); (case aR => rw [← hm.out]; exact Kd.C_below HGB.out HB4.out); (case aF => exact fun _ _ => trivial); (case aB => exact HB4.out); (case aS => exact HB4.out.size); (case aL => have := HK1.out; have := hn.out; omega); intro v5 w5 hR5 hb5 hx5 hy5; obtain ⟨A5, c5, rfl, hl5, hC5⟩ := Kd.R_reads hR5; have HC5 := Aside0.mk hC5; have HL5 := Aside0.mk hl5; have HB5 := Aside0.mk hb5; clear hR5 hC5 hl5 hb5 hx5 hy5)
    | fail)
  have hlen : (la ++ lb).length ≤ 120 := by have := HK1.out; have := hn.out; have := hm.out; simp; omega
  refine (show Calls Tryd.prog 15 #[.slice A3 (la.length + lb.length) c3, .slice A5 (la.length + lb.length) c5] w5 (fun e w' => e = .returned (.bool true) ∧ Drawn0 w5 w') by rw [← List.length_append]; exact liveryref30_Same.calls 1000 A3 c3 (la ++ lb) A5 c5 (la ++ lb) true _ (Kd.C_below HC3.out HB5.out) HL3.out HC5.out HL5.out (same_self _ (by omega) _ (by omega))).mono ?_
  rintro e w6 ⟨rfl, ⟨nd, rfl⟩⟩
  have HB6 := Aside0.mk (pw_below_drewN (below_step HB3.out HB5.out) nd)
  have HN5 := Aside0.mk (show w.heap.size ≤ w5.heap.size from Nat.le_trans HB3.out.size HB5.out.size)
  have q0 : ((s.size : Int) == 0) = false := beq_eq_false_iff_ne.2 (by have := HZ.out; omega)
  have q0' : ((s.size : Int) = 0) = False := eq_false (by have := HZ.out; omega)
  have q0'' : (s.size = 0) = False := eq_false (by have := HZ.out; omega)
  have kb := fun W => print_bytes (P := Tryd.prog) 9 46 5 Tryd.underlying9 Tryd.underlying46 Tryd.underlying5 s W
  have m1 := HM.out
  have m2 : wrap64 (kk : Int) = (kk : Int) := IntWalk.wrap64_in _ ⟨by omega, by have := HKK.out; have := HST.out; omega⟩
  have m3 : IntKind.i64.wrap (kk : Int) = (kk : Int) := by have := HKK.out; have := HST.out; exact IntWalk.i64_in _ (by omega)
  have x1 : ((0 : Int) ≤ (kk : Int)) = True := eq_true (by omega)
  have x2 : ((kk : Int) < (s.size : Int)) = True := eq_true (by have := HKK.out; omega)
  have x2' : (kk < s.size) = True := eq_true HKK.out
  have c7 : (Lib.bytesWorld (w5.drewN nd) 5 s).cell? ⟨w5.heap.size, kk, none⟩ = some (.int .u8 (b : Nat)) := by rw [← HBB.out]; exact Lib.bytesWorld_cell (w5.drewN nd) 5 s kk HKK.out
  have f7 : (Lib.bytesWorld (w5.drewN nd) 5 s).frozen? ⟨w5.heap.size, kk, none⟩ = false := bytes_soft (w5.drewN nd) s kk HKK.out
  have hx := HX.out
  have ks : (convert 46 9 (.slice (some ⟨w5.heap.size, 0, none⟩) s.size (grownCap (w5.drewN nd) s.size 0 5))).run Tryd.prog ((Lib.bytesWorld (w5.drewN nd) 5 s).setCell ⟨w5.heap.size, kk, none⟩ (.int .u8 b2)) = .ok (.string U) ((Lib.bytesWorld (w5.drewN nd) 5 s).setCell ⟨w5.heap.size, kk, none⟩ (.int .u8 b2)) := by
    rw [← HU.out]
    exact turned_string (w5.drewN nd) s kk b2 HKK.out _
  have HB7 := Aside0.mk ((bytes_below HB6.out HB6.out.size 5 s).setCell (p := ⟨w5.heap.size, kk, none⟩) HN5.out (.int .u8 b2))
  go_wp2_with fail
  refine (event_Read.calls K U l8 5 _ HrU.out (LaidW.below HG.out HB7.out)).mono ?_
  rintro e w8 ⟨v8, rfl, hR8, hb8⟩
  have HB8 := Aside0.mk (below_step HB7.out hb8)
  clear hb8 hR8
  have y1 : ((0 : Int) ≤ (kk : Int)) = True := eq_true (by omega)
  have y2 : ((kk : Int) ≤ (s.size : Int)) = True := eq_true (by have := HKK.out; omega)
  have y3 : (kk ≤ s.size) = True := eq_true (by have := HKK.out; omega)
  go_wp2_with fail
  rw [HV.out]
  refine (event_Read.calls K V part i _ HrV.out (LaidW.below HG.out HB8.out)).mono ?_
  rintro e w9 ⟨v9, rfl, hR9, hb9⟩
  obtain ⟨A9, c9, rfl, hl9, hC9⟩ := Kd.R_reads hR9
  have HB9 := Aside0.mk (below_step HB8.out hb9)
  clear hb9 hC9 hR9 hl9 c7 f7 ks kb m1 m2 m3 hx x1 x2 x2' y1 y2 y3
  have t1 : decide ((part.length : Int) ≤ (n : Int) + 1) = true := decide_eq_true (by have := HPL.out; omega)
  have t1' : decide ((part.length : Int) ≤ ((n + 1 : Nat) : Int)) = true := decide_eq_true (by have := HPL.out; omega)
  have t2 : decide (part.length ≤ n + 1) = true := decide_eq_true HPL.out
  rcases HJ.out with e0 | ⟨k2, e0, hc | ⟨hc, e5⟩⟩
  · clear HV HrV HX HBB HU HM HJ
    subst e0
    go_wp2_with fail
    refine (liverylaw30_head.calls true _ rfl (LaidW.below HG.out HB9.out)).mono ?_
    rintro e w10 ⟨rfl, hb10⟩
    go_wp2
    all_goals go_ret
    all_goals exact ⟨rfl, below_step HB9.out hb10⟩
  · clear HV HrV HX HBB HU HM HJ
    subst e0
    have g1 : ((0 : Int) < (k2 : Int) + 1) = True := eq_true (by omega)
    have g3 : wrap64 (k2 : Int) = (k2 : Int) := IntWalk.wrap64_in _ ⟨by omega, by have := HKK.out; have := HST.out; omega⟩
    have g4 : IntKind.i64.wrap (k2 : Int) = (k2 : Int) := by have := HKK.out; have := HST.out; exact IntWalk.i64_in _ (by omega)
    have p1 : ((0 : Int) ≤ (k2 : Int)) = True := eq_true (by omega)
    have p2 : ((k2 : Int) < (s.size : Int)) = True := eq_true (by have := HKK.out; omega)
    have p2' : (k2 < s.size) = True := eq_true (by have := HKK.out; omega)
    have hxb := bt_at s (k2 : Int)
    rw [Int.toNat_natCast] at hxb
    have b1 : (bt s (k2 : Int) == 10) = true := beq_iff_eq.2 hc
    have b3 : (bt s (k2 : Int) != 10) = false := by simp [bne, b1]
    go_wp2_with fail
    refine (liverylaw30_head.calls true _ rfl (LaidW.below HG.out HB9.out)).mono ?_
    rintro e w10 ⟨rfl, hb10⟩
    go_wp2
    all_goals go_ret
    all_goals exact ⟨rfl, below_step HB9.out hb10⟩
  · clear HV HrV HX HBB HU HM HJ
    subst e0 e5
    have g1 : ((0 : Int) < (k2 : Int) + 1) = True := eq_true (by omega)
    have g3 : wrap64 (k2 : Int) = (k2 : Int) := IntWalk.wrap64_in _ ⟨by omega, by have := HKK.out; have := HST.out; omega⟩
    have g4 : IntKind.i64.wrap (k2 : Int) = (k2 : Int) := by have := HKK.out; have := HST.out; exact IntWalk.i64_in _ (by omega)
    have p1 : ((0 : Int) ≤ (k2 : Int)) = True := eq_true (by omega)
    have p2 : ((k2 : Int) < (s.size : Int)) = True := eq_true (by have := HKK.out; omega)
    have p2' : (k2 < s.size) = True := eq_true (by have := HKK.out; omega)
    have hxb := bt_at s (k2 : Int)
    rw [Int.toNat_natCast] at hxb
    have b1 : (bt s (k2 : Int) == 10) = false := beq_eq_false_iff_ne.2 hc
    have b3 : (bt s (k2 : Int) != 10) = true := by simp [bne, b1]
    go_wp2_with fail
    refine (liverylaw30_head.calls true _ rfl (LaidW.below HG.out HB9.out)).mono ?_
    rintro e w10 ⟨rfl, hb10⟩
    go_wp2
    all_goals go_ret
    all_goals exact ⟨rfl, below_step HB9.out hb10⟩
set_option maxRecDepth 100000 in
set_option maxHeartbeats 1000000 in
theorem cuts_gt (la lb : List S32) (A B : Option Addr) (n m ca cb : Nat) (at_ : Int) (w : World) (hG : LaidW w) (hn : Aside0 (la.length = n + 1)) (hm : Aside0 (lb.length = m + 1)) (h1 : n < 60) (h2 : m < 60) (hA : Kd.C k32 w A (n + 1) la) (hac : n + 1 ≤ ca) (hB : Kd.C k32 w B (m + 1) lb) (hbc : m + 1 ≤ cb)
    (K : Nat) (s t : ByteArray) (hs : event_Lines.f K la = some (s, 0)) (ht : event_Lines.f K lb = some (t, 0)) (hst : s.size + t.size ≤ 100000) (hz : 0 < s.size)
    (kk : Nat) (hkk : kk < s.size) (hm1 : (wrap64 at_).tmod (s.size : Int) = (kk : Int)) (b : Nat) (hb : (s.data.toList.getD kk 0).toNat = b) (b2 : Int) (hx : bits .xor .u8 (b : Int) 64 = b2) (U V : ByteArray) (hU : strOfNums ((bytesOf s).set kk b2) = U) (l8 : List S32) (hrU : event_Read.f K U = some (l8, 5)) (hV : s.extract 0 kk = V) (part : List S32) (i : Int) (hrV : event_Read.f K V = some (part, i)) (hpl : part.length ≤ n + 1)
    (hj : kk = 0 ∨ ∃ k2 : Nat, kk = k2 + 1 ∧ (bt s k2 = 10 ∨ bt s k2 ≠ 10 ∧ i = 5)) (hle : ¬ (rd_T32 la n).f0 ≤ (rd_T32 lb 0).f0) (hr : event_Read.f K (s ++ t) = some ([], 5)) :
    Calls Tryd.prog 6 #[.slice A (n + 1) ca, .slice B (m + 1) cb, .int .u16 at_] w fun e w' => e = .returned (.bool true) ∧ Below w.heap.size w w' := by
  have HA := Aside0.mk (show Kd.C k32 w A la.length la by rw [hn.out]; exact hA)
  have HBr := Aside0.mk (show Kd.C k32 w B lb.length lb by rw [hm.out]; exact hB)
  have HAc := Aside0.mk (show la.length ≤ ca by rw [hn.out]; exact hac)
  have HBc := Aside0.mk (show lb.length ≤ cb by rw [hm.out]; exact hbc)
  have HG := Aside0.mk hG
  have Hs := Aside0.mk hs
  have Ht := Aside0.mk ht
  have Hr := Aside0.mk hr
  have d1 : decide ((60 : Int) < ((n + 1 : Nat) : Int)) = false := decide_eq_false (by omega)
  have d1' : decide ((60 : Int) < (n : Int) + 1) = false := decide_eq_false (by omega)
  have d2 : decide (60 < n + 1) = false := decide_eq_false (by omega)
  have d3 : decide ((60 : Int) < ((m + 1 : Nat) : Int)) = false := decide_eq_false (by omega)
  have d3' : decide ((60 : Int) < (m : Int) + 1) = false := decide_eq_false (by omega)
  have d4 : decide (60 < m + 1) = false := decide_eq_false (by omega)
  clear hA hB hac hbc hG hs ht hr
  have HK1 := Aside0.mk h1
  have HK2 := Aside0.mk h2
  have HST := Aside0.mk hst
  have HLE := Aside0.mk hle
  have HZ := Aside0.mk hz
  have HKK := Aside0.mk hkk
  have HM := Aside0.mk hm1
  have HX := Aside0.mk hx
  have HBB := Aside0.mk hb
  have HU := Aside0.mk hU
  have HrU := Aside0.mk hrU
  have HV := Aside0.mk hV
  have HrV := Aside0.mk hrV
  have HPL := Aside0.mk hpl
  have HJ := Aside0.mk hj
  clear h1 h2 hst hle hz hkk hm1 hx hb hU hrU hV hrV hpl hj
  go_enter Tryd.func6, Tryd.ntmps6
  go_wp2_with fail
  refine (show Calls Tryd.prog 8 #[.slice A (n + 1) ca] _ _ by rw [← hn.out]; exact event_Lines.calls K A ca la s 0 _ HA.out HAc.out Hs.out HG.out).mono ?_
  rintro e w1 ⟨rfl, hb1⟩
  have HB1 := Aside0.mk hb1
  clear hb1
  go_wp2_with fail
  refine (show Calls Tryd.prog 8 #[.slice B (m + 1) cb] _ _ by rw [← hm.out]; exact event_Lines.calls K B cb lb t 0 _ (Kd.C_below HBr.out HB1.out) HBc.out Ht.out (LaidW.below HG.out HB1.out)).mono ?_
  rintro e w2 ⟨rfl, hb2⟩
  have HB2 := Aside0.mk (below_step HB1.out hb2)
  clear hb2
  have z1 : (9223372036854775807 < s.size + t.size) = False := eq_false (by have := HST.out; omega)
  have z2 : (9223372036854775807 < (s ++ t).size) = False := eq_false (by have := HST.out; rw [ByteArray.size_append]; omega)
  go_wp2_with fail
  refine (event_Read.calls K (s ++ t) [] 5 _ Hr.out (LaidW.below HG.out HB2.out)).mono ?_
  rintro e w3 ⟨v3, rfl, hR3, hb3⟩
  obtain ⟨A3, c3, rfl, hl3, hC3⟩ := Kd.R_reads hR3
  have HB3 := Aside0.mk (below_step HB2.out hb3)
  have HC3 := Aside0.mk hC3
  have HL3 := Aside0.mk hl3
  clear hb3 hC3 hR3 hl3
  have HGA := Aside0.mk (Kd.C_below HA.out HB3.out)
  have HGB := Aside0.mk (Kd.C_below HBr.out HB3.out)
  obtain ⟨ada, rfl, ca0, _⟩ := at_T32 HGA.out (n : Int) (by omega) (by have := hn.out; omega)
  obtain ⟨adb, rfl, cb0, _⟩ := at_T32 HGB.out 0 (by omega) (by have := hm.out; omega)
  have e1 : ((n + 1 : Nat) : Int) - 1 = (n : Int) := by omega
  have e2 : wrap64 (n : Int) = (n : Int) := IntWalk.wrap64_in _ ⟨by omega, by have := HK1.out; omega⟩
  have e3 : IntKind.i64.wrap (n : Int) = (n : Int) := by have := HK1.out; exact IntWalk.i64_in _ (by omega)
  have q1 : (((n + 1 : Nat) : Int) == 0) = false := beq_eq_false_iff_ne.2 (by omega)
  have q2 : (((m + 1 : Nat) : Int) == 0) = false := beq_eq_false_iff_ne.2 (by omega)
  have q1' : ((n : Int) + 1 == 0) = false := beq_eq_false_iff_ne.2 (by omega)
  have q2' : ((m : Int) + 1 == 0) = false := beq_eq_false_iff_ne.2 (by omega)
  have q3 : decide ((rd_T32 la n).f0 ≤ (rd_T32 lb 0).f0) = false := decide_eq_false (Int.not_le.2 HLE.out)
  simp only [Int.toNat_natCast, Int.toNat_zero, Nat.zero_mul] at ca0 cb0
  have l1 : ((n : Int) < (n : Int) + 1) = True := eq_true (by omega)
  have l2 : ((0 : Int) < (m : Int) + 1) = True := eq_true (by omega)
  have ad0 : adb.add 0 = adb := by simp [Addr.add]
  rw [ad0] at cb0
  go_wp2
  go_region
  have HB6 := Aside0.mk (below_drew1 HB3.out)
  have HN5 := Aside0.mk HB3.out.size
  have q0 : ((s.size : Int) == 0) = false := beq_eq_false_iff_ne.2 (by have := HZ.out; omega)
  have q0' : ((s.size : Int) = 0) = False := eq_false (by have := HZ.out; omega)
  have q0'' : (s.size = 0) = False := eq_false (by have := HZ.out; omega)
  have kb := fun W => print_bytes (P := Tryd.prog) 9 46 5 Tryd.underlying9 Tryd.underlying46 Tryd.underlying5 s W
  have m1 := HM.out
  have m2 : wrap64 (kk : Int) = (kk : Int) := IntWalk.wrap64_in _ ⟨by omega, by have := HKK.out; have := HST.out; omega⟩
  have m3 : IntKind.i64.wrap (kk : Int) = (kk : Int) := by have := HKK.out; have := HST.out; exact IntWalk.i64_in _ (by omega)
  have x1 : ((0 : Int) ≤ (kk : Int)) = True := eq_true (by omega)
  have x2 : ((kk : Int) < (s.size : Int)) = True := eq_true (by have := HKK.out; omega)
  have x2' : (kk < s.size) = True := eq_true HKK.out
  have c7 : (Lib.bytesWorld (w3.drew) 5 s).cell? ⟨w3.heap.size, kk, none⟩ = some (.int .u8 (b : Nat)) := by rw [← HBB.out]; exact Lib.bytesWorld_cell (w3.drew) 5 s kk HKK.out
  have f7 : (Lib.bytesWorld (w3.drew) 5 s).frozen? ⟨w3.heap.size, kk, none⟩ = false := bytes_soft (w3.drew) s kk HKK.out
  have hx := HX.out
  have ks : (convert 46 9 (.slice (some ⟨w3.heap.size, 0, none⟩) s.size (grownCap (w3.drew) s.size 0 5))).run Tryd.prog ((Lib.bytesWorld (w3.drew) 5 s).setCell ⟨w3.heap.size, kk, none⟩ (.int .u8 b2)) = .ok (.string U) ((Lib.bytesWorld (w3.drew) 5 s).setCell ⟨w3.heap.size, kk, none⟩ (.int .u8 b2)) := by
    rw [← HU.out]
    exact turned_string (w3.drew) s kk b2 HKK.out _
  have HB7 := Aside0.mk ((bytes_below HB6.out HB6.out.size 5 s).setCell (p := ⟨w3.heap.size, kk, none⟩) HN5.out (.int .u8 b2))
  go_wp2_with fail
  refine (event_Read.calls K U l8 5 _ HrU.out (LaidW.below HG.out HB7.out)).mono ?_
  rintro e w8 ⟨v8, rfl, hR8, hb8⟩
  have HB8 := Aside0.mk (below_step HB7.out hb8)
  clear hb8 hR8
  have y1 : ((0 : Int) ≤ (kk : Int)) = True := eq_true (by omega)
  have y2 : ((kk : Int) ≤ (s.size : Int)) = True := eq_true (by have := HKK.out; omega)
  have y3 : (kk ≤ s.size) = True := eq_true (by have := HKK.out; omega)
  go_wp2_with fail
  rw [HV.out]
  refine (event_Read.calls K V part i _ HrV.out (LaidW.below HG.out HB8.out)).mono ?_
  rintro e w9 ⟨v9, rfl, hR9, hb9⟩
  obtain ⟨A9, c9, rfl, hl9, hC9⟩ := Kd.R_reads hR9
  have HB9 := Aside0.mk (below_step HB8.out hb9)
  clear hb9 hC9 hR9 hl9 c7 f7 ks kb m1 m2 m3 hx x1 x2 x2' y1 y2 y3
  have t1 : decide ((part.length : Int) ≤ (n : Int) + 1) = true := decide_eq_true (by have := HPL.out; omega)
  have t1' : decide ((part.length : Int) ≤ ((n + 1 : Nat) : Int)) = true := decide_eq_true (by have := HPL.out; omega)
  have t2 : decide (part.length ≤ n + 1) = true := decide_eq_true HPL.out
  rcases HJ.out with e0 | ⟨k2, e0, hc | ⟨hc, e5⟩⟩
  · clear HV HrV HX HBB HU HM HJ
    subst e0
    go_wp2_with fail
    refine (liverylaw30_head.calls true _ rfl (LaidW.below HG.out HB9.out)).mono ?_
    rintro e w10 ⟨rfl, hb10⟩
    go_wp2
    all_goals go_ret
    all_goals exact ⟨rfl, below_step HB9.out hb10⟩
  · clear HV HrV HX HBB HU HM HJ
    subst e0
    have g1 : ((0 : Int) < (k2 : Int) + 1) = True := eq_true (by omega)
    have g3 : wrap64 (k2 : Int) = (k2 : Int) := IntWalk.wrap64_in _ ⟨by omega, by have := HKK.out; have := HST.out; omega⟩
    have g4 : IntKind.i64.wrap (k2 : Int) = (k2 : Int) := by have := HKK.out; have := HST.out; exact IntWalk.i64_in _ (by omega)
    have p1 : ((0 : Int) ≤ (k2 : Int)) = True := eq_true (by omega)
    have p2 : ((k2 : Int) < (s.size : Int)) = True := eq_true (by have := HKK.out; omega)
    have p2' : (k2 < s.size) = True := eq_true (by have := HKK.out; omega)
    have hxb := bt_at s (k2 : Int)
    rw [Int.toNat_natCast] at hxb
    have b1 : (bt s (k2 : Int) == 10) = true := beq_iff_eq.2 hc
    have b3 : (bt s (k2 : Int) != 10) = false := by simp [bne, b1]
    go_wp2_with fail
    refine (liverylaw30_head.calls true _ rfl (LaidW.below HG.out HB9.out)).mono ?_
    rintro e w10 ⟨rfl, hb10⟩
    go_wp2
    all_goals go_ret
    all_goals exact ⟨rfl, below_step HB9.out hb10⟩
  · clear HV HrV HX HBB HU HM HJ
    subst e0 e5
    have g1 : ((0 : Int) < (k2 : Int) + 1) = True := eq_true (by omega)
    have g3 : wrap64 (k2 : Int) = (k2 : Int) := IntWalk.wrap64_in _ ⟨by omega, by have := HKK.out; have := HST.out; omega⟩
    have g4 : IntKind.i64.wrap (k2 : Int) = (k2 : Int) := by have := HKK.out; have := HST.out; exact IntWalk.i64_in _ (by omega)
    have p1 : ((0 : Int) ≤ (k2 : Int)) = True := eq_true (by omega)
    have p2 : ((k2 : Int) < (s.size : Int)) = True := eq_true (by have := HKK.out; omega)
    have p2' : (k2 < s.size) = True := eq_true (by have := HKK.out; omega)
    have hxb := bt_at s (k2 : Int)
    rw [Int.toNat_natCast] at hxb
    have b1 : (bt s (k2 : Int) == 10) = false := beq_eq_false_iff_ne.2 hc
    have b3 : (bt s (k2 : Int) != 10) = true := by simp [bne, b1]
    go_wp2_with fail
    refine (liverylaw30_head.calls true _ rfl (LaidW.below HG.out HB9.out)).mono ?_
    rintro e w10 ⟨rfl, hb10⟩
    go_wp2
    all_goals go_ret
    all_goals exact ⟨rfl, below_step HB9.out hb10⟩
set_option maxRecDepth 100000 in
set_option maxHeartbeats 1000000 in
theorem cuts_nil (la lb : List S32) (A B : Option Addr) (m ca cb : Nat) (at_ : Int) (w : World) (hG : LaidW w) (hn : Aside0 (la.length = 0)) (hm : Aside0 (lb.length = m)) (h2 : m ≤ 60) (hA : Kd.C k32 w A 0 la) (hB : Kd.C k32 w B m lb) (hbc : m ≤ cb)
    (K : Nat) (s t : ByteArray) (hs : event_Lines.f K la = some (s, 0)) (ht : event_Lines.f K lb = some (t, 0)) (hst : s.size + t.size ≤ 100000) (hz : s.size = 0) (hr : event_Read.f K (s ++ t) = some (la ++ lb, 0)) :
    Calls Tryd.prog 6 #[.slice A 0 ca, .slice B m cb, .int .u16 at_] w fun e w' => e = .returned (.bool true) ∧ Below w.heap.size w w' := by
  have HA := Aside0.mk (show Kd.C k32 w A la.length la by rw [hn.out]; exact hA)
  have HBr := Aside0.mk (show Kd.C k32 w B lb.length lb by rw [hm.out]; exact hB)
  have HAc := Aside0.mk (show la.length ≤ ca by rw [hn.out]; exact Nat.zero_le _)
  have HBc := Aside0.mk (show lb.length ≤ cb by rw [hm.out]; exact hbc)
  have HG := Aside0.mk hG
  have Hs := Aside0.mk hs
  have Ht := Aside0.mk ht
  have Hr := Aside0.mk hr
  have d3 : decide ((60 : Int) < (m : Int)) = false := decide_eq_false (by omega)
  have d4 : decide (60 < m) = false := decide_eq_false (by omega)
  clear hA hB hbc hG hs ht hr
  have HK2 := Aside0.mk h2
  have HST := Aside0.mk hst
  have HZ := Aside0.mk hz
  clear h2 hst hz
  go_enter Tryd.func6, Tryd.ntmps6
  go_wp2_with fail
  refine (show Calls Tryd.prog 8 #[.slice A 0 ca] _ _ by rw [← hn.out]; exact event_Lines.calls K A ca la s 0 _ HA.out HAc.out Hs.out HG.out).mono ?_
  rintro e w1 ⟨rfl, hb1⟩
  have HB1 := Aside0.mk hb1
  clear hb1
  go_wp2_with fail
  refine (show Calls Tryd.prog 8 #[.slice B m cb] _ _ by rw [← hm.out]; exact event_Lines.calls K B cb lb t 0 _ (Kd.C_below HBr.out HB1.out) HBc.out Ht.out (LaidW.below HG.out HB1.out)).mono ?_
  rintro e w2 ⟨rfl, hb2⟩
  have HB2 := Aside0.mk (below_step HB1.out hb2)
  clear hb2
  have z1 : (9223372036854775807 < s.size + t.size) = False := eq_false (by have := HST.out; omega)
  have z2 : (9223372036854775807 < (s ++ t).size) = False := eq_false (by have := HST.out; rw [ByteArray.size_append]; omega)
  go_wp2_with fail
  refine (event_Read.calls K (s ++ t) (la ++ lb) 0 _ Hr.out (LaidW.below HG.out HB2.out)).mono ?_
  rintro e w3 ⟨v3, rfl, hR3, hb3⟩
  obtain ⟨A3, c3, rfl, hl3, hC3⟩ := Kd.R_reads hR3
  have HB3 := Aside0.mk (below_step HB2.out hb3)
  have HC3 := Aside0.mk hC3
  have HL3 := Aside0.mk hl3
  clear hb3 hC3 hR3 hl3
  have HGA := Aside0.mk (Kd.C_below HA.out HB3.out)
  have HGB := Aside0.mk (Kd.C_below HBr.out HB3.out)
  go_wp2
  go_region
  go_wp2_with (first
    | ((with_reducible refine gate_builtin (b := .append) (xs := #[.tmp 78, .tmp 79]) rfl ?_); (try (refine gate_guard (by rfl) ?_; dsimp only)); at_builtin; refine Kd.R_append_rows k32 (w0 := w3) w3.heap.size rfl (.tmp 78) (.tmp 79) 22 32 (.agg #[(.int .i64 0), (.int .u8 0), (.int .u32 0), (.int .i64 0)]) 24 rfl Tryd.underlying22 info32 rfl (by decide) (by omega) (.slice (some ⟨w3.heap.size, 0, none⟩) 0 0) [] la _ _ _ (fun _ => True) (fun _ => False) rfl rfl ?aO ?aR (fun _ _ h => h) (fun _ h => h.elim) ?aF ?aB ?aS ?aL ?_; (case aO => exact Kd.R_drew (empty_row w3)); (case aR => rw [← hn.out]; exact Kd.C_below HGA.out (below_drew1 (below_alloc (Below.refl _ _) _))); (case aF => exact fun _ _ => trivial); (case aB => exact below_drew1 (below_alloc (Below.refl _ _) _)); (case aS => exact (below_drew1 (below_alloc (Below.refl _ _) _)).size); (case aL => simp only [List.length_nil]; omega); intro v4 w4 hR4 hb4 hx4 hy4; have HR4 := Aside0.mk hR4; have HB4 := Aside0.mk hb4; clear hR4 hb4 hx4 hy4)
    | ((with_reducible refine gate_builtin (b := .append) (xs := #[.tmp 80, .tmp 81]) rfl ?_); (try (refine gate_guard (by rfl) ?_; dsimp only)); at_builtin; refine Kd.R_append_rows k32 (w0 := w3) w3.heap.size rfl (.tmp 80) (.tmp 81) 22 32 (.agg #[(.int .i64 0), (.int .u8 0), (.int .u32 0), (.int .i64 0)]) 24 rfl Tryd.underlying22 info32 rfl (by decide) (by omega) _ la lb _ _ _ (fun _ => True) (fun _ => False) rfl rfl ?aO ?aR (fun _ _ h => h) (fun _ h => h.elim) ?aF ?aB ?aS ?aL ?_; (case aO => exact HR4.out); (case aR => rw [← hm.out]; exact Kd.C_below HGB.out HB4.out); (case aF => exact fun _ _ => trivial); (case aB => exact HB4.out); (case aS => exact HB4.out.size); (case aL => have := HK2.out; have := hn.out; omega); intro v5 w5 hR5 hb5 hx5 hy5; obtain ⟨A5, c5, rfl, hl5, hC5⟩ := Kd.R_reads hR5; have HC5 := Aside0.mk hC5; have HL5 := Aside0.mk hl5; have HB5 := Aside0.mk hb5; clear hR5 hC5 hl5 hb5 hx5 hy5)
    | fail)
  have hlen : (la ++ lb).length ≤ 120 := by have := HK2.out; have := hn.out; have := hm.out; simp; omega
  refine (show Calls Tryd.prog 15 #[.slice A3 (la.length + lb.length) c3, .slice A5 (la.length + lb.length) c5] w5 (fun e w' => e = .returned (.bool true) ∧ Drawn0 w5 w') by rw [← List.length_append]; exact liveryref30_Same.calls 1000 A3 c3 (la ++ lb) A5 c5 (la ++ lb) true _ (Kd.C_below HC3.out HB5.out) HL3.out HC5.out HL5.out (same_self _ (by omega) _ (by omega))).mono ?_
  rintro e w6 ⟨rfl, ⟨nd, rfl⟩⟩
  have HB6 := Aside0.mk (pw_below_drewN (below_step HB3.out HB5.out) nd)
  have HN5 := Aside0.mk (show w.heap.size ≤ w5.heap.size from Nat.le_trans HB3.out.size HB5.out.size)
  have q0 : ((s.size : Int) == 0) = true := beq_iff_eq.2 (by have := HZ.out; omega)
  have q0' : ((s.size : Int) = 0) = True := eq_true (by have := HZ.out; omega)
  have q0'' : (s.size = 0) = True := eq_true HZ.out
  go_wp2_with fail
  refine (liverylaw30_head.calls true _ rfl (LaidW.below HG.out HB6.out)).mono ?_
  rintro e w10 ⟨rfl, hb10⟩
  go_wp2
  all_goals go_ret
  all_goals exact ⟨rfl, below_step HB6.out hb10⟩
end Go.Proofs.YtnohbjgmldjbmaaDoor.P
