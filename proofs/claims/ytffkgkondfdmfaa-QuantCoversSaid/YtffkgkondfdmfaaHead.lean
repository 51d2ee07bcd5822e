import Derived.Test.YtffkgkondfdmfaaRef
set_option linter.unusedVariables false
set_option linter.unusedSimpArgs false
namespace Go.Proofs.Ytffkgkondfdmfaa
open Go.RowKit

theorem slice_of_blk {w : World} {g : Nat} {cs : Array Value} {t : TypeId} {fr : Nat × Nat} (h : w.heap[g]? = some (.cells cs t fr)) : SliceAt w (some ⟨g, 0, none⟩) cs.toList :=
  fun _ => ⟨_, rfl, fun j u hu => by rw [add_plain, blk_cell h]; simpa using hu⟩

def F0 : List Sg := [⟨2, 3, 1⟩, ⟨7, 1, 5⟩, ⟨8, 0, 0⟩]
def G0 : List Sg := [⟨0, 3, 1⟩, ⟨5, 3, 5⟩, ⟨10, 0, 0⟩]
theorem q5 : quantS F0 5 = (G0, 0) := by decide +kernel
theorem q0 : quantS F0 0 = ([], 2) := by decide +kernel
theorem b5 : binsS F0 5 3 3 = ([(9, 3), (7, 7), (0, 0)], 0) := by decide +kernel
theorem d1 : downS 7 5 = (5, 0) := by decide +kernel
theorem d2 : downS (-1) 5 = (-5, 0) := by decide +kernel
theorem d3 : downS 1125899906842624 3 = (1125899906842623, 0) := by decide +kernel
theorem u1 : upS 7 5 = (10, 0) := by decide +kernel
theorem u2 : upS 10 5 = (10, 0) := by decide +kernel
theorem u3 : upS (-1) 5 = (0, 0) := by decide +kernel

set_option maxHeartbeats 4000000 in
set_option maxRecDepth 100000 in
theorem head_any (w : World) : Calls Try.prog 11 #[] w fun e w' => e = .returned (.bool true) ∧ Pure w w' := by
  have hs1 := fun W => lseg_any 2 3 1 W
  have hs2 := fun W => lseg_any 7 1 5 W
  have hs3 := fun W => lseg_any 8 0 0 W
  go_enter Try.func11, Try.ntmps11
  go_wp2_with fail
  refine (hs1 _).mono ?_
  rintro e w1 ⟨rfl, hK1⟩
  go_wp2_with fail
  refine (hs2 _).mono ?_
  rintro e w2 ⟨rfl, hK2⟩
  go_wp2_with fail
  refine (hs3 _).mono ?_
  rintro e w3 ⟨rfl, hK3⟩
  have hP3 := (hK1.trans hK2).trans hK3
  clear hK1 hK2 hK3 hs1 hs2 hs3
  have hF := blk_new w3 (.cells #[.int .i64 2, .int .i64 3, .int .i64 1, .int .i64 7, .int .i64 1, .int .i64 5, .int .i64 8, .int .i64 0, .int .i64 0] 42)
  have hSF : SliceAt (w3.alloc (.cells #[.int .i64 2, .int .i64 3, .int .i64 1, .int .i64 7, .int .i64 1, .int .i64 5, .int .i64 8, .int .i64 0, .int .i64 0] 42)) (some ⟨w3.heap.size, 0, none⟩) (segCells F0) := slice_of_blk hF
  have hP4 := hP3.alloc (.cells #[.int .i64 2, .int .i64 3, .int .i64 1, .int .i64 7, .int .i64 1, .int .i64 5, .int .i64 8, .int .i64 0, .int .i64 0] 42)
  have c1 := fun W => down_any 7 5 W
  have c2 := fun W => down_any (-1) 5 W
  have c3 := fun W => up_any 7 5 W
  have c4 := fun W => up_any 10 5 W
  have c5 := fun W => up_any (-1) 5 W
  have c9 := fun W => down_any 1125899906842624 3 W
  rw [d1] at c1; rw [d2] at c2; rw [u1] at c3; rw [u2] at c4; rw [u3] at c5; rw [d3] at c9
  go_wp2_with fail
  refine (c1 _).mono ?_
  rintro e w4 ⟨rfl, hK4⟩
  clear hF
  generalize (w3.alloc (.cells #[.int .i64 2, .int .i64 3, .int .i64 1, .int .i64 7, .int .i64 1, .int .i64 5, .int .i64 8, .int .i64 0, .int .i64 0] 42)) = W0 at hK4 hSF hP4
  generalize w3.heap.size = B0 at *
  go_wp2_with fail
  refine (c2 _).mono ?_
  rintro e w5 ⟨rfl, hK5⟩
  go_wp2_with fail
  refine (c3 _).mono ?_
  rintro e w6 ⟨rfl, hK6⟩
  go_wp2_with fail
  refine (c4 _).mono ?_
  rintro e w7 ⟨rfl, hK7⟩
  go_wp2_with fail
  refine (c5 _).mono ?_
  rintro e w8 ⟨rfl, hK8⟩
  have hKa := (((hK4.trans hK5).trans hK6).trans hK7).trans hK8
  clear c1 c2 c3 c4 c5 hK4 hK5 hK6 hK7 hK8
  have e1 := quant_any F0 (some ⟨B0, 0, none⟩) 3 3 5 w8 (Lib.hid rfl) (by decide) (hSF.pure hKa)
  rw [q5] at e1
  go_wp2_with fail
  refine e1.mono ?_
  rintro e w9 ⟨⟨v1, rfl, ho1⟩, hKb⟩
  clear e1
  have e2 := bins_any F0 (some ⟨B0, 0, none⟩) 3 3 5 3 3 w9 (Lib.hid rfl) (by decide) (hSF.pure (hKa.trans hKb))
  rw [b5] at e2
  go_wp2_with fail
  refine e2.mono ?_
  rintro e wA ⟨⟨v2, rfl, ho2⟩, hKc⟩
  clear e2
  have ho1 := own_kept ho1 hKc (fun _ _ h => h)
  have hKc := hKb.trans hKc
  have e3 := quant_any F0 (some ⟨B0, 0, none⟩) 3 3 0 wA (Lib.hid rfl) (by decide) (hSF.pure (hKa.trans hKc))
  rw [q0] at e3
  go_wp2_with fail
  refine e3.mono ?_
  rintro e wB ⟨⟨v3, rfl, _⟩, hKd⟩
  clear e3
  have ho1 := own_kept ho1 hKd (fun _ _ h => h)
  have ho2 := own_kept ho2 hKd (fun _ _ h => h)
  go_wp2_with fail
  refine (c9 _).mono ?_
  rintro e wC ⟨rfl, hKe⟩
  have ho1 := own_kept ho1 hKe (fun _ _ h => h)
  have ho2 := own_kept ho2 hKe (fun _ _ h => h)
  have hP := ((hP4.trans hKa).trans hKc).trans (hKd.trans hKe)
  clear c9 hSF hP4 hKa hKb hKc hKd hKe
  obtain ⟨A1, x1, rfl, hS1, hA1⟩ := own_slice (n := 3) ho1
  obtain ⟨A2, x2, rfl, hS2, hA2⟩ := own_slice (n := 3) ho2
  obtain ⟨⟨b2, o2, s2⟩, rfl, hC2⟩ := hS2 (by decide)
  obtain ⟨rfl, rfl, _⟩ := hA2 _ rfl
  have k0 := hC2 0 _ rfl
  have k1 := hC2 1 _ rfl
  have k2 := hC2 2 _ rfl
  have k3 := hC2 3 _ rfl
  have k4 := hC2 4 _ rfl
  have k5 := hC2 5 _ rfl
  rw [add_plain] at k0 k1 k2 k3 k4 k5
  clear ho1 ho2 hC2 hA2 hA1
  have hs1 := fun W => lseg_any 0 3 1 W
  have hs2 := fun W => lseg_any 5 3 5 W
  have hs3 := fun W => lseg_any 10 0 0 W
  go_wp2_with fail
  refine (hs1 _).mono ?_
  rintro e y1 ⟨rfl, hK1⟩
  go_wp2_with fail
  refine (hs2 _).mono ?_
  rintro e y2 ⟨rfl, hK2⟩
  go_wp2_with fail
  refine (hs3 _).mono ?_
  rintro e y3 ⟨rfl, hK3⟩
  have hQ3 := (hK1.trans hK2).trans hK3
  clear hK1 hK2 hK3 hs1 hs2 hs3
  have hG := blk_new y3 (.cells #[.int .i64 0, .int .i64 3, .int .i64 1, .int .i64 5, .int .i64 3, .int .i64 5, .int .i64 10, .int .i64 0, .int .i64 0] 42)
  have hSG : SliceAt (y3.alloc (.cells #[.int .i64 0, .int .i64 3, .int .i64 1, .int .i64 5, .int .i64 3, .int .i64 5, .int .i64 10, .int .i64 0, .int .i64 0] 42)) (some ⟨y3.heap.size, 0, none⟩) (segCells G0) := slice_of_blk hG
  have hQ4 := hQ3.alloc (.cells #[.int .i64 0, .int .i64 3, .int .i64 1, .int .i64 5, .int .i64 3, .int .i64 5, .int .i64 10, .int .i64 0, .int .i64 0] 42)
  have hsm := same_any A1 (some ⟨y3.heap.size, 0, none⟩) x1 3 G0 G0 3 3 _ (Lib.hid rfl) (Lib.hid rfl) (by decide) (hS1.pure hQ4) hSG
  go_wp2_with fail
  refine hsm.mono ?_
  rintro e y4 ⟨⟨b, rfl, hb⟩, hK4⟩
  obtain rfl : b = true := hb.2 trivial
  have hR := hQ4.trans hK4
  have k0 := hR.cell k0 id
  have k1 := hR.cell k1 id
  have k2 := hR.cell k2 id
  have k3 := hR.cell k3 id
  have k4 := hR.cell k4 id
  have k5 := hR.cell k5 id
  clear hsm hb hSG hG hS1
  go_wp2
  go_ret
  exact ⟨rfl, hP.trans hR⟩
end Go.Proofs.Ytffkgkondfdmfaa
