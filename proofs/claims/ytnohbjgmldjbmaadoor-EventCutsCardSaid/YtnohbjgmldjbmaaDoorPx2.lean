/- Functions with the same answers as the Go code, and the walks that show it. Printed by xprint.py. -/
import Derived.Test.YtnohbjgmldjbmaaDoorPx0
namespace Go.Proofs.YtnohbjgmldjbmaaDoor.P
open Go.RowKit Go.Proofs.YtnohbjgmldjbmaaDoorW.PrintWords Go.Proofs.YtnohbjgmldjbmaaDoorW.PrintLast Go.Proofs.YtnohbjgmldjbmaaDoorW.PrintMore
attribute [local go_sem] max2_int min2_int max_two min_two max_three min_three max_four min_four   -- for this text's walks alone
set_option linter.unusedVariables false
set_option linter.unusedSimpArgs false

/-! ### event_known: function 26 -/
def event_known.f  : Option (List ByteArray) := some (([(⟨#[97, 99, 99, 101, 112, 116]⟩ : ByteArray), (⟨#[117, 112, 100, 97, 116, 101]⟩ : ByteArray), (⟨#[100, 101, 108, 101, 116, 101]⟩ : ByteArray), (⟨#[114, 101, 118, 111, 107, 101]⟩ : ByteArray), (⟨#[100, 111, 110, 101]⟩ : ByteArray), (⟨#[103, 114, 97, 110, 116]⟩ : ByteArray), (⟨#[114, 101, 108, 101, 97, 115, 101]⟩ : ByteArray), (⟨#[108, 111, 115, 116]⟩ : ByteArray), (⟨#[113, 117, 101, 117, 101]⟩ : ByteArray), (⟨#[115, 116, 97, 114, 116]⟩ : ByteArray), (⟨#[112, 114, 101, 101, 109, 112, 116]⟩ : ByteArray), (⟨#[102, 105, 110, 105, 115, 104]⟩ : ByteArray), (⟨#[106, 111, 105, 110]⟩ : ByteArray), (⟨#[108, 111, 115, 101]⟩ : ByteArray), (⟨#[116, 105, 99, 107]⟩ : ByteArray)] : List ByteArray))
set_option maxHeartbeats 8000000 in
set_option maxRecDepth 100000 in
theorem event_known.calls  (r : List ByteArray) (w : World) (h : event_known.f  = some r) :
    Calls Tryd.prog 26 #[] w fun e w' => ∃ v0_ : Value, e = .returned (v0_) ∧ Kd.R Kd.string 9 w' w.heap.size (fun _ => True) v0_ r ∧ Below w.heap.size w w' := by
  have HB := Aside0.mk (Below.refl w.heap.size w)
  have H : (some (([(⟨#[97, 99, 99, 101, 112, 116]⟩ : ByteArray), (⟨#[117, 112, 100, 97, 116, 101]⟩ : ByteArray), (⟨#[100, 101, 108, 101, 116, 101]⟩ : ByteArray), (⟨#[114, 101, 118, 111, 107, 101]⟩ : ByteArray), (⟨#[100, 111, 110, 101]⟩ : ByteArray), (⟨#[103, 114, 97, 110, 116]⟩ : ByteArray), (⟨#[114, 101, 108, 101, 97, 115, 101]⟩ : ByteArray), (⟨#[108, 111, 115, 116]⟩ : ByteArray), (⟨#[113, 117, 101, 117, 101]⟩ : ByteArray), (⟨#[115, 116, 97, 114, 116]⟩ : ByteArray), (⟨#[112, 114, 101, 101, 109, 112, 116]⟩ : ByteArray), (⟨#[102, 105, 110, 105, 115, 104]⟩ : ByteArray), (⟨#[106, 111, 105, 110]⟩ : ByteArray), (⟨#[108, 111, 115, 101]⟩ : ByteArray), (⟨#[116, 105, 99, 107]⟩ : ByteArray)] : List ByteArray))) = some r := h
  clear h
  obtain ⟨y101, hy101⟩ : ∃ y_ : List ByteArray, y_ = (([(⟨#[97, 99, 99, 101, 112, 116]⟩ : ByteArray), (⟨#[117, 112, 100, 97, 116, 101]⟩ : ByteArray), (⟨#[100, 101, 108, 101, 116, 101]⟩ : ByteArray), (⟨#[114, 101, 118, 111, 107, 101]⟩ : ByteArray), (⟨#[100, 111, 110, 101]⟩ : ByteArray), (⟨#[103, 114, 97, 110, 116]⟩ : ByteArray), (⟨#[114, 101, 108, 101, 97, 115, 101]⟩ : ByteArray), (⟨#[108, 111, 115, 116]⟩ : ByteArray), (⟨#[113, 117, 101, 117, 101]⟩ : ByteArray), (⟨#[115, 116, 97, 114, 116]⟩ : ByteArray), (⟨#[112, 114, 101, 101, 109, 112, 116]⟩ : ByteArray), (⟨#[102, 105, 110, 105, 115, 104]⟩ : ByteArray), (⟨#[106, 111, 105, 110]⟩ : ByteArray), (⟨#[108, 111, 115, 101]⟩ : ByteArray), (⟨#[116, 105, 99, 107]⟩ : ByteArray)] : List ByteArray)) := ⟨_, rfl⟩
  replace H : (some y101) = some r := by first | (rw [hy101]; with_reducible exact H) | (have H2_ := (Option.bind_some _ _).symm.trans H; rw [hy101]; with_reducible exact H2_) | (have H2_ := (Option.bind_some _ _).symm.trans H; with_reducible exact H2_) | with_reducible exact H | (rw [hy101]; exact H) | exact H
  have Ny101 := Aside0.mk hy101
  clear hy101
  obtain rfl := Option.some.inj H
  go_enter Tryd.func26, Tryd.ntmps26
  go_wp2_with (first | ((with_reducible refine gate_dst (N := 1) rfl ?_); refine Kd.R_lit Kd.string _ 9 ?hg (N := 1) ?hd (xs := ([(⟨#[97, 99, 99, 101, 112, 116]⟩ : ByteArray), (⟨#[117, 112, 100, 97, 116, 101]⟩ : ByteArray), (⟨#[100, 101, 108, 101, 116, 101]⟩ : ByteArray), (⟨#[114, 101, 118, 111, 107, 101]⟩ : ByteArray), (⟨#[100, 111, 110, 101]⟩ : ByteArray), (⟨#[103, 114, 97, 110, 116]⟩ : ByteArray), (⟨#[114, 101, 108, 101, 97, 115, 101]⟩ : ByteArray), (⟨#[108, 111, 115, 116]⟩ : ByteArray), (⟨#[113, 117, 101, 117, 101]⟩ : ByteArray), (⟨#[115, 116, 97, 114, 116]⟩ : ByteArray), (⟨#[112, 114, 101, 101, 109, 112, 116]⟩ : ByteArray), (⟨#[102, 105, 110, 105, 115, 104]⟩ : ByteArray), (⟨#[106, 111, 105, 110]⟩ : ByteArray), (⟨#[108, 111, 115, 101]⟩ : ByteArray), (⟨#[116, 105, 99, 107]⟩ : ByteArray)] : List ByteArray)) (inner := [.string (⟨#[97, 99, 99, 101, 112, 116]⟩ : ByteArray), .string (⟨#[117, 112, 100, 97, 116, 101]⟩ : ByteArray), .string (⟨#[100, 101, 108, 101, 116, 101]⟩ : ByteArray), .string (⟨#[114, 101, 118, 111, 107, 101]⟩ : ByteArray), .string (⟨#[100, 111, 110, 101]⟩ : ByteArray), .string (⟨#[103, 114, 97, 110, 116]⟩ : ByteArray), .string (⟨#[114, 101, 108, 101, 97, 115, 101]⟩ : ByteArray), .string (⟨#[108, 111, 115, 116]⟩ : ByteArray), .string (⟨#[113, 117, 101, 117, 101]⟩ : ByteArray), .string (⟨#[115, 116, 97, 114, 116]⟩ : ByteArray), .string (⟨#[112, 114, 101, 101, 109, 112, 116]⟩ : ByteArray), .string (⟨#[102, 105, 110, 105, 115, 104]⟩ : ByteArray), .string (⟨#[106, 111, 105, 110]⟩ : ByteArray), .string (⟨#[108, 111, 115, 101]⟩ : ByteArray), .string (⟨#[116, 105, 99, 107]⟩ : ByteArray)]) (ok := fun _ => True) (okp := fun _ => True) ?hr ?hp (fun _ hk => hk) trivial (Below.refl _ _) (Nat.le_refl _) (by simp) ?_; (case hd => rfl); (case hg => rfl); (case hr => first | (go_simp; done) | (go_simp; rfl)); (case hp => exact (Reps.one (show Kd.M Kd.string _ _ _ (⟨#[97, 99, 99, 101, 112, 116]⟩ : ByteArray) [.string (⟨#[97, 99, 99, 101, 112, 116]⟩ : ByteArray)] from rfl) (Reps.one (show Kd.M Kd.string _ _ _ (⟨#[117, 112, 100, 97, 116, 101]⟩ : ByteArray) [.string (⟨#[117, 112, 100, 97, 116, 101]⟩ : ByteArray)] from rfl) (Reps.one (show Kd.M Kd.string _ _ _ (⟨#[100, 101, 108, 101, 116, 101]⟩ : ByteArray) [.string (⟨#[100, 101, 108, 101, 116, 101]⟩ : ByteArray)] from rfl) (Reps.one (show Kd.M Kd.string _ _ _ (⟨#[114, 101, 118, 111, 107, 101]⟩ : ByteArray) [.string (⟨#[114, 101, 118, 111, 107, 101]⟩ : ByteArray)] from rfl) (Reps.one (show Kd.M Kd.string _ _ _ (⟨#[100, 111, 110, 101]⟩ : ByteArray) [.string (⟨#[100, 111, 110, 101]⟩ : ByteArray)] from rfl) (Reps.one (show Kd.M Kd.string _ _ _ (⟨#[103, 114, 97, 110, 116]⟩ : ByteArray) [.string (⟨#[103, 114, 97, 110, 116]⟩ : ByteArray)] from rfl) (Reps.one (show Kd.M Kd.string _ _ _ (⟨#[114, 101, 108, 101, 97, 115, 101]⟩ : ByteArray) [.string (⟨#[114, 101, 108, 101, 97, 115, 101]⟩ : ByteArray)] from rfl) (Reps.one (show Kd.M Kd.string _ _ _ (⟨#[108, 111, 115, 116]⟩ : ByteArray) [.string (⟨#[108, 111, 115, 116]⟩ : ByteArray)] from rfl) (Reps.one (show Kd.M Kd.string _ _ _ (⟨#[113, 117, 101, 117, 101]⟩ : ByteArray) [.string (⟨#[113, 117, 101, 117, 101]⟩ : ByteArray)] from rfl) (Reps.one (show Kd.M Kd.string _ _ _ (⟨#[115, 116, 97, 114, 116]⟩ : ByteArray) [.string (⟨#[115, 116, 97, 114, 116]⟩ : ByteArray)] from rfl) (Reps.one (show Kd.M Kd.string _ _ _ (⟨#[112, 114, 101, 101, 109, 112, 116]⟩ : ByteArray) [.string (⟨#[112, 114, 101, 101, 109, 112, 116]⟩ : ByteArray)] from rfl) (Reps.one (show Kd.M Kd.string _ _ _ (⟨#[102, 105, 110, 105, 115, 104]⟩ : ByteArray) [.string (⟨#[102, 105, 110, 105, 115, 104]⟩ : ByteArray)] from rfl) (Reps.one (show Kd.M Kd.string _ _ _ (⟨#[106, 111, 105, 110]⟩ : ByteArray) [.string (⟨#[106, 111, 105, 110]⟩ : ByteArray)] from rfl) (Reps.one (show Kd.M Kd.string _ _ _ (⟨#[108, 111, 115, 101]⟩ : ByteArray) [.string (⟨#[108, 111, 115, 101]⟩ : ByteArray)] from rfl) (Reps.one (show Kd.M Kd.string _ _ _ (⟨#[116, 105, 99, 107]⟩ : ByteArray) [.string (⟨#[116, 105, 99, 107]⟩ : ByteArray)] from rfl) (Reps.none _ _))))))))))))))))); intro v102 w1 ho2 hb hg_ hnew_; clear hg_ hnew_; (first | rw [← Ny101.out] at ho2 | (simp only [Int.reduceToNat] at ho2; rw [← Ny101.out] at ho2)); have n0_ := Aside0.mk (Kd.R_lower ho2 (below_size (by repeat (first | (with_reducible first | exact HB.out | apply below_alloc | apply pw_below_drewN | apply below_drew1) | exact HB.out)))); have n1_ := Aside0.mk (below_step (by repeat (first | (with_reducible first | exact HB.out | apply below_alloc | apply pw_below_drewN | apply below_drew1) | exact HB.out)) hb); clear HB; have HO103 := n0_; have HB := n1_; clear n0_ n1_; clear hb ho2))
  go_ret
  exact ⟨_, by first | rfl | (simp [errW_none, errW_some] <;> rfl) | (simp [*, errW_none, errW_some] <;> rfl), by (with_reducible repeat (first | apply Kd.R_alloc | apply Kd.R_drewN | apply Kd.R_drew)); exact HO103.out, by repeat (first | (with_reducible first | exact HB.out | apply below_alloc | apply pw_below_drewN | apply below_drew1) | exact HB.out)⟩

/-! ### event_Word: function 12 -/
def event_Word.f (a0 : Int) : Option (ByteArray) := (event_known.f).bind fun t104 => (if (wrap64 (a0)) ≥ (t104.length : Int) then (some (⟨#[]⟩ : ByteArray)) else ((event_known.f).bind fun t107 => (if 0 ≤ a0 then (if a0 < (t107.length : Int) then (some (rdOf ByteArray.empty t107 a0)) else (none)) else (none))))
set_option maxHeartbeats 8000000 in
set_option maxRecDepth 100000 in
theorem event_Word.calls (a0 : Int) (r : ByteArray) (w : World) (h : event_Word.f a0 = some r) :
    Calls Tryd.prog 12 #[.int .u8 a0] w fun e w' => e = .returned (.string r) ∧ Below w.heap.size w w' := by
  have HB := Aside0.mk (Below.refl w.heap.size w)
  have H : ((event_known.f).bind fun t104 => (if (wrap64 (a0)) ≥ (t104.length : Int) then (some (⟨#[]⟩ : ByteArray)) else ((event_known.f).bind fun t107 => (if 0 ≤ a0 then (if a0 < (t107.length : Int) then (some (rdOf ByteArray.empty t107 a0)) else (none)) else (none))))) = some r := h
  clear h
  replace H := Option.bind_eq_some_iff.mp H
  obtain ⟨t104, A20, H⟩ := H
  replace H : (if (wrap64 (a0)) ≥ (t104.length : Int) then (some (⟨#[]⟩ : ByteArray)) else ((event_known.f).bind fun t107 => (if 0 ≤ a0 then (if a0 < (t107.length : Int) then (some (rdOf ByteArray.empty t107 a0)) else (none)) else (none)))) = some r := H
  have A2 := Aside0.mk A20
  clear A20
  by_cases c3 : (wrap64 (a0)) ≥ (t104.length : Int)
  · rw [if_pos c3] at H
    have c3b0 : decide ((t104.length : Int) ≤ (wrap64 (a0))) = true := decide_eq_true c3
    clear c3
    obtain rfl := Option.some.inj H
    go_enter Tryd.func12, Tryd.ntmps12
    go_wp2_with (first | ((with_reducible refine gate_callee (f := 26) rfl ?_); refine goesL_ (some 5) rfl rfl Tryd.func26 (by kernel_rfl) rfl #[] rfl (by (try simp only [List.map_toArray, List.map_cons, List.map_nil]); first | done | rfl | (simp only [List.length_drop, List.length_take]; rfl)) ?_; (with_reducible refine (event_known.calls  t104 _ A2.out).mono ?_); rintro e w4 ⟨v105, rfl, ho0, hb⟩; refine ⟨_, rfl, ?_⟩; have n0_ := Aside0.mk (Kd.R_lower ho0 (below_size (by repeat (first | (with_reducible first | exact HB.out | apply below_alloc | apply pw_below_drewN | apply below_drew1) | exact HB.out)))); have n1_ := Aside0.mk (below_step (by repeat (first | (with_reducible first | exact HB.out | apply below_alloc | apply pw_below_drewN | apply below_drew1) | exact HB.out)) hb); clear HB; have HO106 := n0_; have HB := n1_; clear n0_ n1_; (try clear hb); (try clear hb2); (try clear hk); (try clear hi); (try clear ho0); obtain ⟨Ao5, co5, eo5⟩ := Kd.R_slice HO106.out; subst eo5))
    go_ret
    exact ⟨by first | rfl | (simp [errW_none, errW_some] <;> rfl) | (simp [*, errW_none, errW_some] <;> rfl), by repeat (first | (with_reducible first | exact HB.out | apply below_alloc | apply pw_below_drewN | apply below_drew1) | exact HB.out)⟩
  · rw [if_neg c3] at H
    have c3b0 : decide ((t104.length : Int) ≤ (wrap64 (a0))) = false := decide_eq_false c3
    clear c3
    replace H := Option.bind_eq_some_iff.mp H
    obtain ⟨t107, A60, H⟩ := H
    replace H : (if 0 ≤ a0 then (if a0 < (t107.length : Int) then (some (rdOf ByteArray.empty t107 a0)) else (none)) else (none)) = some r := H
    have A6 := Aside0.mk A60
    clear A60
    by_cases c7 : 0 ≤ a0
    · rw [if_pos c7] at H
      have c7b0 : decide (0 ≤ a0) = true := decide_eq_true c7
      clear c7
      by_cases c8 : a0 < (t107.length : Int)
      · rw [if_pos c8] at H
        have c8b0 : decide (a0 < (t107.length : Int)) = true := decide_eq_true c8
        clear c8
        obtain rfl := Option.some.inj H
        go_enter Tryd.func12, Tryd.ntmps12
        go_wp2_with (first | ((with_reducible refine gate_callee (f := 26) rfl ?_); refine goesL_ (some 5) rfl rfl Tryd.func26 (by kernel_rfl) rfl #[] rfl (by (try simp only [List.map_toArray, List.map_cons, List.map_nil]); first | done | rfl | (simp only [List.length_drop, List.length_take]; rfl)) ?_; (with_reducible refine (event_known.calls  t104 _ A2.out).mono ?_); rintro e w9 ⟨v105, rfl, ho0, hb⟩; refine ⟨_, rfl, ?_⟩; have n0_ := Aside0.mk (Kd.R_lower ho0 (below_size (by repeat (first | (with_reducible first | exact HB.out | apply below_alloc | apply pw_below_drewN | apply below_drew1) | exact HB.out)))); have n1_ := Aside0.mk (below_step (by repeat (first | (with_reducible first | exact HB.out | apply below_alloc | apply pw_below_drewN | apply below_drew1) | exact HB.out)) hb); clear HB; have HO106 := n0_; have HB := n1_; clear n0_ n1_; (try clear hb); (try clear hb2); (try clear hk); (try clear hi); (try clear ho0); obtain ⟨Ao10, co10, eo10⟩ := Kd.R_slice HO106.out; subst eo10) | ((with_reducible refine gate_callee (f := 26) rfl ?_); refine goesL_ (some 8) rfl rfl Tryd.func26 (by kernel_rfl) rfl #[] rfl (by (try simp only [List.map_toArray, List.map_cons, List.map_nil]); first | done | rfl | (simp only [List.length_drop, List.length_take]; rfl)) ?_; (with_reducible refine (event_known.calls  t107 _ A6.out).mono ?_); rintro e w11 ⟨v108, rfl, ho0, hb⟩; refine ⟨_, rfl, ?_⟩; have n0_ := Aside0.mk (Kd.R_elder' (by (with_reducible repeat (first | apply Kd.R_alloc | apply Kd.R_drewN | apply Kd.R_drew)); exact HO106.out) (Kd.R_base ho0) hb); have n1_ := Aside0.mk (Kd.R_lower (Kd.R_new' ho0 (Kd.R_lt (by (with_reducible repeat (first | apply Kd.R_alloc | apply Kd.R_drewN | apply Kd.R_drew)); exact HO106.out))) (below_size (by repeat (first | (with_reducible first | exact HB.out | apply below_alloc | apply pw_below_drewN | apply below_drew1) | exact HB.out)))); have n2_ := Aside0.mk (below_step (by repeat (first | (with_reducible first | exact HB.out | apply below_alloc | apply pw_below_drewN | apply below_drew1) | exact HB.out)) hb); clear HO106; clear HB; have HO106 := n0_; have HO109 := n1_; have HB := n2_; clear n0_ n1_ n2_; (try clear hb); (try clear hb2); (try clear hk); (try clear hi); (try clear ho0); obtain ⟨Ao12, co12, eo12⟩ := Kd.R_slice HO109.out; subst eo12; have p110 : 0 ≤ (a0 : Int) := of_decide_eq_true (by first | (with_reducible assumption) | assumption); have q110 : a0 < (t107.length : Int) := of_decide_eq_true (by first | (with_reducible assumption) | assumption); obtain ⟨ad110, e110, hx110_0⟩ := Kd.at_string (Kd.R_reads' HO109.out).2.2 a0 p110 q110; cases e110; replace p110 := eq_true p110; replace q110 := eq_true q110))
        go_ret
        exact ⟨by first | rfl | (simp [errW_none, errW_some] <;> rfl) | (simp [*, errW_none, errW_some] <;> rfl), by repeat (first | (with_reducible first | exact HB.out | apply below_alloc | apply pw_below_drewN | apply below_drew1) | exact HB.out)⟩
      · rw [if_neg c8] at H
        exact absurd H (by simp)
    · rw [if_neg c7] at H
      exact absurd H (by simp)

/-! ### event_in: function 25 (by hand) -/
-- EXT rounds=0 laid=0
def inT (a : Int) : Bool := decide (0 ≤ a) && decide (a ≤ 1099511627776)
def event_in.f (l0 : List Int) : Option Bool := match l0 with
  | [a, b] => some (inT a && inT b)
  | _ => none
theorem ret_bool {a b : Bool} (h : a = b) : Ending.returned (.bool a) = .returned (.bool b) := by rw [h]
theorem min_two_any (ad : Addr) (c : Nat) (a b : Int) (w : World) (h0 : w.cell? ad = some (.int .i64 a)) (h1 : w.cell? ⟨ad.block, ad.off + 1, none⟩ = some (.int .i64 b)) :
    Calls Tryd.prog 39 #[.slice (some ad) 2 c] w fun e w' => e = .returned (.int .i64 (min a b)) ∧ w' = w := by
  by_cases hab : b < a
  · have e : min a b = b := by omega
    rw [e]
    clear e
    go_enter Tryd.func39, Tryd.ntmps39
    go_wp2
    refine wp_loop_rounds 2 ?_
    rw [rounds_succ]
    go_wp2
    rw [rounds_succ]
    go_wp2
    go_ret
    exact ⟨rfl, rfl⟩
  · have e : min a b = a := by omega
    rw [e]
    clear e
    go_enter Tryd.func39, Tryd.ntmps39
    go_wp2
    refine wp_loop_rounds 2 ?_
    rw [rounds_succ]
    go_wp2
    rw [rounds_succ]
    go_wp2
    go_ret
    exact ⟨rfl, rfl⟩
theorem max_two_any (ad : Addr) (c : Nat) (a b : Int) (w : World) (h0 : w.cell? ad = some (.int .i64 a)) (h1 : w.cell? ⟨ad.block, ad.off + 1, none⟩ = some (.int .i64 b)) :
    Calls Tryd.prog 40 #[.slice (some ad) 2 c] w fun e w' => e = .returned (.int .i64 (max a b)) ∧ w' = w := by
  by_cases hab : a < b
  · have e : max a b = b := by omega
    rw [e]
    clear e
    go_enter Tryd.func40, Tryd.ntmps40
    go_wp2
    refine wp_loop_rounds 2 ?_
    rw [rounds_succ]
    go_wp2
    rw [rounds_succ]
    go_wp2
    go_ret
    exact ⟨rfl, rfl⟩
  · have e : max a b = a := by omega
    rw [e]
    clear e
    go_enter Tryd.func40, Tryd.ntmps40
    go_wp2
    refine wp_loop_rounds 2 ?_
    rw [rounds_succ]
    go_wp2
    rw [rounds_succ]
    go_wp2
    go_ret
    exact ⟨rfl, rfl⟩
theorem event_in.calls (A0 : Option Addr) (c0 : Nat) (l0 : List Int) (r : Bool) (w : World) (hr0 : Kd.C (Kd.int .i64) w A0 l0.length l0) (hc0 : l0.length ≤ c0) (h : event_in.f l0 = some r) :
    Calls Tryd.prog 25 #[.slice A0 l0.length c0] w fun e w' => e = .returned (.bool r) ∧ Below w.heap.size w w' := by
  match l0, h, hr0, hc0 with
  | [a, b], h, hr0, hc0 =>
    obtain rfl := Option.some.inj h
    obtain ⟨ad, rfl, hc⟩ := hr0.2.2 (by simp)
    obtain ⟨c1, _, e1, g1⟩ := hc 0 a rfl
    obtain ⟨c2, _, e2, g2⟩ := hc 1 b rfl
    have e1 : c1 = [.int .i64 a] := e1
    have e2 : c2 = [.int .i64 b] := e2
    subst e1 e2
    have k1 := g1 0 _ rfl
    have k2 := g2 0 _ rfl
    have k1 : w.cell? ad = some (.int .i64 a) := by simpa [Addr.add] using k1
    have k2 : w.cell? ⟨ad.block, ad.off + 1, none⟩ = some (.int .i64 b) := k2
    have hmi := min_two_any ad c0 a b w k1 k2
    have hma := max_two_any ad c0 a b w k1 k2
    unfold inT
    by_cases h0 : 0 ≤ min a b
    · go_enter Tryd.func25, Tryd.ntmps25
      go_wp2_with fail
      refine hmi.mono ?_
      rintro e w1 ⟨rfl, rfl⟩
      go_wp2_with fail
      refine hma.mono ?_
      rintro e w1 ⟨rfl, rfl⟩
      go_wp2
      go_ret
      exact ⟨ret_bool (by simp only [← Bool.decide_and]; rw [decide_eq_decide]; omega), Below.refl _ _⟩
    · go_enter Tryd.func25, Tryd.ntmps25
      go_wp2_with fail
      refine hmi.mono ?_
      rintro e w1 ⟨rfl, rfl⟩
      go_wp2
      go_ret
      exact ⟨ret_bool (by simp only [← Bool.decide_and]; symm; rw [decide_eq_false_iff_not]; omega), Below.refl _ _⟩


/-! ### event_May: function 10 -/
def event_May.f (a0_0 : Int) (a0_1 : Int) (a0_2 : Int) (a0_3 : Int) : Option (Bool) := (event_in.f (([a0_0, a0_3] : List Int))).bind fun t115 => (if t115 = true then ((event_Word.f a0_1).bind fun t116 => (if t116.toList = ([] : List UInt8) then (some false) else (some ((a0_2 == 0) == (a0_1 == 14))))) else (some false))
set_option maxHeartbeats 8000000 in
set_option maxRecDepth 100000 in
theorem event_May.calls (a0_0 : Int) (a0_1 : Int) (a0_2 : Int) (a0_3 : Int) (r : Bool) (w : World) (h : event_May.f a0_0 a0_1 a0_2 a0_3 = some r) :
    Calls Tryd.prog 10 #[.agg #[.int .i64 a0_0, .int .u8 a0_1, .int .u32 a0_2, .int .i64 a0_3]] w fun e w' => e = .returned (.bool r) ∧ Below w.heap.size w w' := by
  have hu32 := Tryd.underlying32
  have HB := Aside0.mk (Below.refl w.heap.size w)
  have H : ((event_in.f (([a0_0, a0_3] : List Int))).bind fun t115 => (if t115 = true then ((event_Word.f a0_1).bind fun t116 => (if t116.toList = ([] : List UInt8) then (some false) else (some ((a0_2 == 0) == (a0_1 == 14))))) else (some false))) = some r := h
  clear h
  obtain ⟨y112, hy112⟩ : ∃ y_ : List Int, y_ = (([a0_0, a0_3] : List Int)) := ⟨_, rfl⟩
  replace H : ((event_in.f y112).bind fun t115 => (if t115 = true then ((event_Word.f a0_1).bind fun t116 => (if t116.toList = ([] : List UInt8) then (some false) else (some ((a0_2 == 0) == (a0_1 == 14))))) else (some false))) = some r := by first | (rw [hy112]; with_reducible exact H) | (have H2_ := (Option.bind_some _ _).symm.trans H; rw [hy112]; with_reducible exact H2_) | (have H2_ := (Option.bind_some _ _).symm.trans H; with_reducible exact H2_) | with_reducible exact H | (rw [hy112]; exact H) | exact H
  have Ny112 := Aside0.mk hy112
  clear hy112
  replace H := Option.bind_eq_some_iff.mp H
  obtain ⟨t115, A20, H⟩ := H
  replace H : (if t115 = true then ((event_Word.f a0_1).bind fun t116 => (if t116.toList = ([] : List UInt8) then (some false) else (some ((a0_2 == 0) == (a0_1 == 14))))) else (some false)) = some r := H
  have A2 := Aside0.mk A20
  clear A20
  by_cases c3 : t115 = true
  · subst c3
    have H1 : ((event_Word.f a0_1).bind fun t116 => (if t116.toList = ([] : List UInt8) then (some false) else (some ((a0_2 == 0) == (a0_1 == 14))))) = some r := by rw [if_pos rfl] at H; exact H
    clear H
    have H := H1
    clear H1
    replace H := Option.bind_eq_some_iff.mp H
    obtain ⟨t116, A40, H⟩ := H
    replace H : (if t116.toList = ([] : List UInt8) then (some false) else (some ((a0_2 == 0) == (a0_1 == 14)))) = some r := H
    have A4 := Aside0.mk A40
    clear A40
    by_cases c5 : t116.toList = ([] : List UInt8)
    · rw [if_pos c5] at H
      have c5b0 : (t116.toList == ([] : List UInt8)) = true := beq_iff_eq.mpr c5
      have c5b1 : (t116.toList != ([] : List UInt8)) = false := bne_eq_false_iff_eq.mpr c5
      clear c5
      obtain rfl := Option.some.inj H
      go_enter Tryd.func10, Tryd.ntmps10
      go_wp2_with (first | ((with_reducible refine gate_dst (N := 1) rfl ?_); refine box_event ?hg (N := 1) ?hd (cs := #[.int .i64 a0_0, .int .u8 a0_1, .int .u32 a0_2, .int .i64 a0_3]) (t := 32) ?hr ?_; (case hd => rfl); (case hg => rfl); (case hr => first | (go_simp; done) | (go_simp; rfl)); intro gb111 hg w6 hbox hb; have n0_ := Aside0.mk (below_step (by repeat (first | (with_reducible first | exact HB.out | apply below_alloc | apply pw_below_drewN | apply below_drew1) | exact HB.out)) hb); have n1_ := Aside0.mk (hbox); have n2_ := Aside0.mk ((by rw [hg]; exact (below_size (by repeat (first | (with_reducible first | exact HB.out | apply below_alloc | apply pw_below_drewN | apply below_drew1) | exact HB.out))) : w.heap.size ≤ gb111)); have n3_ := Aside0.mk ((by rw [hg]; exact (below_size (by repeat (first | (with_reducible first | exact HB.out | apply below_alloc | apply pw_below_drewN | apply below_drew1) | exact HB.out))) : w.heap.size ≤ gb111)); clear HB; have HB := n0_; have BK111 := n1_; have GW111 := n2_; have GE111 := n3_; clear n0_ n1_ n2_ n3_; clear hb hbox hg; have hcz7_0 : w6.cell? ⟨gb111, 0, none⟩ = some (.int .i64 a0_0) := (blk_cell BK111.out 0).trans rfl; have hcz7_1 : w6.cell? ⟨gb111, 1, none⟩ = some (.int .u8 a0_1) := (blk_cell BK111.out 1).trans rfl; have hcz7_2 : w6.cell? ⟨gb111, 2, none⟩ = some (.int .u32 a0_2) := (blk_cell BK111.out 2).trans rfl; have hcz7_3 : w6.cell? ⟨gb111, 3, none⟩ = some (.int .i64 a0_3) := (blk_cell BK111.out 3).trans rfl; have hfz7_0 := blk_frozen BK111.out 0; have hfz7_1 := blk_frozen BK111.out 1; have hfz7_2 := blk_frozen BK111.out 2; have hfz7_3 := blk_frozen BK111.out 3) | ((with_reducible refine gate_dst (N := 7) rfl ?_); refine Kd.R_lit (Kd.int .i64) _ 2 ?hg (N := 7) ?hd (xs := ([a0_0, a0_3] : List Int)) (inner := [.int .i64 a0_0, .int .i64 a0_3]) (ok := fun _ => True) (okp := fun _ => True) ?hr ?hp (fun _ hk => hk) trivial (Below.refl _ _) (Nat.le_refl _) (by simp) ?_; (case hd => rfl); (case hg => rfl); (case hr => first | (go_simp; done) | (go_simp; rfl)); (case hp => exact (Reps.one (show Kd.M (Kd.int .i64) _ _ _ a0_0 [.int .i64 a0_0] from rfl) (Reps.one (show Kd.M (Kd.int .i64) _ _ _ a0_3 [.int .i64 a0_3] from rfl) (Reps.none _ _)))); intro v113 w8 ho9 hb hg_ hnew_; clear hg_ hnew_; (first | rw [← Ny112.out] at ho9 | (simp only [Int.reduceToNat] at ho9; rw [← Ny112.out] at ho9)); have n0_ := Aside0.mk (Kd.R_lower ho9 (below_size (by repeat (first | (with_reducible first | exact HB.out | apply below_alloc | apply pw_below_drewN | apply below_drew1 | refine below_set ?_ GE111.out) | exact HB.out)))); have n1_ := Aside0.mk (blk_below (g := gb111) (o := .cells #[.int .i64 a0_0, .int .u8 a0_1, .int .u32 a0_2, .int .i64 a0_3] 32 (0, 0)) (by (with_reducible repeat (first | refine blk_drewN ?_ _ | refine blk_drew ?_ | refine blk_alloc ?_ _)); exact BK111.out) hb); have n2_ := Aside0.mk (below_step (by repeat (first | (with_reducible first | exact HB.out | apply below_alloc | apply pw_below_drewN | apply below_drew1 | refine below_set ?_ GE111.out) | exact HB.out)) hb); clear BK111; clear HB; have HO114 := n0_; have BK111 := n1_; have HB := n2_; clear n0_ n1_ n2_; clear hb ho9; obtain ⟨Ao10, co10, eo10⟩ := Kd.R_slice HO114.out; subst eo10) | ((with_reducible refine gate_callee (f := 25) rfl ?_); refine goesL_ (some 8) rfl rfl Tryd.func25 (by kernel_rfl) rfl #[.slice Ao10 y112.length co10] rfl (by (try simp only [List.map_toArray, List.map_cons, List.map_nil]); first | done | rfl | (simp only [List.length_drop, List.length_take]; rfl)) ?_; (with_reducible refine (event_in.calls _ _ y112 true _ ?side1 ?side2 A2.out).mono ?_); (case side1 => repeat (first | exact (Kd.R_reads' HO114.out).2.2 | (with_reducible refine Kd.C_alloc ?_ _) | (with_reducible refine Kd.C_drewN ?_ _) | (with_reducible refine Kd.C_drew ?_))); (case side2 => exact (Kd.R_reads' HO114.out).2.1); rintro e w11 ⟨rfl, hb⟩; refine ⟨_, rfl, ?_⟩; have n0_ := Aside0.mk (Kd.R_below (by (with_reducible repeat (first | apply Kd.R_alloc | apply Kd.R_drewN | apply Kd.R_drew)); exact HO114.out) hb); have n1_ := Aside0.mk (blk_below (g := gb111) (o := .cells #[.int .i64 a0_0, .int .u8 a0_1, .int .u32 a0_2, .int .i64 a0_3] 32 (0, 0)) (by (with_reducible repeat (first | refine blk_drewN ?_ _ | refine blk_drew ?_ | refine blk_alloc ?_ _)); exact BK111.out) hb); have n2_ := Aside0.mk (below_step (by repeat (first | (with_reducible first | exact HB.out | apply below_alloc | apply pw_below_drewN | apply below_drew1 | refine below_set ?_ GE111.out) | exact HB.out)) hb); clear HO114; clear BK111; clear HB; have HO114 := n0_; have BK111 := n1_; have HB := n2_; clear n0_ n1_ n2_; (try clear hb); (try clear hb2); (try clear hk); (try clear hi); have hcz12_0 : w11.cell? ⟨gb111, 0, none⟩ = some (.int .i64 a0_0) := (blk_cell BK111.out 0).trans rfl; have hcz12_1 : w11.cell? ⟨gb111, 1, none⟩ = some (.int .u8 a0_1) := (blk_cell BK111.out 1).trans rfl; have hcz12_2 : w11.cell? ⟨gb111, 2, none⟩ = some (.int .u32 a0_2) := (blk_cell BK111.out 2).trans rfl; have hcz12_3 : w11.cell? ⟨gb111, 3, none⟩ = some (.int .i64 a0_3) := (blk_cell BK111.out 3).trans rfl; have hfz12_0 := blk_frozen BK111.out 0; have hfz12_1 := blk_frozen BK111.out 1; have hfz12_2 := blk_frozen BK111.out 2; have hfz12_3 := blk_frozen BK111.out 3) | (go_at_call 12; (with_reducible refine (event_Word.calls a0_1 t116 _ A4.out).mono ?_); rintro e w13 ⟨rfl, hb⟩; have n0_ := Aside0.mk (Kd.R_below (by (with_reducible repeat (first | apply Kd.R_alloc | apply Kd.R_drewN | apply Kd.R_drew)); exact HO114.out) hb); have n1_ := Aside0.mk (blk_below (g := gb111) (o := .cells #[.int .i64 a0_0, .int .u8 a0_1, .int .u32 a0_2, .int .i64 a0_3] 32 (0, 0)) (by (with_reducible repeat (first | refine blk_drewN ?_ _ | refine blk_drew ?_ | refine blk_alloc ?_ _)); exact BK111.out) hb); have n2_ := Aside0.mk (below_step (by repeat (first | (with_reducible first | exact HB.out | apply below_alloc | apply pw_below_drewN | apply below_drew1 | refine below_set ?_ GE111.out) | exact HB.out)) hb); clear HO114; clear BK111; clear HB; have HO114 := n0_; have BK111 := n1_; have HB := n2_; clear n0_ n1_ n2_; (try clear hb); (try clear hb2); (try clear hk); (try clear hi)))
      go_ret
      exact ⟨by first | rfl | (simp [errW_none, errW_some] <;> rfl) | (simp [*, errW_none, errW_some] <;> rfl), by repeat (first | (with_reducible first | exact HB.out | apply below_alloc | apply pw_below_drewN | apply below_drew1 | refine below_set ?_ GE111.out) | exact HB.out)⟩
    · rw [if_neg c5] at H
      have c5b0 : (t116.toList == ([] : List UInt8)) = false := beq_eq_false_iff_ne.mpr c5
      have c5b1 : (t116.toList != ([] : List UInt8)) = true := bne_iff_ne.mpr c5
      obtain rfl := Option.some.inj H
      go_enter Tryd.func10, Tryd.ntmps10
      go_wp2_with (first | ((with_reducible refine gate_dst (N := 1) rfl ?_); refine box_event ?hg (N := 1) ?hd (cs := #[.int .i64 a0_0, .int .u8 a0_1, .int .u32 a0_2, .int .i64 a0_3]) (t := 32) ?hr ?_; (case hd => rfl); (case hg => rfl); (case hr => first | (go_simp; done) | (go_simp; rfl)); intro gb111 hg w14 hbox hb; have n0_ := Aside0.mk (below_step (by repeat (first | (with_reducible first | exact HB.out | apply below_alloc | apply pw_below_drewN | apply below_drew1) | exact HB.out)) hb); have n1_ := Aside0.mk (hbox); have n2_ := Aside0.mk ((by rw [hg]; exact (below_size (by repeat (first | (with_reducible first | exact HB.out | apply below_alloc | apply pw_below_drewN | apply below_drew1) | exact HB.out))) : w.heap.size ≤ gb111)); have n3_ := Aside0.mk ((by rw [hg]; exact (below_size (by repeat (first | (with_reducible first | exact HB.out | apply below_alloc | apply pw_below_drewN | apply below_drew1) | exact HB.out))) : w.heap.size ≤ gb111)); clear HB; have HB := n0_; have BK111 := n1_; have GW111 := n2_; have GE111 := n3_; clear n0_ n1_ n2_ n3_; clear hb hbox hg; have hcz15_0 : w14.cell? ⟨gb111, 0, none⟩ = some (.int .i64 a0_0) := (blk_cell BK111.out 0).trans rfl; have hcz15_1 : w14.cell? ⟨gb111, 1, none⟩ = some (.int .u8 a0_1) := (blk_cell BK111.out 1).trans rfl; have hcz15_2 : w14.cell? ⟨gb111, 2, none⟩ = some (.int .u32 a0_2) := (blk_cell BK111.out 2).trans rfl; have hcz15_3 : w14.cell? ⟨gb111, 3, none⟩ = some (.int .i64 a0_3) := (blk_cell BK111.out 3).trans rfl; have hfz15_0 := blk_frozen BK111.out 0; have hfz15_1 := blk_frozen BK111.out 1; have hfz15_2 := blk_frozen BK111.out 2; have hfz15_3 := blk_frozen BK111.out 3) | ((with_reducible refine gate_dst (N := 7) rfl ?_); refine Kd.R_lit (Kd.int .i64) _ 2 ?hg (N := 7) ?hd (xs := ([a0_0, a0_3] : List Int)) (inner := [.int .i64 a0_0, .int .i64 a0_3]) (ok := fun _ => True) (okp := fun _ => True) ?hr ?hp (fun _ hk => hk) trivial (Below.refl _ _) (Nat.le_refl _) (by simp) ?_; (case hd => rfl); (case hg => rfl); (case hr => first | (go_simp; done) | (go_simp; rfl)); (case hp => exact (Reps.one (show Kd.M (Kd.int .i64) _ _ _ a0_0 [.int .i64 a0_0] from rfl) (Reps.one (show Kd.M (Kd.int .i64) _ _ _ a0_3 [.int .i64 a0_3] from rfl) (Reps.none _ _)))); intro v113 w16 ho17 hb hg_ hnew_; clear hg_ hnew_; (first | rw [← Ny112.out] at ho17 | (simp only [Int.reduceToNat] at ho17; rw [← Ny112.out] at ho17)); have n0_ := Aside0.mk (Kd.R_lower ho17 (below_size (by repeat (first | (with_reducible first | exact HB.out | apply below_alloc | apply pw_below_drewN | apply below_drew1 | refine below_set ?_ GE111.out) | exact HB.out)))); have n1_ := Aside0.mk (blk_below (g := gb111) (o := .cells #[.int .i64 a0_0, .int .u8 a0_1, .int .u32 a0_2, .int .i64 a0_3] 32 (0, 0)) (by (with_reducible repeat (first | refine blk_drewN ?_ _ | refine blk_drew ?_ | refine blk_alloc ?_ _)); exact BK111.out) hb); have n2_ := Aside0.mk (below_step (by repeat (first | (with_reducible first | exact HB.out | apply below_alloc | apply pw_below_drewN | apply below_drew1 | refine below_set ?_ GE111.out) | exact HB.out)) hb); clear BK111; clear HB; have HO114 := n0_; have BK111 := n1_; have HB := n2_; clear n0_ n1_ n2_; clear hb ho17; obtain ⟨Ao18, co18, eo18⟩ := Kd.R_slice HO114.out; subst eo18) | ((with_reducible refine gate_callee (f := 25) rfl ?_); refine goesL_ (some 8) rfl rfl Tryd.func25 (by kernel_rfl) rfl #[.slice Ao18 y112.length co18] rfl (by (try simp only [List.map_toArray, List.map_cons, List.map_nil]); first | done | rfl | (simp only [List.length_drop, List.length_take]; rfl)) ?_; (with_reducible refine (event_in.calls _ _ y112 true _ ?side1 ?side2 A2.out).mono ?_); (case side1 => repeat (first | exact (Kd.R_reads' HO114.out).2.2 | (with_reducible refine Kd.C_alloc ?_ _) | (with_reducible refine Kd.C_drewN ?_ _) | (with_reducible refine Kd.C_drew ?_))); (case side2 => exact (Kd.R_reads' HO114.out).2.1); rintro e w19 ⟨rfl, hb⟩; refine ⟨_, rfl, ?_⟩; have n0_ := Aside0.mk (Kd.R_below (by (with_reducible repeat (first | apply Kd.R_alloc | apply Kd.R_drewN | apply Kd.R_drew)); exact HO114.out) hb); have n1_ := Aside0.mk (blk_below (g := gb111) (o := .cells #[.int .i64 a0_0, .int .u8 a0_1, .int .u32 a0_2, .int .i64 a0_3] 32 (0, 0)) (by (with_reducible repeat (first | refine blk_drewN ?_ _ | refine blk_drew ?_ | refine blk_alloc ?_ _)); exact BK111.out) hb); have n2_ := Aside0.mk (below_step (by repeat (first | (with_reducible first | exact HB.out | apply below_alloc | apply pw_below_drewN | apply below_drew1 | refine below_set ?_ GE111.out) | exact HB.out)) hb); clear HO114; clear BK111; clear HB; have HO114 := n0_; have BK111 := n1_; have HB := n2_; clear n0_ n1_ n2_; (try clear hb); (try clear hb2); (try clear hk); (try clear hi); have hcz20_0 : w19.cell? ⟨gb111, 0, none⟩ = some (.int .i64 a0_0) := (blk_cell BK111.out 0).trans rfl; have hcz20_1 : w19.cell? ⟨gb111, 1, none⟩ = some (.int .u8 a0_1) := (blk_cell BK111.out 1).trans rfl; have hcz20_2 : w19.cell? ⟨gb111, 2, none⟩ = some (.int .u32 a0_2) := (blk_cell BK111.out 2).trans rfl; have hcz20_3 : w19.cell? ⟨gb111, 3, none⟩ = some (.int .i64 a0_3) := (blk_cell BK111.out 3).trans rfl; have hfz20_0 := blk_frozen BK111.out 0; have hfz20_1 := blk_frozen BK111.out 1; have hfz20_2 := blk_frozen BK111.out 2; have hfz20_3 := blk_frozen BK111.out 3) | (go_at_call 12; (with_reducible refine (event_Word.calls a0_1 t116 _ A4.out).mono ?_); rintro e w21 ⟨rfl, hb⟩; have n0_ := Aside0.mk (Kd.R_below (by (with_reducible repeat (first | apply Kd.R_alloc | apply Kd.R_drewN | apply Kd.R_drew)); exact HO114.out) hb); have n1_ := Aside0.mk (blk_below (g := gb111) (o := .cells #[.int .i64 a0_0, .int .u8 a0_1, .int .u32 a0_2, .int .i64 a0_3] 32 (0, 0)) (by (with_reducible repeat (first | refine blk_drewN ?_ _ | refine blk_drew ?_ | refine blk_alloc ?_ _)); exact BK111.out) hb); have n2_ := Aside0.mk (below_step (by repeat (first | (with_reducible first | exact HB.out | apply below_alloc | apply pw_below_drewN | apply below_drew1 | refine below_set ?_ GE111.out) | exact HB.out)) hb); clear HO114; clear BK111; clear HB; have HO114 := n0_; have BK111 := n1_; have HB := n2_; clear n0_ n1_ n2_; (try clear hb); (try clear hb2); (try clear hk); (try clear hi); have hcz22_0 : w21.cell? ⟨gb111, 0, none⟩ = some (.int .i64 a0_0) := (blk_cell BK111.out 0).trans rfl; have hcz22_1 : w21.cell? ⟨gb111, 1, none⟩ = some (.int .u8 a0_1) := (blk_cell BK111.out 1).trans rfl; have hcz22_2 : w21.cell? ⟨gb111, 2, none⟩ = some (.int .u32 a0_2) := (blk_cell BK111.out 2).trans rfl; have hcz22_3 : w21.cell? ⟨gb111, 3, none⟩ = some (.int .i64 a0_3) := (blk_cell BK111.out 3).trans rfl; have hfz22_0 := blk_frozen BK111.out 0; have hfz22_1 := blk_frozen BK111.out 1; have hfz22_2 := blk_frozen BK111.out 2; have hfz22_3 := blk_frozen BK111.out 3))
      go_ret
      exact ⟨by first | rfl | (simp [errW_none, errW_some] <;> rfl) | (simp [*, errW_none, errW_some] <;> rfl), by repeat (first | (with_reducible first | exact HB.out | apply below_alloc | apply pw_below_drewN | apply below_drew1 | refine below_set ?_ GE111.out) | exact HB.out)⟩
  · replace c3 := Bool.eq_false_iff.mpr c3
    subst c3
    have H1 : (some false) = some r := by rw [if_neg (show ¬ (false = true) by decide)] at H; exact H
    clear H
    have H := H1
    clear H1
    obtain rfl := Option.some.inj H
    go_enter Tryd.func10, Tryd.ntmps10
    go_wp2_with (first | ((with_reducible refine gate_dst (N := 1) rfl ?_); refine box_event ?hg (N := 1) ?hd (cs := #[.int .i64 a0_0, .int .u8 a0_1, .int .u32 a0_2, .int .i64 a0_3]) (t := 32) ?hr ?_; (case hd => rfl); (case hg => rfl); (case hr => first | (go_simp; done) | (go_simp; rfl)); intro gb111 hg w23 hbox hb; have n0_ := Aside0.mk (below_step (by repeat (first | (with_reducible first | exact HB.out | apply below_alloc | apply pw_below_drewN | apply below_drew1) | exact HB.out)) hb); have n1_ := Aside0.mk (hbox); have n2_ := Aside0.mk ((by rw [hg]; exact (below_size (by repeat (first | (with_reducible first | exact HB.out | apply below_alloc | apply pw_below_drewN | apply below_drew1) | exact HB.out))) : w.heap.size ≤ gb111)); have n3_ := Aside0.mk ((by rw [hg]; exact (below_size (by repeat (first | (with_reducible first | exact HB.out | apply below_alloc | apply pw_below_drewN | apply below_drew1) | exact HB.out))) : w.heap.size ≤ gb111)); clear HB; have HB := n0_; have BK111 := n1_; have GW111 := n2_; have GE111 := n3_; clear n0_ n1_ n2_ n3_; clear hb hbox hg; have hcz24_0 : w23.cell? ⟨gb111, 0, none⟩ = some (.int .i64 a0_0) := (blk_cell BK111.out 0).trans rfl; have hcz24_1 : w23.cell? ⟨gb111, 1, none⟩ = some (.int .u8 a0_1) := (blk_cell BK111.out 1).trans rfl; have hcz24_2 : w23.cell? ⟨gb111, 2, none⟩ = some (.int .u32 a0_2) := (blk_cell BK111.out 2).trans rfl; have hcz24_3 : w23.cell? ⟨gb111, 3, none⟩ = some (.int .i64 a0_3) := (blk_cell BK111.out 3).trans rfl; have hfz24_0 := blk_frozen BK111.out 0; have hfz24_1 := blk_frozen BK111.out 1; have hfz24_2 := blk_frozen BK111.out 2; have hfz24_3 := blk_frozen BK111.out 3) | ((with_reducible refine gate_dst (N := 7) rfl ?_); refine Kd.R_lit (Kd.int .i64) _ 2 ?hg (N := 7) ?hd (xs := ([a0_0, a0_3] : List Int)) (inner := [.int .i64 a0_0, .int .i64 a0_3]) (ok := fun _ => True) (okp := fun _ => True) ?hr ?hp (fun _ hk => hk) trivial (Below.refl _ _) (Nat.le_refl _) (by simp) ?_; (case hd => rfl); (case hg => rfl); (case hr => first | (go_simp; done) | (go_simp; rfl)); (case hp => exact (Reps.one (show Kd.M (Kd.int .i64) _ _ _ a0_0 [.int .i64 a0_0] from rfl) (Reps.one (show Kd.M (Kd.int .i64) _ _ _ a0_3 [.int .i64 a0_3] from rfl) (Reps.none _ _)))); intro v113 w25 ho26 hb hg_ hnew_; clear hg_ hnew_; (first | rw [← Ny112.out] at ho26 | (simp only [Int.reduceToNat] at ho26; rw [← Ny112.out] at ho26)); have n0_ := Aside0.mk (Kd.R_lower ho26 (below_size (by repeat (first | (with_reducible first | exact HB.out | apply below_alloc | apply pw_below_drewN | apply below_drew1 | refine below_set ?_ GE111.out) | exact HB.out)))); have n1_ := Aside0.mk (blk_below (g := gb111) (o := .cells #[.int .i64 a0_0, .int .u8 a0_1, .int .u32 a0_2, .int .i64 a0_3] 32 (0, 0)) (by (with_reducible repeat (first | refine blk_drewN ?_ _ | refine blk_drew ?_ | refine blk_alloc ?_ _)); exact BK111.out) hb); have n2_ := Aside0.mk (below_step (by repeat (first | (with_reducible first | exact HB.out | apply below_alloc | apply pw_below_drewN | apply below_drew1 | refine below_set ?_ GE111.out) | exact HB.out)) hb); clear BK111; clear HB; have HO114 := n0_; have BK111 := n1_; have HB := n2_; clear n0_ n1_ n2_; clear hb ho26; obtain ⟨Ao27, co27, eo27⟩ := Kd.R_slice HO114.out; subst eo27) | ((with_reducible refine gate_callee (f := 25) rfl ?_); refine goesL_ (some 8) rfl rfl Tryd.func25 (by kernel_rfl) rfl #[.slice Ao27 y112.length co27] rfl (by (try simp only [List.map_toArray, List.map_cons, List.map_nil]); first | done | rfl | (simp only [List.length_drop, List.length_take]; rfl)) ?_; (with_reducible refine (event_in.calls _ _ y112 false _ ?side1 ?side2 A2.out).mono ?_); (case side1 => repeat (first | exact (Kd.R_reads' HO114.out).2.2 | (with_reducible refine Kd.C_alloc ?_ _) | (with_reducible refine Kd.C_drewN ?_ _) | (with_reducible refine Kd.C_drew ?_))); (case side2 => exact (Kd.R_reads' HO114.out).2.1); rintro e w28 ⟨rfl, hb⟩; refine ⟨_, rfl, ?_⟩; have n0_ := Aside0.mk (Kd.R_below (by (with_reducible repeat (first | apply Kd.R_alloc | apply Kd.R_drewN | apply Kd.R_drew)); exact HO114.out) hb); have n1_ := Aside0.mk (blk_below (g := gb111) (o := .cells #[.int .i64 a0_0, .int .u8 a0_1, .int .u32 a0_2, .int .i64 a0_3] 32 (0, 0)) (by (with_reducible repeat (first | refine blk_drewN ?_ _ | refine blk_drew ?_ | refine blk_alloc ?_ _)); exact BK111.out) hb); have n2_ := Aside0.mk (below_step (by repeat (first | (with_reducible first | exact HB.out | apply below_alloc | apply pw_below_drewN | apply below_drew1 | refine below_set ?_ GE111.out) | exact HB.out)) hb); clear HO114; clear BK111; clear HB; have HO114 := n0_; have BK111 := n1_; have HB := n2_; clear n0_ n1_ n2_; (try clear hb); (try clear hb2); (try clear hk); (try clear hi)))
    go_ret
    exact ⟨by first | rfl | (simp [errW_none, errW_some] <;> rfl) | (simp [*, errW_none, errW_some] <;> rfl), by repeat (first | (with_reducible first | exact HB.out | apply below_alloc | apply pw_below_drewN | apply below_drew1 | refine below_set ?_ GE111.out) | exact HB.out)⟩

/-! ### event_log: function 22 (by hand) -/
-- EXT rounds=0 laid=0 deps=livery/event.May
def words : List (List UInt8) := [[97, 99, 99, 101, 112, 116], [117, 112, 100, 97, 116, 101], [100, 101, 108, 101, 116, 101], [114, 101, 118, 111, 107, 101], [100, 111, 110, 101], [103, 114, 97, 110, 116], [114, 101, 108, 101, 97, 115, 101], [108, 111, 115, 116], [113, 117, 101, 117, 101], [115, 116, 97, 114, 116], [112, 114, 101, 101, 109, 112, 116], [102, 105, 110, 105, 115, 104], [106, 111, 105, 110], [108, 111, 115, 101], [116, 105, 99, 107]]
def wordL (k : Int) : List UInt8 := words.getD k.toNat []
/-- Which events may be. -/
def mayS (x : S32) : Bool := inT x.f0 && inT x.f3 && decide (x.f1 ≤ 14) && (decide (x.f2 = 0) == decide (x.f1 = 14))
/-- All may be, and none is earlier than the one ahead of it. -/
def logFrom : Int → List S32 → Bool
  | _, [] => true
  | t, x :: l => mayS x && decide (t ≤ x.f0) && logFrom x.f0 l
def wfS (x : S32) : Bool := decide (0 ≤ x.f1) && decide (x.f1 ≤ 255)
def event_log.f (l0 : List S32) : Option Bool := if l0.length ≤ 1000000 ∧ l0.all wfS = true then some (logFrom 0 l0) else none
theorem known_eq : event_known.f = some (words.map fun l => (⟨l.toArray⟩ : ByteArray)) := rfl
theorem words_len : ((words.map fun l => (⟨l.toArray⟩ : ByteArray)).length : Int) = 15 := rfl
theorem word_eq (b : Int) (h0 : 0 ≤ b) (h1 : b ≤ 14) : event_Word.f b = some ⟨(wordL b).toArray⟩ := by
  have hw : wrap64 b = b := IntWalk.wrap64_in b ⟨by omega, by omega⟩
  have hl : b.toNat < words.length := by have : words.length = 15 := rfl; omega
  unfold event_Word.f
  rw [known_eq, Option.bind_some, Option.bind_some, hw, words_len, if_neg (by omega), if_pos h0, if_pos (by omega)]
  simp [rdOf, wordL, hl]
theorem word_none (b : Int) (h0 : 14 < b) (h1 : b ≤ 255) : event_Word.f b = some ⟨#[]⟩ := by
  have hw : wrap64 b = b := IntWalk.wrap64_in b ⟨by omega, by omega⟩
  unfold event_Word.f
  rw [known_eq, Option.bind_some, hw, words_len, if_pos (by omega)]
theorem wordL_ne (b : Int) (h0 : 0 ≤ b) (h1 : b ≤ 14) : wordL b ≠ [] := by
  have : b = 0 ∨ b = 1 ∨ b = 2 ∨ b = 3 ∨ b = 4 ∨ b = 5 ∨ b = 6 ∨ b = 7 ∨ b = 8 ∨ b = 9 ∨ b = 10 ∨ b = 11 ∨ b = 12 ∨ b = 13 ∨ b = 14 := by omega
  rcases this with rfl | rfl | rfl | rfl | rfl | rfl | rfl | rfl | rfl | rfl | rfl | rfl | rfl | rfl | rfl <;> decide
theorem may_eq (x : S32) (hw : wfS x = true) : event_May.f x.f0 x.f1 x.f2 x.f3 = some (mayS x) := by
  unfold wfS at hw
  rw [Bool.and_eq_true] at hw
  have h0 : 0 ≤ x.f1 := of_decide_eq_true hw.1
  have h1 : x.f1 ≤ 255 := of_decide_eq_true hw.2
  have e1 : (x.f2 == 0) = decide (x.f2 = 0) := rfl
  have e2 : (x.f1 == 14) = decide (x.f1 = 14) := rfl
  unfold event_May.f event_in.f mayS
  rw [Option.bind_some]
  cases hin : (inT x.f0 && inT x.f3) with
  | false => rw [if_neg (by decide), Bool.false_and, Bool.false_and]
  | true =>
    rw [if_pos rfl, Bool.true_and]
    by_cases h : x.f1 ≤ 14
    · rw [word_eq _ h0 h, Option.bind_some, ByteArray.toList_eq, if_neg (by simpa using wordL_ne _ h0 h), decide_eq_true h, Bool.true_and, e1, e2]
    · rw [word_none _ (by omega) h1, Option.bind_some, ByteArray.toList_eq, if_pos rfl, decide_eq_false h, Bool.false_and]

/-! ### the walk -/
def FnCalls (g : Nat) (cap : Array Value) (args : Array Value) (w : World) (R : Ending → World → Prop) : Prop := Calls Tryd.prog g (args ++ cap) w R
def Ent (g : Nat) : Prop := ∀ args w, (callFunc g args).run Tryd.prog w = .ok (.enter g args) w
def evVal (x : S32) : Value := .agg #[.int .i64 x.f0, .int .u8 x.f1, .int .u32 x.f2, .int .i64 x.f3]
theorem ev_at {w : World} {A : Option Addr} {l : List S32} {n : Nat} (h : Kd.C k32 w A n l) (i : Nat) (hi : i < l.length) :
    ∃ ad, A = some ad ∧ w.cell? (ad.add (i * 4)) = some (.int .i64 l[i].f0) ∧ w.cell? ⟨(ad.add (i * 4)).block, (ad.add (i * 4)).off + 1, none⟩ = some (.int .u8 l[i].f1) ∧ w.cell? ⟨(ad.add (i * 4)).block, (ad.add (i * 4)).off + 2, none⟩ = some (.int .u32 l[i].f2) ∧ w.cell? ⟨(ad.add (i * 4)).block, (ad.add (i * 4)).off + 3, none⟩ = some (.int .i64 l[i].f3) := by
  have hr : rd_T32 l i = l[i] := by simp [rd_T32, List.getD_eq_getElem?_getD, hi]
  have := at_T32 h (i : Int) (by omega) (by have := h.1; omega)
  rw [hr] at this
  exact this
def IdxPost (n : Nat) (p : Nat → Bool) (J : Nat → World → Prop) (i : Int) (w' : World) : Prop :=
  (∃ k : Nat, k < n ∧ i = k ∧ p k = true ∧ (∀ j < k, p j = false) ∧ J (k + 1) w') ∨ (i = -1 ∧ (∀ j < n, p j = false) ∧ J n w')
def IdxEnd (n : Nat) (p : Nat → Bool) (J : Nat → World → Prop) (e : Ending) (w' : World) : Prop := ∃ i : Int, e = .returned (.int .i64 i) ∧ IdxPost n p J i w'
theorem idxFunc (g : Nat) (cap : Array Value) (eg : Ent g) (A : Option Addr) (n : Nat) (l : List S32) (w : World) (hn : l.length = n) (hm : n ≤ 9223372036854775807) (c : Nat)
    (p : Nat → Bool) (J : Nat → World → Prop)
    (hS : ∀ k W, J k W → Kd.C k32 W A n l)
    (hc : ∀ k (hk : k < l.length) W, J k W → (∀ j < k, p j = false) → FnCalls g cap #[evVal l[k]] W fun e W' => e = .returned (.bool (p k)) ∧ J (k + 1) W')
    (h0 : J 0 w) :
    Calls Tryd.prog 46 #[.slice A n c, .func (.func g) #[] cap] w (IdxEnd n p J) := by
  go_enter Tryd.func46, Tryd.ntmps46
  go_wp2
  go_loopw [8, 5] (fun i _ wr => ∃ k : Nat, k ≤ n ∧ i = .int .i64 k ∧ (∀ j < k, p j = false) ∧ J k wr) (fun i _ _ => n - (intOf i).toNat)
  case atStart => exact ⟨0, Nat.zero_le _, rfl, by simp, h0⟩
  case round =>
    obtain ⟨k, hk, rfl, hp, hJ⟩ := hrel
    have HP := Lib.hid hp
    clear hp
    by_cases hlt : k < n
    · have hcall := hc k (by omega) wr hJ HP.out
      unfold FnCalls evVal at hcall
      obtain ⟨ad, rfl, h1, h2, h3, h4⟩ := ev_at (hS k wr hJ) k (by omega)
      unfold Ent at eg
      cases hpk : p k with
      | true =>
        have HPK := Lib.hid hpk
        rw [hpk] at hcall
        clear hpk hc
        go_wp2_with fail
        refine hcall.mono ?_
        rintro e w' ⟨rfl, hJ'⟩
        go_wp2
        go_ret
        exact ⟨k, rfl, .inl ⟨k, hlt, rfl, HPK.out, HP.out, hJ'⟩⟩
      | false =>
        have HPK := Lib.hid hpk
        rw [hpk] at hcall
        clear hpk hc
        go_wp2_with fail
        refine hcall.mono ?_
        rintro e w' ⟨rfl, hJ'⟩
        go_wp2
        go_roundw
        case rel =>
          refine ⟨k + 1, by omega, by go_num, fun j hj => ?_, hJ'⟩
          rcases Nat.lt_or_ge j k with h | h
          · exact HP.out j h
          · obtain rfl : j = k := by omega
            exact HPK.out
        case measure => simp [intOf]; omega
    · obtain rfl : k = n := by omega
      go_wp2
      go_ret
      exact ⟨-1, rfl, .inr ⟨rfl, HP.out, hJ⟩⟩
def ContEnd (n : Nat) (p : Nat → Bool) (J : Nat → World → Prop) (e : Ending) (w' : World) : Prop :=
  (e = .returned (.bool true) ∧ ∃ k : Nat, k < n ∧ p k = true ∧ (∀ j < k, p j = false) ∧ J (k + 1) w') ∨ (e = .returned (.bool false) ∧ (∀ j < n, p j = false) ∧ J n w')
theorem contFunc (g : Nat) (cap : Array Value) (eg : Ent g) (A : Option Addr) (n : Nat) (l : List S32) (w : World) (hn : l.length = n) (hm : n ≤ 9223372036854775807) (c : Nat)
    (p : Nat → Bool) (J : Nat → World → Prop)
    (hS : ∀ k W, J k W → Kd.C k32 W A n l)
    (hc : ∀ k (hk : k < l.length) W, J k W → (∀ j < k, p j = false) → FnCalls g cap #[evVal l[k]] W fun e W' => e = .returned (.bool (p k)) ∧ J (k + 1) W')
    (h0 : J 0 w) :
    Calls Tryd.prog 33 #[.slice A n c, .func (.func g) #[] cap] w (ContEnd n p J) := by
  have h := idxFunc g cap eg A n l w hn hm c p J hS hc h0
  clear hc hS
  go_enter Tryd.func33, Tryd.ntmps33
  go_wp2_with fail
  refine h.mono ?_
  rintro e w' ⟨i, rfl, hi⟩
  rcases hi with ⟨k, hk, rfl, hpk, hp, hJ⟩ | ⟨rfl, hp, hJ⟩
  · have HPK := Lib.hid hpk
    have HP := Lib.hid hp
    clear hpk hp
    go_wp2
    go_ret
    exact .inl ⟨rfl, k, hk, HPK.out, HP.out, hJ⟩
  · have HP := Lib.hid hp
    clear hp
    go_wp2
    go_ret
    exact .inr ⟨rfl, HP.out, hJ⟩
/-- The closure: it tells what is odd, and keeps the time. -/
theorem odd_any (x : S32) (B : Nat) (t : Int) (w : World) (hw : wfS x = true) (hB : w.heap[B]? = some (.cells #[.int .i64 t] 2 (0, 0))) :
    FnCalls 34 #[.pointer (some ⟨B, 0, none⟩)] #[evVal x] w fun e w' => e = .returned (.bool (!mayS x || decide (x.f0 < t))) ∧ w'.heap[B]? = some (.cells #[.int .i64 x.f0] 2 (0, 0)) ∧ ∀ n, n ≤ B → n ≤ w.heap.size → Below n w w' := by
  have hm := fun W => event_May.calls x.f0 x.f1 x.f2 x.f3 _ W (may_eq x hw)
  unfold FnCalls evVal
  generalize mayS x = b at hm
  have hlt := blk_lt hB
  have hbx := blk_new w (.cells #[.int .i64 x.f0, .int .u8 x.f1, .int .u32 x.f2, .int .i64 x.f3] 32 (0, 0))
  have hBa := blk_alloc hB (.cells #[.int .i64 x.f0, .int .u8 x.f1, .int .u32 x.f2, .int .i64 x.f3] 32 (0, 0))
  cases b
  · go_enter Tryd.func34, Tryd.ntmps34
    go_wp2_with fail
    refine (hm _).mono ?_
    rintro e w1 ⟨rfl, hK⟩
    have hB1 := blk_below hBa hK
    have hx1 := blk_below hbx hK
    have c1 := (blk_cell hx1 0).trans rfl
    have c2 := (blk_cell hB1 0).trans rfl
    have f2 := blk_frozen hB1 0
    have hz := blk_lt hB1
    have hz2 := blk_lt hx1
    clear hm
    go_wp2
    go_ret
    exact ⟨ret_bool (by simp), blk_put hB1 0 _ rfl, fun n h1 h2 => (below_then ((Below.refl n w).alloc h2 _) (by simp; omega) hK).setCell h1 _⟩
  · by_cases ht : x.f0 < t
    · go_enter Tryd.func34, Tryd.ntmps34
      go_wp2_with fail
      refine (hm _).mono ?_
      rintro e w1 ⟨rfl, hK⟩
      have hB1 := blk_below hBa hK
      have hx1 := blk_below hbx hK
      have c1 := (blk_cell hx1 0).trans rfl
      have c2 := (blk_cell hB1 0).trans rfl
      have f2 := blk_frozen hB1 0
      have hz := blk_lt hB1
      have hz2 := blk_lt hx1
      clear hm
      go_wp2
      go_ret
      exact ⟨ret_bool (by simp [ht]), blk_put hB1 0 _ rfl, fun n h1 h2 => (below_then ((Below.refl n w).alloc h2 _) (by simp; omega) hK).setCell h1 _⟩
    · go_enter Tryd.func34, Tryd.ntmps34
      go_wp2_with fail
      refine (hm _).mono ?_
      rintro e w1 ⟨rfl, hK⟩
      have hB1 := blk_below hBa hK
      have hx1 := blk_below hbx hK
      have c1 := (blk_cell hx1 0).trans rfl
      have c2 := (blk_cell hB1 0).trans rfl
      have f2 := blk_frozen hB1 0
      have hz := blk_lt hB1
      have hz2 := blk_lt hx1
      clear hm
      go_wp2
      go_ret
      exact ⟨ret_bool (by simp), blk_put hB1 0 _ rfl, fun n h1 h2 => (below_then ((Below.refl n w).alloc h2 _) (by simp; omega) hK).setCell h1 _⟩
theorem logFrom_eq : ∀ (l : List S32) (t : Int), logFrom t l = true ↔ ∀ k (h : k < l.length), mayS l[k] = true ∧ (if k = 0 then t else (l.getD (k - 1) z32).f0) ≤ l[k].f0
  | [], t => by simp [logFrom]
  | x :: l, t => by
    rw [logFrom, Bool.and_eq_true, Bool.and_eq_true, logFrom_eq l x.f0, decide_eq_true_iff]
    constructor
    · rintro ⟨⟨h1, h2⟩, h3⟩ k hk
      cases k with
      | zero => exact ⟨h1, by simpa using h2⟩
      | succ k =>
        have := h3 k (by simpa using hk)
        refine ⟨this.1, ?_⟩
        cases k with
        | zero => simpa using this.2
        | succ k => simpa using this.2
    · intro h
      refine ⟨⟨(h 0 (by simp)).1, by have h2 := (h 0 (by simp)).2; rw [if_pos rfl] at h2; exact h2⟩, fun k hk => ?_⟩
      have := h (k + 1) (by simpa using hk)
      refine ⟨this.1, ?_⟩
      cases k with
      | zero => simpa using this.2
      | succ k => simpa using this.2
theorem event_log.calls (A0 : Option Addr) (c0 : Nat) (l0 : List S32) (r : Bool) (w : World) (hr0 : Kd.C k32 w A0 l0.length l0) (hc0 : l0.length ≤ c0) (h : event_log.f l0 = some r) :
    Calls Tryd.prog 22 #[.slice A0 l0.length c0] w fun e w' => e = .returned (.bool r) ∧ Below w.heap.size w w' := by
  unfold event_log.f at h
  split at h
  · rename_i hs
    obtain ⟨hlen, hwf⟩ := hs
    obtain rfl := Option.some.inj h
    obtain ⟨n, hn⟩ : ∃ n, l0.length = n := ⟨_, rfl⟩
    have hnew := blk_new w (.cells #[.int .i64 0] 2 (0, 0))
    have hb0 : Below w.heap.size w (w.alloc (.cells #[.int .i64 0] 2 (0, 0))) := below_alloc (Below.refl _ _) _
    have hcont := contFunc 34 #[.pointer (some ⟨w.heap.size, 0, none⟩)] (fun args w => by kernel_rfl) A0 n l0 (w.alloc (.cells #[.int .i64 0] 2 (0, 0))) hn (by omega) c0
      (fun k => !mayS (l0.getD k z32) || decide ((l0.getD k z32).f0 < if k = 0 then 0 else (l0.getD (k - 1) z32).f0))
      (fun k W => Below w.heap.size w W ∧ W.heap[w.heap.size]? = some (.cells #[.int .i64 (if k = 0 then 0 else (l0.getD (k - 1) z32).f0)] 2 (0, 0)))
      (fun k W hJ => by rw [← hn]; exact Kd.C_below hr0 hJ.1)
      (fun k hk W hJ _ => by
        have hg : l0.getD k z32 = l0[k] := by simp [List.getD_eq_getElem?_getD, hk]
        refine (odd_any l0[k] w.heap.size _ W (List.all_eq_true.1 hwf _ (List.getElem_mem _)) hJ.2).mono ?_
        rintro e W' ⟨he, hB', hbl⟩
        refine ⟨by rw [he, hg], hJ.1.trans (hbl _ (Nat.le_refl _) hJ.1.size), ?_⟩
        rw [if_neg (by omega), Nat.add_sub_cancel, hg]
        exact hB')
      ⟨hb0, hnew⟩
    have key : (∀ j, j < n → (!mayS (l0.getD j z32) || decide ((l0.getD j z32).f0 < if j = 0 then 0 else (l0.getD (j - 1) z32).f0)) = false) ↔ logFrom 0 l0 = true := by
      rw [logFrom_eq]
      subst hn
      constructor
      · intro h k hk
        have := h k hk
        rw [show l0.getD k z32 = l0[k] by simp [List.getD_eq_getElem?_getD, show k < l0.length by omega], Bool.or_eq_false_iff] at this
        exact ⟨by simpa using this.1, by have := of_decide_eq_false this.2; omega⟩
      · intro h k hk
        have := h k hk
        rw [show l0.getD k z32 = l0[k] by simp [List.getD_eq_getElem?_getD, show k < l0.length by omega], Bool.or_eq_false_iff]
        exact ⟨by simp [this.1], decide_eq_false (by omega)⟩
    have KEY := Lib.hid key
    have HN := Lib.hid hn
    rw [hn] at *
    clear key hwf hr0
    go_enter Tryd.func22, Tryd.ntmps22
    go_wp2_with fail
    refine hcont.mono ?_
    rintro e w1 (⟨rfl, k, hk, hp, _, hJ⟩ | ⟨rfl, hp, hJ⟩)
    · have hJ1 := hJ.1
      have hr : Hid (logFrom 0 l0 = false) := by
        show logFrom 0 l0 = false
        cases e : logFrom 0 l0 with
        | false => rfl
        | true => exact absurd (hp.symm.trans (KEY.out.2 e k hk)) (by decide)
      clear hcont hJ hp
      go_wp2
      go_ret
      exact ⟨ret_bool (by rw [hr.out]), hJ1⟩
    · have hJ1 := hJ.1
      have hr : Hid (logFrom 0 l0 = true) := KEY.out.1 hp
      clear hcont hJ hp
      go_wp2
      go_ret
      exact ⟨ret_bool (by rw [hr.out]), hJ1⟩
  · cases h


/-! ### event_line: function 23 (by hand) -/
-- EXT rounds=0 laid=1 deps=livery/event.Word,livery/event.log
/-- An event's line. -/
def lineL (a b c d : Int) : List UInt8 := Lib.decDigits a.toNat ++ [32] ++ wordL b ++ [32] ++ Lib.decDigits c.toNat ++ [32] ++ Lib.decDigits d.toNat ++ [10]
def event_line.f (a0_0 : Int) (a0_1 : Int) (a0_2 : Int) (a0_3 : Int) : Option ByteArray := if (0 ≤ a0_0 ∧ a0_0 ≤ 1099511627776) ∧ (0 ≤ a0_1 ∧ a0_1 ≤ 14) ∧ (0 ≤ a0_2 ∧ a0_2 ≤ 4294967295) ∧ (0 ≤ a0_3 ∧ a0_3 ≤ 1099511627776) then some ⟨(lineL a0_0 a0_1 a0_2 a0_3).toArray⟩ else none
theorem ret_str {a b : ByteArray} (h : a = b) : Ending.returned (.string a) = .returned (.string b) := by rw [h]
theorem fmt_any (n : Int) (w : World) (h0 : 0 ≤ n) (h1 : n ≤ 1099511627776) (hG : LaidW w) :
    Calls Tryd.prog 35 #[.int .i64 n] w fun e w' => e = .returned (.string ⟨(Lib.decDigits n.toNat).toArray⟩) ∧ Below w.heap.size w w' := by
  have h := Tryd.strconv_FormatInt_10 n (by omega) (by omega) w hG.tab
  have hi : Lib.itoa n = Lib.decDigits n.toNat := by unfold Lib.itoa; rw [if_neg (by omega)]
  rw [hi] at h
  go_enter Tryd.func35, Tryd.ntmps35
  go_wp2_with fail
  refine h.mono ?_
  rintro e w1 ⟨rfl, k, os, rfl⟩
  go_wp2
  go_ret
  exact ⟨rfl, rfl, rfl, rfl, by show w.heap.size ≤ (w.heap ++ os).size; rw [Array.size_append]; omega, fun j hj => by show (w.heap ++ os)[j]? = w.heap[j]?; exact Array.getElem?_append_left hj⟩
theorem dec_len : ∀ u : Nat, (Lib.decDigits u).length ≤ u + 1 := by
  intro u
  induction u using Nat.strongRecOn with
  | _ u ih =>
    rw [Lib.decDigits]
    split
    · simp
    · have := ih (u / 10) (by omega)
      simp
      omega
theorem word_len (b : Int) : (wordL b).length ≤ 7 := by
  unfold wordL
  rw [List.getD_eq_getElem?_getD]
  by_cases h : b.toNat < words.length
  · rw [List.getElem?_eq_getElem h]
    exact (show ∀ l ∈ words, l.length ≤ 7 by decide) _ (List.getElem_mem h)
  · rw [List.getElem?_eq_none (by omega)]; simp
theorem join_any (d0 d1 d2 d3 : List UInt8) (h0 : d0.length ≤ 2000000000000) (h1 : d1.length ≤ 2000000000000) (h2 : d2.length ≤ 2000000000000) (h3 : d3.length ≤ 2000000000000) (W : World) :
    Calls Tryd.prog 37 #[.slice (some ⟨W.heap.size, 0, none⟩) 4 4, .string ⟨#[32]⟩] (W.alloc (.cells #[.string ⟨d0.toArray⟩, .string ⟨d1.toArray⟩, .string ⟨d2.toArray⟩, .string ⟨d3.toArray⟩] 9)) fun e w' =>
      e = .returned (.string ⟨(d0 ++ [32] ++ d1 ++ [32] ++ d2 ++ [32] ++ d3).toArray⟩) ∧ Below (W.alloc (.cells #[.string ⟨d0.toArray⟩, .string ⟨d1.toArray⟩, .string ⟨d2.toArray⟩, .string ⟨d3.toArray⟩] 9)).heap.size (W.alloc (.cells #[.string ⟨d0.toArray⟩, .string ⟨d1.toArray⟩, .string ⟨d2.toArray⟩, .string ⟨d3.toArray⟩] 9)) w' := by
  have hj : Lib.join (([⟨d0.toArray⟩, ⟨d1.toArray⟩, ⟨d2.toArray⟩, ⟨d3.toArray⟩] : List ByteArray).map (·.data.toList)) [32] = d0 ++ [32] ++ d1 ++ [32] ++ d2 ++ [32] ++ d3 := by
    simp [Lib.join, List.intercalate]
  have hb := blk_new W (.cells #[.string ⟨d0.toArray⟩, .string ⟨d1.toArray⟩, .string ⟨d2.toArray⟩, .string ⟨d3.toArray⟩] 9 (0, 0))
  have h := Tryd.strings_Join W.heap.size 0 4 [⟨d0.toArray⟩, ⟨d1.toArray⟩, ⟨d2.toArray⟩, ⟨d3.toArray⟩] ⟨#[32]⟩ _ (fun j x hx => by
    rw [Nat.zero_add, blk_cell hb j]
    match j, hx with
    | 0, hx => simp at hx; subst hx; rfl
    | 1, hx => simp at hx; subst hx; rfl
    | 2, hx => simp at hx; subst hx; rfl
    | 3, hx => simp at hx; subst hx; rfl
    | j + 4, hx => simp at hx) (by simp) (by simp) (by simp) (by rw [show (⟨#[32]⟩ : ByteArray).data.toList = [32] from rfl, hj]; simp; omega)
  rw [show (⟨#[32]⟩ : ByteArray).data.toList = [32] from rfl, hj] at h
  exact h
/-- What is kept while the parts are told. -/
abbrev LineAt (g : Nat) (w : World) (a b c d : Int) (w' : World) : Prop := w'.cell? ⟨g, 0, none⟩ = some (.int .i64 a) ∧ w'.cell? ⟨g, 1, none⟩ = some (.int .u8 b) ∧ w'.cell? ⟨g, 2, none⟩ = some (.int .u32 c) ∧ w'.cell? ⟨g, 3, none⟩ = some (.int .i64 d) ∧ LaidW w' ∧ Below w.heap.size w w'
theorem lineAt_below {g : Nat} {w w1 w2 : World} {a b c d : Int} (h : LineAt g w a b c d w1) (hb : Below w1.heap.size w1 w2) : LineAt g w a b c d w2 := by
  obtain ⟨h0, h1, h2, h3, hG, hB⟩ := h
  exact ⟨(hb.cell (World.block_lt_of_cell? w1 _ h0)).trans h0, (hb.cell (World.block_lt_of_cell? w1 _ h1)).trans h1, (hb.cell (World.block_lt_of_cell? w1 _ h2)).trans h2, (hb.cell (World.block_lt_of_cell? w1 _ h3)).trans h3, hG.below hb, below_step hB hb⟩
theorem lineAt_mk {g : Nat} {w w1 : World} {a b c d : Int} (h : w1.heap[g]? = some (.cells #[.int .i64 a, .int .u8 b, .int .u32 c, .int .i64 d] 32 (0, 0))) (hG : LaidW w1) (hB : Below w.heap.size w w1) : LineAt g w a b c d w1 :=
  ⟨(blk_cell h 0).trans rfl, (blk_cell h 1).trans rfl, (blk_cell h 2).trans rfl, (blk_cell h 3).trans rfl, hG, hB⟩
theorem event_line.calls (a0_0 : Int) (a0_1 : Int) (a0_2 : Int) (a0_3 : Int) (r : ByteArray) (w : World) (h : event_line.f a0_0 a0_1 a0_2 a0_3 = some r) (hG : LaidW w) :
    Calls Tryd.prog 23 #[.agg #[.int .i64 a0_0, .int .u8 a0_1, .int .u32 a0_2, .int .i64 a0_3]] w fun e w' => e = .returned (.string r) ∧ Below w.heap.size w w' := by
  unfold event_line.f at h
  split at h
  · rename_i hs
    obtain ⟨⟨x0, y0⟩, ⟨x1, y1⟩, ⟨x2, y2⟩, x3, y3⟩ := hs
    obtain rfl := Option.some.inj h
    have hf0 := fun W => fmt_any a0_0 W x0 y0
    have hf2 := fun W => fmt_any a0_2 W x2 (by omega)
    have hf3 := fun W => fmt_any a0_3 W x3 y3
    have hwd := fun W => event_Word.calls a0_1 _ W (word_eq a0_1 x1 y1)
    have hj := join_any (Lib.decDigits a0_0.toNat) (wordL a0_1) (Lib.decDigits a0_2.toNat) (Lib.decDigits a0_3.toNat) (by have := dec_len a0_0.toNat; omega) (by have := word_len a0_1; omega) (by have := dec_len a0_2.toNat; omega) (by have := dec_len a0_3.toNat; omega)
    unfold lineL
    have hJl : (Lib.decDigits a0_0.toNat ++ [32] ++ wordL a0_1 ++ [32] ++ Lib.decDigits a0_2.toNat ++ [32] ++ Lib.decDigits a0_3.toNat).length + 1 ≤ 9223372036854775807 := by
      have := dec_len a0_0.toNat; have := word_len a0_1; have := dec_len a0_2.toNat; have := dec_len a0_3.toNat
      simp; omega
    generalize Lib.decDigits a0_0.toNat = d0 at hf0 hj hJl
    generalize Lib.decDigits a0_2.toNat = d2 at hf2 hj hJl
    generalize Lib.decDigits a0_3.toNat = d3 at hf3 hj hJl
    generalize wordL a0_1 = d1 at hwd hj hJl
    generalize d0 ++ [32] ++ d1 ++ [32] ++ d2 ++ [32] ++ d3 = J at hj hJl ⊢
    have hJ1 : (9223372036854775807 < J.length + 1) = False := eq_false (by omega)
    have hJ2 : (9223372036854775807 < (⟨J.toArray⟩ : ByteArray).size + 1) = False := eq_false (by show ¬ (_ < J.toArray.size + 1); simp; omega)
    go_enter Tryd.func23, Tryd.ntmps23
    go_wp2
    have hw2 : IntKind.i64.wrap a0_2 = a0_2 := IntWalk.i64_in _ (by omega)
    have hw2' : wrap64 a0_2 = a0_2 := by rw [← IntWalk.i64_left]; exact hw2
    have hbx := blk_new w (.cells #[.int .i64 a0_0, .int .u8 a0_1, .int .u32 a0_2, .int .i64 a0_3] 32 (0, 0))
    have hLx : LaidW (w.alloc (.cells #[.int .i64 a0_0, .int .u8 a0_1, .int .u32 a0_2, .int .i64 a0_3] 32 (0, 0))) := hG.below (below_alloc (Below.refl _ _) _)
    have hKx : Below w.heap.size w (w.alloc (.cells #[.int .i64 a0_0, .int .u8 a0_1, .int .u32 a0_2, .int .i64 a0_3] 32 (0, 0))) := below_alloc (Below.refl _ _) _
    have hx := lineAt_mk hbx hLx hKx
    clear hbx hLx hKx hG
    go_region_held3 (fun w' => w'.cell? ⟨w.heap.size, 0, none⟩ = some (.int .i64 a0_0) ∧ w'.cell? ⟨w.heap.size, 1, none⟩ = some (.int .u8 a0_1) ∧ w'.cell? ⟨w.heap.size, 2, none⟩ = some (.int .u32 a0_2) ∧ w'.cell? ⟨w.heap.size, 3, none⟩ = some (.int .i64 a0_3) ∧ LaidW w' ∧ Below w.heap.size w w')
      (first | exact lineAt_below (by assumption) (by assumption) | exact lineAt_below (by assumption) (below_alloc (Below.refl _ _) _) | exact lineAt_below (by assumption) (pw_below_drewN (Below.refl _ _) _) | exact lineAt_below (by assumption) (below_drew (Below.refl _ _)) | assumption)
      (first | (go_at_call 35; (with_reducible refine (hf0 _ (And.left (And.right (And.right (And.right (And.right ‹_›)))))).mono ?_); rintro e w' ⟨rfl, hb⟩) | (go_at_call 35; (with_reducible refine (hf2 _ (And.left (And.right (And.right (And.right (And.right ‹_›)))))).mono ?_); rintro e w' ⟨rfl, hb⟩) | (go_at_call 35; (with_reducible refine (hf3 _ (And.left (And.right (And.right (And.right (And.right ‹_›)))))).mono ?_); rintro e w' ⟨rfl, hb⟩) | (go_at_call 12; (with_reducible refine (hwd _).mono ?_); rintro e w' ⟨rfl, hb⟩) | (go_at_call 37; (with_reducible refine (hj _).mono ?_); rintro e w' ⟨rfl, hb⟩))
    go_wp2
    go_ret
    exact ⟨ret_str (by apply ByteArray.ext; simp), (show LineAt w.heap.size w a0_0 a0_1 a0_2 a0_3 _ by assumption).2.2.2.2.2⟩
  · cases h


/-! ### event_Lines: function 8 -/
def event_Lines.l0 : Nat → ByteArray → List (S32) → Int → Int → Option (ByteArray × Int)
  | 0, _, _, _, _ => none
  | k + 1, x4, x10, x11, x12 => if x12 < x11 then (if 0 ≤ x12 then (if x12 < (x10.length : Int) then ((event_line.f ((rd_T32 x10 x12).f0) ((rd_T32 x10 x12).f1) ((rd_T32 x10 x12).f2) ((rd_T32 x10 x12).f3)).bind fun t120 => (if x4.size + t120.size ≤ 9223372036854775807 then (event_Lines.l0 k (x4 ++ t120) x10 x11 (wrap64 (x12 + 1))) else (none))) else (none)) else (none)) else (some (x4, 0))
def event_Lines.f (k : Nat) (l0 : List (S32)) : Option (ByteArray × Int) := (event_log.f l0).bind fun t117 => (if t117 = true then (event_Lines.l0 k (⟨#[]⟩ : ByteArray) l0 (l0.length : Int) 0) else (some ((⟨#[]⟩ : ByteArray), 2)))
theorem event_Lines.mono_l : ∀ k, (∀ y0 y1 y2 y3, LeO (event_Lines.l0 k y0 y1 y2 y3) (event_Lines.l0 (k + 1) y0 y1 y2 y3))
  | 0 => fun _ _ _ _ r h => by simp [event_Lines.l0] at h
  | k + 1 => by
    have ih0 := event_Lines.mono_l k
    · intro y0 y1 y2 y3
      unfold event_Lines.l0
      repeat' first
      | (with_reducible exact ih0 _ _ _ _)
      | (with_reducible exact LeO.refl _)
      | (with_reducible exact LeO.none _)
      | (with_reducible refine LeO.ite ?_ ?_)
      | (with_reducible refine LeO.bind ?_ (fun _ => ?_))
      | exact ih0 _ _ _ _
      | exact LeO.none _
      | refine LeO.ite ?_ ?_
      | refine LeO.bind ?_ (fun _ => ?_)
theorem event_Lines.mono : ∀ a0 k, LeO (event_Lines.f k a0) (event_Lines.f (k + 1) a0) := by
  intro a0 k
  have ih0 := event_Lines.mono_l k
  unfold event_Lines.f
  repeat' first
      | (with_reducible exact ih0 _ _ _ _)
      | (with_reducible exact LeO.refl _)
      | (with_reducible exact LeO.none _)
      | (with_reducible refine LeO.ite ?_ ?_)
      | (with_reducible refine LeO.bind ?_ (fun _ => ?_))
      | exact ih0 _ _ _ _
      | exact LeO.none _
      | refine LeO.ite ?_ ?_
      | refine LeO.bind ?_ (fun _ => ?_)
set_option maxHeartbeats 8000000 in
set_option maxRecDepth 100000 in
theorem event_Lines.calls (k : Nat) (A0 : Option Addr) (c0 : Nat) (l0 : List (S32)) (r1 : ByteArray) (r2 : Int) (w : World) (hr0 : Kd.C k32 w A0 l0.length l0) (hc0 : l0.length ≤ c0) (h : event_Lines.f k l0 = some (r1, r2)) (hG : LaidW w) :
    Calls Tryd.prog 8 #[.slice A0 l0.length c0] w fun e w' => e = .returned (.tuple #[.string r1, .int .i64 r2]) ∧ Below w.heap.size w w' := by
  have hu32 := Tryd.underlying32
  have HR0 := Aside0.mk hr0
  have HC0 := Aside0.mk hc0
  clear hr0 hc0
  have HB := Aside0.mk (Below.refl w.heap.size w)
  have HG := Aside0.mk hG
  clear hG
  have H : ((event_log.f l0).bind fun t117 => (if t117 = true then (event_Lines.l0 k (⟨#[]⟩ : ByteArray) l0 (l0.length : Int) 0) else (some ((⟨#[]⟩ : ByteArray), 2)))) = some (r1, r2) := h
  clear h
  replace H := Option.bind_eq_some_iff.mp H
  obtain ⟨t117, A20, H⟩ := H
  replace H : (if t117 = true then (event_Lines.l0 k (⟨#[]⟩ : ByteArray) l0 (l0.length : Int) 0) else (some ((⟨#[]⟩ : ByteArray), 2))) = some (r1, r2) := H
  have A2 := Aside0.mk A20
  clear A20
  by_cases c3 : t117 = true
  · subst c3
    have H1 : (event_Lines.l0 k (⟨#[]⟩ : ByteArray) l0 (l0.length : Int) 0) = some (r1, r2) := by rw [if_pos rfl] at H; exact H
    clear H
    have H := H1
    clear H1
    have H' := Aside0.mk H
    clear H
    go_enter Tryd.func8, Tryd.ntmps8
    go_wp2_with (first | ((with_reducible refine gate_callee (f := 22) rfl ?_); refine goesL_ (some 8) rfl rfl Tryd.func22 (by kernel_rfl) rfl #[.slice A0 l0.length c0] rfl (by (try simp only [List.map_toArray, List.map_cons, List.map_nil]); first | done | rfl | (simp only [List.length_drop, List.length_take]; rfl)) ?_; (with_reducible refine (event_log.calls _ _ l0 true _ ?side1 ?side2 A2.out).mono ?_); (case side1 => repeat (first | exact HR0.out | (with_reducible refine Kd.C_alloc ?_ _) | (with_reducible refine Kd.C_drewN ?_ _) | (with_reducible refine Kd.C_drew ?_))); (case side2 => exact HC0.out); rintro e w4 ⟨rfl, hb⟩; refine ⟨_, rfl, ?_⟩; have n0_ := Aside0.mk (below_step (by repeat (first | (with_reducible first | exact HB.out | apply below_alloc | apply pw_below_drewN | apply below_drew1) | exact HB.out)) hb); clear HB; have HB := n0_; clear n0_; (try clear hb); (try clear hb2); (try clear hk); (try clear hi)))
    go_loopg [4, 12] k (fun kq v4 v12 w' => ∃ (x4_1 : ByteArray) (x12_1 : Int), v4 = .string x4_1 ∧ v12 = .int .i64 x12_1 ∧ Aside0 (event_Lines.l0 kq x4_1 l0 (l0.length : Int) x12_1 = some (r1, r2)) ∧ Aside0 (kq ≤ k) ∧ Aside0 (Below w.heap.size w w'))
    case atStart => exact ⟨((⟨#[]⟩ : ByteArray)), (0), (by first | rfl | (simp; done) | (simp [*]; done)), (by first | rfl | (simp; done) | (simp [*]; done)), H', ⟨Nat.le_refl _⟩, ⟨by repeat (first | (with_reducible first | exact HB.out | apply below_alloc | apply pw_below_drewN | apply below_drew1) | exact HB.out)⟩⟩
    case round =>
      clear H'
      try clear c2
      try clear p2
      try clear c3
      obtain ⟨x4_1, x12_1, rfl, rfl, HA, HK1, HB⟩ := hrel
      cases gk with
      | zero => exact absurd HA.out (by simp [event_Lines.l0])
      | succ k1 =>
        have H := HA.out
        clear HA
        simp only [event_Lines.l0] at H
        by_cases c5 : x12_1 < (l0.length : Int)
        · rw [if_pos c5] at H
          have c5b0 : decide (x12_1 < (l0.length : Int)) = true := decide_eq_true c5
          clear c5
          by_cases c6 : 0 ≤ x12_1
          · rw [if_pos c6] at H
            have c6b0 : decide (0 ≤ x12_1) = true := decide_eq_true c6
            clear c6
            by_cases c7 : x12_1 < (l0.length : Int)
            · rw [if_pos c7] at H
              have c7b0 : decide (x12_1 < (l0.length : Int)) = true := decide_eq_true c7
              clear c7
              replace H := Option.bind_eq_some_iff.mp H
              obtain ⟨t120, A80, H⟩ := H
              replace H : (if x4_1.size + t120.size ≤ 9223372036854775807 then (event_Lines.l0 k1 (x4_1 ++ t120) l0 (l0.length : Int) (wrap64 (x12_1 + 1))) else (none)) = some (r1, r2) := H
              have A8 := Aside0.mk A80
              clear A80
              by_cases c9 : x4_1.size + t120.size ≤ 9223372036854775807
              · rw [if_pos c9] at H
                have c9b0 := eq_true c9
                have c9b1 : decide (x4_1.size + t120.size ≤ 9223372036854775807) = true := decide_eq_true c9
                try have c9b2 : (9223372036854775807 < x4_1.size + t120.size) = False := eq_false (Nat.not_lt.2 c9)
                have H' := Aside0.mk H
                clear H
                have p118 : 0 ≤ (x12_1 : Int) := of_decide_eq_true (by first | (with_reducible assumption) | assumption)
                have q118 : x12_1 < (l0.length : Int) := of_decide_eq_true (by first | (with_reducible assumption) | assumption)
                obtain ⟨ad118, e118, hx118_0, hx118_1, hx118_2, hx118_3⟩ := at_T32 HR0.out x12_1 p118 q118
                cases e118
                replace hx118_0 := (HB.out.cell (World.block_lt_of_cell? w _ hx118_0)).trans hx118_0
                replace hx118_1 := (HB.out.cell (World.block_lt_of_cell? w _ hx118_1)).trans hx118_1
                replace hx118_2 := (HB.out.cell (World.block_lt_of_cell? w _ hx118_2)).trans hx118_2
                replace hx118_3 := (HB.out.cell (World.block_lt_of_cell? w _ hx118_3)).trans hx118_3
                replace p118 := eq_true p118
                replace q118 := eq_true q118
                go_wp2_with (first | ((with_reducible refine gate_dst (N := 6) rfl ?_); refine box_event ?hg (N := 6) ?hd (cs := #[.int .i64 0, .int .u8 0, .int .u32 0, .int .i64 0]) (t := 32) ?hr ?_; (case hd => rfl); (case hg => rfl); (case hr => first | (go_simp; done) | (go_simp; rfl)); intro gb119 hg w10 hbox hb; have n0_ := Aside0.mk (below_step (by repeat (first | (with_reducible first | exact HB.out | apply below_alloc | apply pw_below_drewN | apply below_drew1) | exact HB.out)) hb); have n1_ := Aside0.mk (hbox); have n2_ := Aside0.mk ((by rw [hg]; exact (below_size (by repeat (first | (with_reducible first | exact HB.out | apply below_alloc | apply pw_below_drewN | apply below_drew1) | exact HB.out))) : w.heap.size ≤ gb119)); have n3_ := Aside0.mk ((by rw [hg]; exact (below_size (by repeat (first | (with_reducible first | exact HB.out | apply below_alloc | apply pw_below_drewN | apply below_drew1) | exact HB.out))) : w.heap.size ≤ gb119)); clear HB; have HB := n0_; have BK119 := n1_; have GW119 := n2_; have GE119 := n3_; clear n0_ n1_ n2_ n3_; clear hb hbox hg; have hcz11_0 : w10.cell? ⟨gb119, 0, none⟩ = some (.int .i64 0) := (blk_cell BK119.out 0).trans rfl; have hcz11_1 : w10.cell? ⟨gb119, 1, none⟩ = some (.int .u8 0) := (blk_cell BK119.out 1).trans rfl; have hcz11_2 : w10.cell? ⟨gb119, 2, none⟩ = some (.int .u32 0) := (blk_cell BK119.out 2).trans rfl; have hcz11_3 : w10.cell? ⟨gb119, 3, none⟩ = some (.int .i64 0) := (blk_cell BK119.out 3).trans rfl; have hfz11_0 := blk_frozen BK119.out 0; have hfz11_1 := blk_frozen BK119.out 1; have hfz11_2 := blk_frozen BK119.out 2; have hfz11_3 := blk_frozen BK119.out 3) | ((with_reducible refine gate_callee (f := 23) rfl ?_); refine goesL_ (some 18) rfl rfl Tryd.func23 (by kernel_rfl) rfl #[.agg #[.int .i64 ((rd_T32 l0 x12_1).f0), .int .u8 ((rd_T32 l0 x12_1).f1), .int .u32 ((rd_T32 l0 x12_1).f2), .int .i64 ((rd_T32 l0 x12_1).f3)]] rfl (by (try simp only [List.map_toArray, List.map_cons, List.map_nil]); first | done | rfl | (simp only [List.length_drop, List.length_take]; rfl)) ?_; (with_reducible refine (event_line.calls ((rd_T32 l0 x12_1).f0) ((rd_T32 l0 x12_1).f1) ((rd_T32 l0 x12_1).f2) ((rd_T32 l0 x12_1).f3) t120 _ A8.out ?sideG).mono ?_); (case sideG => exact LaidW.below HG.out (by repeat (first | (with_reducible first | exact HB.out | apply below_alloc | apply pw_below_drewN | apply below_drew1 | refine below_set ?_ GE119.out) | exact HB.out))); rintro e w12 ⟨rfl, hb⟩; refine ⟨_, rfl, ?_⟩; have n0_ := Aside0.mk (blk_below (g := gb119) (o := .cells #[.int .i64 ((rd_T32 l0 x12_1).f0), .int .u8 ((rd_T32 l0 x12_1).f1), .int .u32 ((rd_T32 l0 x12_1).f2), .int .i64 ((rd_T32 l0 x12_1).f3)] 32 (0, 0)) (by (with_reducible repeat (first | refine blk_drewN ?_ _ | refine blk_drew ?_ | refine blk_alloc ?_ _)); refine blk_put (cs := #[.int .i64 ((rd_T32 l0 x12_1).f0), .int .u8 ((rd_T32 l0 x12_1).f1), .int .u32 ((rd_T32 l0 x12_1).f2), .int .i64 0]) ?_ 3 _ rfl; (with_reducible repeat (first | refine blk_drewN ?_ _ | refine blk_drew ?_ | refine blk_alloc ?_ _)); refine blk_put (cs := #[.int .i64 ((rd_T32 l0 x12_1).f0), .int .u8 ((rd_T32 l0 x12_1).f1), .int .u32 0, .int .i64 0]) ?_ 2 _ rfl; (with_reducible repeat (first | refine blk_drewN ?_ _ | refine blk_drew ?_ | refine blk_alloc ?_ _)); refine blk_put (cs := #[.int .i64 ((rd_T32 l0 x12_1).f0), .int .u8 0, .int .u32 0, .int .i64 0]) ?_ 1 _ rfl; (with_reducible repeat (first | refine blk_drewN ?_ _ | refine blk_drew ?_ | refine blk_alloc ?_ _)); refine blk_put (cs := #[.int .i64 0, .int .u8 0, .int .u32 0, .int .i64 0]) ?_ 0 _ rfl; (with_reducible repeat (first | refine blk_drewN ?_ _ | refine blk_drew ?_ | refine blk_alloc ?_ _)); exact BK119.out) hb); have n1_ := Aside0.mk (below_step (by repeat (first | (with_reducible first | exact HB.out | apply below_alloc | apply pw_below_drewN | apply below_drew1 | refine below_set ?_ GE119.out) | exact HB.out)) hb); clear BK119; clear HB; have BK119 := n0_; have HB := n1_; clear n0_ n1_; (try clear hb); (try clear hb2); (try clear hk); (try clear hi)))
                go_roundg k1
                case measure => have := HK1.out; omega
                case rel => exact ⟨(x4_1 ++ t120), (wrap64 (x12_1 + 1)), (by first | rfl | (simp; done) | (simp [*]; done)), (by first | rfl | (simp; done) | (simp [*]; done)), H', ⟨by have := HK1.out; omega⟩, ⟨by repeat (first | (with_reducible first | exact HB.out | apply below_alloc | apply pw_below_drewN | apply below_drew1 | refine below_set ?_ GE119.out) | exact HB.out)⟩⟩
              · rw [if_neg c9] at H
                exact absurd H (by simp)
            · rw [if_neg c7] at H
              exact absurd H (by simp)
          · rw [if_neg c6] at H
            exact absurd H (by simp)
        · rw [if_neg c5] at H
          have c5b0 : decide (x12_1 < (l0.length : Int)) = false := decide_eq_false c5
          clear c5
          simp only [Option.some.injEq, Prod.mk.injEq] at H
          obtain ⟨rfl, rfl⟩ := H
          go_wp2
          go_ret2
          exact ⟨by first | rfl | (simp [errW_none, errW_some] <;> rfl) | (simp [*, errW_none, errW_some] <;> rfl), by repeat (first | (with_reducible first | exact HB.out | apply below_alloc | apply pw_below_drewN | apply below_drew1) | exact HB.out)⟩
  · replace c3 := Bool.eq_false_iff.mpr c3
    subst c3
    have H1 : (some ((⟨#[]⟩ : ByteArray), 2)) = some (r1, r2) := by rw [if_neg (show ¬ (false = true) by decide)] at H; exact H
    clear H
    have H := H1
    clear H1
    simp only [Option.some.injEq, Prod.mk.injEq] at H
    obtain ⟨rfl, rfl⟩ := H
    go_enter Tryd.func8, Tryd.ntmps8
    go_wp2_with (first | ((with_reducible refine gate_callee (f := 22) rfl ?_); refine goesL_ (some 8) rfl rfl Tryd.func22 (by kernel_rfl) rfl #[.slice A0 l0.length c0] rfl (by (try simp only [List.map_toArray, List.map_cons, List.map_nil]); first | done | rfl | (simp only [List.length_drop, List.length_take]; rfl)) ?_; (with_reducible refine (event_log.calls _ _ l0 false _ ?side1 ?side2 A2.out).mono ?_); (case side1 => repeat (first | exact HR0.out | (with_reducible refine Kd.C_alloc ?_ _) | (with_reducible refine Kd.C_drewN ?_ _) | (with_reducible refine Kd.C_drew ?_))); (case side2 => exact HC0.out); rintro e w13 ⟨rfl, hb⟩; refine ⟨_, rfl, ?_⟩; have n0_ := Aside0.mk (below_step (by repeat (first | (with_reducible first | exact HB.out | apply below_alloc | apply pw_below_drewN | apply below_drew1) | exact HB.out)) hb); clear HB; have HB := n0_; clear n0_; (try clear hb); (try clear hb2); (try clear hk); (try clear hi)))
    go_ret2
    exact ⟨by first | rfl | (simp [errW_none, errW_some] <;> rfl) | (simp [*, errW_none, errW_some] <;> rfl), by repeat (first | (with_reducible first | exact HB.out | apply below_alloc | apply pw_below_drewN | apply below_drew1) | exact HB.out)⟩

/-! ### strings_Cut: function 27 (by hand) -/
-- EXT rounds=0 laid=1
def strings_Cut.f (a0 : ByteArray) (a1 : ByteArray) : Option (ByteArray × ByteArray × Bool) := if a0.size < 4294967281 then some (⟨(Lib.cut a0.data.toList a1.data.toList).1.toArray⟩, ⟨(Lib.cut a0.data.toList a1.data.toList).2.1.toArray⟩, (Lib.cut a0.data.toList a1.data.toList).2.2) else none
theorem strings_Cut.calls (a0 : ByteArray) (a1 : ByteArray) (r1 : ByteArray) (r2 : ByteArray) (r3 : Bool) (w : World) (h : strings_Cut.f a0 a1 = some (r1, r2, r3)) (hG : LaidW w) :
    Calls Tryd.prog 27 #[.string a0, .string a1] w fun e w' => e = .returned (.tuple #[.string r1, .string r2, .bool r3]) ∧ Below w.heap.size w w' := by
  unfold strings_Cut.f at h
  split at h
  · rename_i hs
    obtain ⟨m, hm⟩ := hG.most
    simp only [Option.some.injEq, Prod.mk.injEq] at h
    obtain ⟨rfl, rfl, rfl⟩ := h
    exact (Tryd.strings_Cut a0 a1 m w hs hm).mono fun e w' ⟨he, n, hw⟩ => ⟨he, hw ▸ pw_below_drewN (Below.refl _ _) n⟩
  · cases h


/-! ### strings_Split: function 42 (by hand) -/
-- EXT rounds=0 laid=1
def strings_Split.f (a0 : ByteArray) (a1 : ByteArray) : Option (List ByteArray) := if a0.size < 4294967281 ∧ 1 ≤ a1.size then some (Lib.splitB a1 0 (Lib.countB a0 a1) a0) else none
theorem strings_Split.calls (a0 : ByteArray) (a1 : ByteArray) (r : List ByteArray) (w : World) (h : strings_Split.f a0 a1 = some r) (hG : LaidW w) :
    Calls Tryd.prog 42 #[.string a0, .string a1] w fun e w' => ∃ v0_ : Value, e = .returned (v0_) ∧ Kd.R Kd.string 9 w' w.heap.size (fun _ => True) v0_ r ∧ Below w.heap.size w w' := by
  unfold strings_Split.f at h
  split at h
  · rename_i hs
    obtain ⟨m, hm⟩ := hG.most
    obtain rfl := Option.some.inj h
    refine (Tryd.strings_Split a0 a1 m w hs.1 hm hs.2).mono fun e w' ⟨he, hw⟩ => ?_
    subst hw
    have hlen := Lib.splitB_all a1 hs.2 0 _ a0 rfl
    have hle := Lib.countB_le a1 hs.2 a0.size a0 (Nat.le_refl _)
    refine ⟨_, he, ?_, below_alloc (Below.refl _ _) _⟩
    have ho := World.ownsRow_lit (base := w.heap.size) (e := 9) (size := 1) w ((Lib.splitB a1 0 (Lib.countB a0 a1) a0).map Value.string).toArray (Lib.countB a0 a1 + 1) (Nat.le_refl _) (by simp only [maxLen]; omega) (by simp [hlen])
    rw [← hlen] at ho ⊢
    exact Kd.R_of_own (by simpa [encs] using ho) (fun _ _ => trivial)
  · cases h


/-! ### event_number: function 43 (by hand) -/
-- EXT rounds=0 laid=0
/-- The digits at the head: what they come to, and how many there are. -/
def numGo : Int → Nat → List UInt8 → Int × Nat
  | n, e, [] => (n, e)
  | n, e, c :: s => if c.toNat < 48 ∨ 57 < c.toNat ∨ 1099511627776 < n then (n, e) else numGo (10 * n + ((c.toNat : Int) - 48)) (e + 1) s
def numB (s : List UInt8) : Bool := decide (s ≠ []) && decide ((numGo 0 0 s).2 = s.length) && (decide (s.head? ≠ some 48) || decide (s.length = 1))
def event_number.f (a0 : ByteArray) : Option (Int × Bool) := if a0.size ≤ 1000000 then some ((numGo 0 0 a0.data.toList).1, numB a0.data.toList) else none
theorem numB_short {s : List UInt8} (h : (numGo 0 0 s).2 < s.length) : numB s = false := by
  unfold numB
  rw [decide_eq_false (p := (numGo 0 0 s).2 = s.length) (by omega), Bool.and_false, Bool.false_and]
theorem ne_empty {s : ByteArray} (h : 0 < s.size) : s.toList.isEmpty = false := by
  rw [ByteArray.toList_eq]
  cases e : s.data.toList with
  | nil => have : s.data.toList.length = 0 := by rw [e]; rfl
           rw [Array.length_toList] at this
           have h2 : s.size = 0 := this; omega
  | cons a l => rfl
theorem is_empty {s : ByteArray} (h : s.size = 0) : s.data.toList = [] := List.eq_nil_of_length_eq_zero (by rw [Array.length_toList]; exact h)
theorem numB_end {s : ByteArray} {x : Int} (h : 0 < s.size) (hx : numGo 0 0 s.data.toList = (x, s.size)) : numB s.data.toList = (((s[0].toNat : Int) != 48) || ((s.size : Int) == 1)) := by
  have hl : s.data.toList.length = s.size := Array.length_toList
  unfold numB
  rw [hx, hl]
  cases e : s.data.toList with
  | nil => rw [e] at hl; simp at hl; omega
  | cons a l =>
    have ha : s[0] = a := by
      show s.data[0] = a
      rw [← Array.getElem_toList]
      simp [e]
    rw [ha]
    have h3 : ((a.toNat : Int) != 48) = decide (a ≠ 48) := by
      rw [Bool.eq_iff_iff]; simp; constructor
      · intro h4 h5; subst h5; exact h4 rfl
      · intro h4 h5; exact h4 (UInt8.toNat_inj.1 (by simpa using Int.ofNat.inj h5))
    have h4 : ((s.size : Int) == 1) = decide (s.size = 1) := by rw [Bool.eq_iff_iff]; simp; omega
    rw [h3, h4]
    simp
theorem numRet {a b : Int} {c d : Bool} (h : a = b) (h2 : c = d) : Ending.returned (.tuple #[.int .i64 a, .bool c]) = .returned (.tuple #[.int .i64 b, .bool d]) := by rw [h, h2]
theorem event_number.calls (a0 : ByteArray) (r1 : Int) (r2 : Bool) (w : World) (h : event_number.f a0 = some (r1, r2)) :
    Calls Tryd.prog 43 #[.string a0] w fun e w' => e = .returned (.tuple #[.int .i64 r1, .bool r2]) ∧ Below w.heap.size w w' := by
  unfold event_number.f at h
  split at h
  · rename_i hs
    simp only [Option.some.injEq, Prod.mk.injEq] at h
    obtain ⟨rfl, rfl⟩ := h
    have hs2 : a0.size ≤ 9223372036854775807 := by omega
    go_enter Tryd.func43, Tryd.ntmps43
    go_wp2_with fail
    go_step3
    go_wp2
    go_step3
    go_wp2
    go_loop [9, 4, 5] (fun i n e => ∃ (k : Nat) (x : Int), k ≤ a0.size ∧ i = .int .i64 k ∧ n = .int .i64 x ∧ e = .int .i64 k ∧ (0 ≤ x ∧ x ≤ 10995116277769) ∧ Hid (numGo x k (a0.data.toList.drop k) = numGo 0 0 a0.data.toList)) (fun i _ _ => a0.size - (intOf i).toNat)
    case atStart => exact ⟨0, 0, Nat.zero_le _, rfl, rfl, rfl, ⟨by omega, by omega⟩, Lib.hid rfl⟩
    case round =>
      obtain ⟨k, x, hk, rfl, rfl, rfl, ⟨x0, x1⟩, hx⟩ := hrel
      by_cases hlt : k < a0.size
      · have hd0 : a0.data.toList.drop k = a0[k] :: a0.data.toList.drop (k + 1) := by
          rw [List.drop_eq_getElem_cons (by show k < _; rw [Array.length_toList]; exact hlt)]; rfl
        have hd := Lib.hid hd0
        clear hd0
        have hne := ne_empty (s := a0) (by omega)
        have he : ((k : Int) == (a0.size : Int)) = false := by simp; omega
        have hk8 : 0 ≤ (a0[k].toNat : Int) ∧ (a0[k].toNat : Int) ≤ 255 := ⟨by omega, by have := a0[k].toNat_lt; omega⟩
        obtain ⟨k0, k8⟩ := hk8
        by_cases hb : (a0[k].toNat : Int) < 48
        · go_wp2
          try rw [Exit.noGoto_ret]
          go_ret2
          exact ⟨numRet (by rw [← hx.out, hd.out, numGo, if_pos (by omega)]) (by rw [numB_short (by rw [← hx.out, hd.out, numGo, if_pos (by omega)]; show k < _; rw [Array.length_toList]; exact hlt)]), Below.refl _ _⟩
        · by_cases hc : 57 < (a0[k].toNat : Int)
          · go_wp2
            try rw [Exit.noGoto_ret]
            go_ret2
            exact ⟨numRet (by rw [← hx.out, hd.out, numGo, if_pos (by omega)]) (by rw [numB_short (by rw [← hx.out, hd.out, numGo, if_pos (by omega)]; show k < _; rw [Array.length_toList]; exact hlt)]), Below.refl _ _⟩
          · by_cases hm : 1099511627776 < x
            · go_wp2
              try rw [Exit.noGoto_ret]
              go_ret2
              exact ⟨numRet (by rw [← hx.out, hd.out, numGo, if_pos (by omega)]) (by rw [numB_short (by rw [← hx.out, hd.out, numGo, if_pos (by omega)]; show k < _; rw [Array.length_toList]; exact hlt)]), Below.refl _ _⟩
            · have hw : IntKind.i64.wrap (10 * x) = 10 * x := IntWalk.i64_in _ (by omega)
              go_wp2
              go_round
              case rel => exact ⟨k + 1, 10 * x + ((a0[k].toNat : Int) - 48), by omega, by go_num, rfl, by go_num, ⟨by omega, by omega⟩, Lib.hid (by rw [← hx.out, hd.out, numGo, if_neg (by omega)])⟩
              case measure => simp [intOf]; omega
      · obtain rfl : k = a0.size := by omega
        have hdn : a0.data.toList.drop a0.size = [] := List.drop_eq_nil_of_le (by rw [Array.length_toList]; exact Nat.le_refl _)
        have hx' := Lib.hid (show numGo 0 0 a0.data.toList = (x, a0.size) by rw [← hx.out, hdn, numGo])
        clear hdn hx
        by_cases hz : a0.size = 0
        · have hne : a0.toList.isEmpty = true := by rw [ByteArray.toList_eq, is_empty hz]; rfl
          go_wp2
          try rw [Exit.noGoto_ret]
          go_ret2
          exact ⟨numRet (by rw [hx'.out]) (by rw [is_empty hz]; rfl), Below.refl _ _⟩
        · have hne := ne_empty (s := a0) (by omega)
          have h0 : 0 < a0.size := by omega
          have hnb := Lib.hid (numB_end h0 hx'.out)
          by_cases h48 : (a0[0].toNat : Int) = 48
          · have h48b : ((a0[0].toNat : Int) != 48) = false := by simp [h48]
            go_wp2
            try rw [Exit.noGoto_ret]
            go_ret2
            exact ⟨numRet (by rw [hx'.out]) (by rw [hnb.out, h48b]; rfl), Below.refl _ _⟩
          · have h48b : ((a0[0].toNat : Int) != 48) = true := by simp [h48]
            go_wp2
            try rw [Exit.noGoto_ret]
            go_ret2
            exact ⟨numRet (by rw [hx'.out]) (by rw [hnb.out, h48b]; rfl), Below.refl _ _⟩
  · cases h


/-! ### slices_Index_string_string: function 44 -/
def slices_Index_string_string.l0 : Nat → List ByteArray → ByteArray → Int → Int → Option (Int)
  | 0, _, _, _, _ => none
  | k + 1, x0, x1, x7, x8 => if x8 < x7 then (if 0 ≤ x8 then (if x8 < (x0.length : Int) then (if x1.toList = (rdOf ByteArray.empty x0 x8).toList then (some x8) else (slices_Index_string_string.l0 k x0 x1 x7 (wrap64 (x8 + 1)))) else (none)) else (none)) else (some (-1))
def slices_Index_string_string.f (k : Nat) (l0 : List ByteArray) (a1 : ByteArray) : Option (Int) := slices_Index_string_string.l0 k l0 a1 (l0.length : Int) 0
theorem slices_Index_string_string.mono_l : ∀ k, (∀ y0 y1 y2 y3, LeO (slices_Index_string_string.l0 k y0 y1 y2 y3) (slices_Index_string_string.l0 (k + 1) y0 y1 y2 y3))
  | 0 => fun _ _ _ _ r h => by simp [slices_Index_string_string.l0] at h
  | k + 1 => by
    have ih0 := slices_Index_string_string.mono_l k
    · intro y0 y1 y2 y3
      unfold slices_Index_string_string.l0
      repeat' first
      | (with_reducible exact ih0 _ _ _ _)
      | (with_reducible exact LeO.refl _)
      | (with_reducible exact LeO.none _)
      | (with_reducible refine LeO.ite ?_ ?_)
      | (with_reducible refine LeO.bind ?_ (fun _ => ?_))
      | exact ih0 _ _ _ _
      | exact LeO.none _
      | refine LeO.ite ?_ ?_
      | refine LeO.bind ?_ (fun _ => ?_)
theorem slices_Index_string_string.mono : ∀ a0 a1 k, LeO (slices_Index_string_string.f k a0 a1) (slices_Index_string_string.f (k + 1) a0 a1) := by
  intro a0 a1 k
  have ih0 := slices_Index_string_string.mono_l k
  unfold slices_Index_string_string.f
  repeat' first
      | (with_reducible exact ih0 _ _ _ _)
      | (with_reducible exact LeO.refl _)
      | (with_reducible exact LeO.none _)
      | (with_reducible refine LeO.ite ?_ ?_)
      | (with_reducible refine LeO.bind ?_ (fun _ => ?_))
      | exact ih0 _ _ _ _
      | exact LeO.none _
      | refine LeO.ite ?_ ?_
      | refine LeO.bind ?_ (fun _ => ?_)
set_option maxHeartbeats 8000000 in
set_option maxRecDepth 100000 in
theorem slices_Index_string_string.calls (k : Nat) (A0 : Option Addr) (c0 : Nat) (l0 : List ByteArray) (a1 : ByteArray) (r : Int) (w : World) (hr0 : Kd.C Kd.string w A0 l0.length l0) (hc0 : l0.length ≤ c0) (h : slices_Index_string_string.f k l0 a1 = some r) :
    Calls Tryd.prog 44 #[.slice A0 l0.length c0, .string a1] w fun e w' => e = .returned (.int .i64 r) ∧ Drawn0 w w' := by
  have HR0 := Aside0.mk hr0
  have HC0 := Aside0.mk hc0
  clear hr0 hc0
  have H : (slices_Index_string_string.l0 k l0 a1 (l0.length : Int) 0) = some r := h
  clear h
  have H' := Aside0.mk H
  clear H
  go_enter Tryd.func44, Tryd.ntmps44
  go_wp2
  go_loopg [8] k (fun kq v8 w' => ∃ (x8_1 : Int), v8 = .int .i64 x8_1 ∧ Aside0 (slices_Index_string_string.l0 kq l0 a1 (l0.length : Int) x8_1 = some r) ∧ Aside0 (kq ≤ k) ∧ Drawn0 w w')
  case atStart => exact ⟨(0), (by first | rfl | (simp; done) | (simp [*]; done)), H', ⟨Nat.le_refl _⟩, by repeat (first | exact Drawn0.refl _ | apply Drawn0.step)⟩
  case round =>
    clear H'
    try clear p2
    obtain ⟨x8_1, rfl, HA, HK1, ⟨m1, rfl⟩⟩ := hrel
    cases gk with
    | zero => exact absurd HA.out (by simp [slices_Index_string_string.l0])
    | succ k1 =>
      have H := HA.out
      clear HA
      simp only [slices_Index_string_string.l0] at H
      by_cases c3 : x8_1 < (l0.length : Int)
      · rw [if_pos c3] at H
        have c3b0 : decide (x8_1 < (l0.length : Int)) = true := decide_eq_true c3
        clear c3
        by_cases c4 : 0 ≤ x8_1
        · rw [if_pos c4] at H
          have c4b0 : decide (0 ≤ x8_1) = true := decide_eq_true c4
          clear c4
          by_cases c5 : x8_1 < (l0.length : Int)
          · rw [if_pos c5] at H
            have c5b0 : decide (x8_1 < (l0.length : Int)) = true := decide_eq_true c5
            clear c5
            by_cases c6 : a1.toList = (rdOf ByteArray.empty l0 x8_1).toList
            · rw [if_pos c6] at H
              have c6b0 : (a1.toList == (rdOf ByteArray.empty l0 x8_1).toList) = true := beq_iff_eq.mpr c6
              have c6b1 : (a1.toList != (rdOf ByteArray.empty l0 x8_1).toList) = false := bne_eq_false_iff_eq.mpr c6
              clear c6
              obtain rfl := Option.some.inj H
              have p121 : 0 ≤ (x8_1 : Int) := of_decide_eq_true (by first | (with_reducible assumption) | assumption)
              have q121 : x8_1 < (l0.length : Int) := of_decide_eq_true (by first | (with_reducible assumption) | assumption)
              obtain ⟨ad121, e121, hx121_0⟩ := Kd.at_string HR0.out x8_1 p121 q121
              cases e121
              replace p121 := eq_true p121
              replace q121 := eq_true q121
              go_wp2
              go_ret
              exact ⟨by first | rfl | (simp; done) | (simp [*]; done), by repeat (first | exact Drawn0.refl _ | apply Drawn0.step)⟩
            · rw [if_neg c6] at H
              have c6b0 : (a1.toList == (rdOf ByteArray.empty l0 x8_1).toList) = false := beq_eq_false_iff_ne.mpr c6
              have c6b1 : (a1.toList != (rdOf ByteArray.empty l0 x8_1).toList) = true := bne_iff_ne.mpr c6
              have H' := Aside0.mk H
              clear H
              have p121 : 0 ≤ (x8_1 : Int) := of_decide_eq_true (by first | (with_reducible assumption) | assumption)
              have q121 : x8_1 < (l0.length : Int) := of_decide_eq_true (by first | (with_reducible assumption) | assumption)
              obtain ⟨ad121, e121, hx121_0⟩ := Kd.at_string HR0.out x8_1 p121 q121
              cases e121
              replace p121 := eq_true p121
              replace q121 := eq_true q121
              go_wp2
              go_roundg k1
              case measure => have := HK1.out; omega
              case rel => exact ⟨(wrap64 (x8_1 + 1)), (by first | rfl | (simp; done) | (simp [*]; done)), H', ⟨by have := HK1.out; omega⟩, by repeat (first | exact Drawn0.refl _ | apply Drawn0.step)⟩
          · rw [if_neg c5] at H
            exact absurd H (by simp)
        · rw [if_neg c4] at H
          exact absurd H (by simp)
      · rw [if_neg c3] at H
        have c3b0 : decide (x8_1 < (l0.length : Int)) = false := decide_eq_false c3
        clear c3
        obtain rfl := Option.some.inj H
        go_wp2
        go_ret
        exact ⟨by first | rfl | (simp; done) | (simp [*]; done), by repeat (first | exact Drawn0.refl _ | apply Drawn0.step)⟩

end Go.Proofs.YtnohbjgmldjbmaaDoor.P
