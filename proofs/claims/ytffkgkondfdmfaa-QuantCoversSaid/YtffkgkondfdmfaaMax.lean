/- vec.Max, span.more, slices.Min and Max, span.in. -/
import Derived.Test.YtffkgkondfdmfaaVec
import Derived.Deep.QuietTactic
import Derived.BigQuiet
import Derived.Deep.RegionWith
set_option linter.unusedVariables false
set_option linter.unusedSimpArgs false
namespace Go.Proofs.Ytffkgkondfdmfaa
open Go.RowKit Go.Shelf

/-! ### the builtins max and min of two -/
theorem max2_int (k k' : IntKind) (x y : Int) : Builtin.max2 (.int k x) (.int k' y) = pure (.int k (max x y)) := by
  simp only [Builtin.max2, gt_iff_lt]
  by_cases h : x < y
  · rw [if_pos h, show max x y = y by omega]
  · rw [if_neg h, show max x y = x by omega]
theorem min2_int (k k' : IntKind) (x y : Int) : Builtin.min2 (.int k x) (.int k' y) = pure (.int k (min x y)) := by
  simp only [Builtin.min2]
  by_cases h : y < x
  · rw [if_pos h, show min x y = y by omega]
  · rw [if_neg h, show min x y = x by omega]
theorem max_two (ats : Array TypeId) (ty : TypeId) (a b : Value) : Builtin.max_ ats ty #[a, b] = (Builtin.max2 a b >>= fun s => pure s) := by simp only [Builtin.max_, List.foldlM_cons, List.foldlM_nil]
theorem min_two (ats : Array TypeId) (ty : TypeId) (a b : Value) : Builtin.min_ ats ty #[a, b] = (Builtin.min2 a b >>= fun s => pure s) := by simp only [Builtin.min_, List.foldlM_cons, List.foldlM_nil]
attribute [local go_sem] max2_int min2_int max_two min_two

theorem max1 (x y : Int) (w : World) : Calls Try.prog 51 #[.int .i64 x, .int .i64 y] w fun e w' => e = .returned (.int .i64 (max x y)) ∧ w' = w := by
  go_enter Try.func51, Try.ntmps51
  go_wp2
  go_ret
  exact ⟨rfl, rfl⟩

/-! ### vec -/
theorem both_any (g : Nat) (eg : Ent g) (f : Int → Int → Int) (hdo : ∀ x y W, Calls Try.prog g #[.int .i64 x, .int .i64 y] W fun e W' => e = .returned (.int .i64 (f x y)) ∧ W' = W) (a b c d : Int) (w : World) :
    Calls Try.prog 62 #[.agg #[.int .i64 a, .int .i64 b], .agg #[.int .i64 c, .int .i64 d], .func (.func g) #[] #[]] w fun e w' => e = .returned (.tuple #[.int .i64 (f a c), .int .i64 (f b d)]) ∧ Pure w w' := by
  unfold Ent at eg
  go_enter Try.func62, Try.ntmps62
  go_wp2_with fail
  go_quiet ((refine Calls.quiet_of_same (hdo _ _ _)))
  go_wp2
  go_ret2
  exact ⟨rfl, (((Kept.refl _ w).alloc _).alloc _).drewN _⟩

theorem made_any (g : Nat) (eg : Ent g) (f : Int → Int → Int) (hdo : ∀ x y W, Calls Try.prog g #[.int .i64 x, .int .i64 y] W fun e W' => e = .returned (.int .i64 (f x y)) ∧ W' = W) (a b c d : Int) (w : World) :
    Calls Try.prog 50 #[.agg #[.int .i64 a, .int .i64 b], .agg #[.int .i64 c, .int .i64 d], .func (.func g) #[] #[]] w fun e w' => e = .returned (.agg #[.int .i64 (f a c), .int .i64 (f b d)]) ∧ Pure w w' := by
  have hb := fun W => both_any g eg f hdo a b c d W
  go_enter Try.func50, Try.ntmps50
  go_wp2_with fail
  refine (hb _).mono ?_
  rintro e w1 ⟨rfl, hK⟩
  have hb2 := hK.blk (blk_new2 w _ _ _) (fun h => h)
  obtain ⟨c0, c1, f0⟩ := blk2 hb2
  have hz := blk_lt hb2
  go_wp2
  refine bodyPost_ret (v := .agg #[.int .i64 (f a c), .int .i64 (f b d)]) (by simp [results, Try.results50, go_sem, c0, c1]) rfl ⟨rfl, ?_⟩
  exact ((((((Kept.refl _ w).alloc _).alloc _).alloc _).then_ hK (fun _ _ h => h)).setCell (p := ⟨w.heap.size + 1 + 1, 0, none⟩) (.inr (by simp; omega)) _).setCell (p := ⟨w.heap.size + 1 + 1, 1, none⟩) (.inr (by simp; omega)) _

theorem vecMax (a b c d : Int) (w : World) :
    Calls Try.prog 40 #[.agg #[.int .i64 a, .int .i64 b], .agg #[.int .i64 c, .int .i64 d]] w fun e w' => e = .returned (.agg #[.int .i64 (max a c), .int .i64 (max b d)]) ∧ Pure w w' := by
  have hb := fun W => made_any 51 (enters_of Try.func51 (by kernel_rfl) rfl) max max1 a b c d W
  go_enter Try.func40, Try.ntmps40
  go_wp2_with fail
  refine (hb _).mono ?_
  rintro e w1 ⟨rfl, hK⟩
  have hb2 := hK.blk (blk_new2 w _ _ _) (fun h => h)
  obtain ⟨c0, c1, f0⟩ := blk2 hb2
  have hz := blk_lt hb2
  go_wp2
  refine bodyPost_ret (v := .agg #[.int .i64 (max a c), .int .i64 (max b d)]) (by simp [results, Try.results40, go_sem, c0, c1]) rfl ⟨rfl, ?_⟩
  exact ((((((Kept.refl _ w).alloc _).alloc _).alloc _).then_ hK (fun _ _ h => h)).setCell (p := ⟨w.heap.size + 1 + 1, 0, none⟩) (.inr (by simp; omega)) _).setCell (p := ⟨w.heap.size + 1 + 1, 1, none⟩) (.inr (by simp; omega)) _

/-! ### span -/
theorem more_any (a b c d n : Int) (w : World) :
    Calls Try.prog 38 #[.agg #[.int .i64 a, .int .i64 b], .agg #[.int .i64 c, .int .i64 d], .int .i64 n] w fun e w' => e = .returned (.agg #[.int .i64 (wrap64 (a + wrap64 (n * c))), .int .i64 (wrap64 (b + wrap64 (n * d)))]) ∧ Pure w w' := by
  go_enter Try.func38, Try.ntmps38
  go_wp2
  refine bodyPost_ret (v := .agg #[.int .i64 (wrap64 (a + wrap64 (n * c))), .int .i64 (wrap64 (b + wrap64 (n * d)))]) (by simp [results, Try.results38, go_sem]) rfl ⟨rfl, ?_⟩
  exact (((Kept.refl _ w).alloc _).alloc _).alloc _

theorem min_any (l : List Int) (A : Option Addr) (n c : Nat) (w : World) (hn : l.length = n) (hn0 : 0 < n) (hm : n ≤ 9223372036854775807) (hS : SliceAt w A (l.map (Value.int .i64))) :
    Calls Try.prog 57 #[.slice A n c] w fun e w' => (∃ m, e = .returned (.int .i64 m) ∧ m ∈ l ∧ ∀ x ∈ l, m ≤ x) ∧ w' = w := by
  have HN := Lib.hid hn
  have h0l : 0 < l.length := by omega
  obtain ⟨ad, rfl, h1⟩ := int_at hS 0 h0l
  rw [add_zero] at h1
  clear hn
  have hn1 : ¬ ((n : Int) < 1) := by omega
  go_enter Try.func57, Try.ntmps57
  go_wp2
  go_loop [3, 4] (fun v i => ∃ k : Nat, 1 ≤ k ∧ k ≤ n ∧ i = .int .i64 k ∧ ∃ m, v = .int .i64 m ∧ m ∈ l ∧ ∀ j (h : j < l.length), j < k → m ≤ l[j]) (fun _ i => n - (intOf i).toNat)
  case atStart => exact ⟨1, by omega, by omega, rfl, _, rfl, List.getElem_mem _, fun j h hj => by (obtain rfl : j = 0 := by omega); exact Int.le_refl _⟩
  case round =>
    obtain ⟨k, hk1, hk, rfl, m, rfl, hml, hp⟩ := hrel
    have HP := Lib.hid hp
    clear hp h1
    by_cases hlt : k < n
    · have hkl : k < l.length := by have := HN.out; omega
      obtain ⟨ad', e', g1⟩ := int_at hS k hkl
      obtain rfl : ad = ad' := Option.some.inj e'
      clear e'
      go_wp2
      go_round
      case rel =>
        refine ⟨k + 1, by omega, by omega, by go_num, _, rfl, ?_, fun j h hj => ?_⟩
        · rcases Int.le_total m l[k] with h | h
          · first | rw [Int.min_eq_left h] | rw [Int.max_eq_right h]
            first | exact hml | exact List.getElem_mem _
          · first | rw [Int.min_eq_right h] | rw [Int.max_eq_left h]
            first | exact hml | exact List.getElem_mem _
        · rcases Nat.lt_or_ge j k with h' | h'
          · have := HP.out j h h'
            omega
          · obtain rfl : j = k := by omega
            omega
      case measure => simp [intOf]; omega
    · obtain rfl : k = n := by omega
      go_wp2
      go_ret
      refine ⟨⟨m, rfl, hml, fun x hx => ?_⟩, rfl⟩
      obtain ⟨j, hj, rfl⟩ := List.getElem_of_mem hx
      exact HP.out j hj (by have := HN.out; omega)

theorem max_any (l : List Int) (A : Option Addr) (n c : Nat) (w : World) (hn : l.length = n) (hn0 : 0 < n) (hm : n ≤ 9223372036854775807) (hS : SliceAt w A (l.map (Value.int .i64))) :
    Calls Try.prog 58 #[.slice A n c] w fun e w' => (∃ m, e = .returned (.int .i64 m) ∧ m ∈ l ∧ ∀ x ∈ l, x ≤ m) ∧ w' = w := by
  have HN := Lib.hid hn
  have h0l : 0 < l.length := by omega
  obtain ⟨ad, rfl, h1⟩ := int_at hS 0 h0l
  rw [add_zero] at h1
  clear hn
  have hn1 : ¬ ((n : Int) < 1) := by omega
  go_enter Try.func58, Try.ntmps58
  go_wp2
  go_loop [3, 4] (fun v i => ∃ k : Nat, 1 ≤ k ∧ k ≤ n ∧ i = .int .i64 k ∧ ∃ m, v = .int .i64 m ∧ m ∈ l ∧ ∀ j (h : j < l.length), j < k → l[j] ≤ m) (fun _ i => n - (intOf i).toNat)
  case atStart => exact ⟨1, by omega, by omega, rfl, _, rfl, List.getElem_mem _, fun j h hj => by (obtain rfl : j = 0 := by omega); exact Int.le_refl _⟩
  case round =>
    obtain ⟨k, hk1, hk, rfl, m, rfl, hml, hp⟩ := hrel
    have HP := Lib.hid hp
    clear hp h1
    by_cases hlt : k < n
    · have hkl : k < l.length := by have := HN.out; omega
      obtain ⟨ad', e', g1⟩ := int_at hS k hkl
      obtain rfl : ad = ad' := Option.some.inj e'
      clear e'
      go_wp2
      go_round
      case rel =>
        refine ⟨k + 1, by omega, by omega, by go_num, _, rfl, ?_, fun j h hj => ?_⟩
        · rcases Int.le_total m l[k] with h | h
          · first | rw [Int.min_eq_left h] | rw [Int.max_eq_right h]
            first | exact hml | exact List.getElem_mem _
          · first | rw [Int.min_eq_right h] | rw [Int.max_eq_left h]
            first | exact hml | exact List.getElem_mem _
        · rcases Nat.lt_or_ge j k with h' | h'
          · have := HP.out j h h'
            omega
          · obtain rfl : j = k := by omega
            omega
      case measure => simp [intOf]; omega
    · obtain rfl : k = n := by omega
      go_wp2
      go_ret
      refine ⟨⟨m, rfl, hml, fun x hx => ?_⟩, rfl⟩
      obtain ⟨j, hj, rfl⟩ := List.getElem_of_mem hx
      exact HP.out j hj (by have := HN.out; omega)

theorem in_any (l : List Int) (A : Option Addr) (n c : Nat) (w : World) (hn : l.length = n) (hn0 : 0 < n) (hm : n ≤ 9223372036854775807) (hS : SliceAt w A (l.map (Value.int .i64))) :
    Calls Try.prog 46 #[.slice A n c] w fun e w' => e = .returned (.bool (l.all okN)) ∧ w = w' := by
  have hmin := min_any l A n c w hn hn0 hm hS
  have hmax := max_any l A n c w hn hn0 hm hS
  clear hS hn
  go_enter Try.func46, Try.ntmps46
  go_wp2_with fail
  refine hmin.mono ?_
  rintro e w1 ⟨⟨m, rfl, hm1, hm2⟩, rfl⟩
  have HM := Lib.hid hm2
  clear hm2 hmin
  by_cases h : -1125899906842624 ≤ m
  · go_wp2_with fail
    refine hmax.mono ?_
    rintro e w1 ⟨⟨q, rfl, hq1, hq2⟩, rfl⟩
    have HQ := Lib.hid hq2
    clear hq2 hmax
    go_wp2
    go_ret
    refine ⟨?_, rfl⟩
    have : l.all okN = decide (q ≤ 1125899906842624) := by
      rw [Bool.eq_iff_iff, List.all_eq_true, decide_eq_true_iff]
      constructor
      · intro hA
        exact (okN_iff.1 (hA q hq1)).2
      · intro hA x hx
        have h1 := HM.out x hx
        have h2 := HQ.out x hx
        exact okN_iff.2 ⟨by omega, by omega⟩
    rw [this]; rfl
  · have hd : decide (-1125899906842624 ≤ m) = false := by simpa using h
    go_wp2
    go_ret
    refine ⟨?_, rfl⟩
    have : l.all okN = false := by
      rw [List.all_eq_false]
      exact ⟨m, hm1, fun hA => by have := (okN_iff.1 hA).1; omega⟩
    rw [this]; rfl
end Go.Proofs.Ytffkgkondfdmfaa
