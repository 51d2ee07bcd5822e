/- slices.SortStableFunc at rows that rise: nothing turns. -/
import Derived.Test.YtffkgkondfdmfaaSort
import Derived.StillTailTactics
import Derived.Deep.DeepFit
set_option linter.unusedVariables false
set_option linter.unusedSimpArgs false
namespace Go.Proofs.Ytffkgkondfdmfaa
open Go.RowKit Go.Shelf

/-- The row rises (weakly). -/
def Rises (l : List Sg) : Prop := ∀ i j (hj : j < l.length) (hi : i ≤ j), (l[i]'(by omega)).t ≤ l[j].t
theorem cmp_not {l : List Sg} (h : Rises l) {i j : Nat} (hj : j < l.length) (hi : i ≤ j) : ¬ cmpS l[j] (l[i]'(by omega)) < 0 := by
  have := h i j hj hi
  unfold cmpS
  rw [if_neg (by omega)]
  split <;> omega

set_option maxHeartbeats 1000000 in
theorem insertion_any (v : Value) (l : List Sg) (A : Option Addr) (n c a b : Nat) (w : World) (hn : Hid (l.length = n)) (hm : n ≤ 1152921504606846976) (hr : Rises l) (hS : SliceAt w A (segCells l)) (hab : a ≤ b) (hb : b ≤ n) :
    Calls Try.prog 66 #[.slice A n c, .int .i64 a, .int .i64 b, .func (.func 55) #[v] #[]] w fun e w' => e = .returned (.tuple #[]) ∧ Pure w w' := by
  go_enter Try.func66, Try.ntmps66
  go_wp2
  go_loopw [8, 9] (fun i _ wr => ∃ k : Nat, a + 1 ≤ k ∧ (k ≤ b ∨ k = a + 1) ∧ i = .int .i64 k ∧ Pure w wr) (fun i _ _ => b - (intOf i).toNat)
  case atStart => exact ⟨a + 1, Nat.le_refl _, .inr rfl, by go_num, Kept.refl _ _⟩
  case round =>
    obtain ⟨k, hk1, hk2, rfl, hK⟩ := hrel
    by_cases hlt : k < b
    · have hkl : k < l.length := by have := hn.out; omega
      obtain ⟨i, rfl⟩ : ∃ i, k = i + 1 := ⟨k - 1, by omega⟩
      have hil : i < l.length := by omega
      obtain ⟨ad, rfl, g1, g2, g3⟩ := seg_at (hS.pure hK) (i + 1) hkl
      obtain ⟨ad', e', q1, q2, q3⟩ := seg_at (hS.pure hK) i hil
      obtain rfl : ad = ad' := Option.some.inj e'
      clear e'
      go_wp2
      refine wp_loop_rounds 1 ?_
      rw [rounds_succ]
      have b1 : (i : Int) < n := by omega
      have b2 : (i : Int) + 1 < n := by omega
      have b3 : IntKind.i64.wrap (i : Int) = i := IntWalk.i64_in _ (by omega)
      have b4 : ((i : Int) + 1).toNat = i + 1 := by omega
      have b5 : (0 : Int) ≤ (i : Int) + 1 := by omega
      have b6 : (a : Int) < (i : Int) + 1 := by omega
      have hcmp := fun W => compare_any v l[i + 1] l[i] W
      unfold sgVal at hcmp
      go_wp2_with fail
      have hg : decide ((a : Int) < (i : Int) + 1) = true := by simpa using b6
      go_still_tail 14, (by kernel_rfl)
      change wpList _ _ _ _ _ wr.drew
      clear b3 b4
      have hc := cmp_not hr hkl (Nat.le_succ i)
      go_wp2_with fail
      refine (hcmp _).mono ?_
      rintro e w1 ⟨rfl, hK1⟩
      have hP : Pure w w1 := hK.drew.then_ hK1 (fun _ _ h => h)
      clear hcmp
      go_wp2
      go_roundw
      case rel => exact ⟨i + 1 + 1, by omega, .inl (by omega), by go_num, hP⟩
      case measure => simp [intOf]; omega
    · go_wp2
      go_end0
      exact ⟨rfl, hK⟩
/-- What symMerge does on a row that rises. -/
def SymOk (v : Value) (l : List Sg) (A : Option Addr) (n c a m b : Nat) (w : World) : Prop :=
  Calls Try.prog 67 #[.slice A n c, .int .i64 a, .int .i64 m, .int .i64 b, .func (.func 55) #[v] #[]] w fun e w' => e = .returned (.tuple #[]) ∧ Pure w w'

set_option maxHeartbeats 2000000 in
set_option maxRecDepth 100000 in
theorem sym_one (v : Value) (l : List Sg) (A : Option Addr) (n c a m b : Nat) (w : World) (hma : Hid (m = a + 1)) (hn : Hid (l.length = n)) (hm : n ≤ 1152921504606846976) (hr : Rises l) (hS : SliceAt w A (segCells l)) (hab : m < b) (hb : b ≤ n) :
    SymOk v l A n c a m b w := by
  unfold SymOk
  have h1 : (((m : Int) - (a : Int)) == 1) = true := by have := hma.out; simp; omega
  have ham : a < m := by have := hma.out; omega
  have ham' : (m : Int) - 1 ≤ a := by have := hma.out; omega
  go_enter Try.func67, Try.ntmps67
  go_wp2
  go_loopw [10, 11, 12] (fun i j _ wr => ∃ k : Nat, m ≤ k ∧ k ≤ b ∧ i = .int .i64 m ∧ j = .int .i64 k ∧ Pure w wr) (fun _ j _ _ => (intOf j).toNat)
  case atStart => exact ⟨b, by omega, by omega, rfl, rfl, Kept.refl _ _⟩
  case round =>
    obtain ⟨k, hk1, hk2, rfl, rfl, hK⟩ := hrel
    by_cases hlt : m < k
    · obtain ⟨h, hh⟩ : ∃ h, (m + k) / 2 = h := ⟨_, rfl⟩
      have hh1 : m ≤ h := by omega
      have hh2 : h < k := by omega
      have hhl : h < l.length := by have := hn.out; omega
      have hal : a < l.length := by omega
      obtain ⟨ad, rfl, g1, g2, g3⟩ := seg_at (hS.pure hK) h hhl
      obtain ⟨ad', e', q1, q2, q3⟩ := seg_at (hS.pure hK) a hal
      obtain rfl : ad = ad' := Option.some.inj e'
      have e1 : ((m : Int) + (k : Int)) / 2 = (h : Int) := by omega
      have b1 : (h : Int) < n := by omega
      have b2 : (a : Int) < n := by omega
      clear e' hh
      have hcmp := fun W => compare_any v l[h] l[a] W
      unfold sgVal at hcmp
      go_wp2
      go_still_tail 9, (by kernel_rfl)
      change wpList _ _ _ _ _ wr.drew
      have hc := cmp_not hr hhl (show a ≤ h by omega)
      go_wp2_with fail
      refine (hcmp _).mono ?_
      rintro e w1 ⟨rfl, hK1⟩
      have hP : Pure w w1 := hK.drew.then_ hK1 (fun _ _ h => h)
      clear hcmp
      go_wp2
      go_roundw
      case rel => exact ⟨h, by omega, by omega, rfl, rfl, hP⟩
      case measure => simp [intOf]; omega
    · obtain rfl : k = m := by omega
      go_wp2
      refine wp_loop_rounds 1 ?_
      rw [rounds_succ]
      go_wp2
      refine bodyPost_ret (results_none rfl _ _ _) rfl ⟨rfl, hK⟩

set_option maxHeartbeats 2000000 in
set_option maxRecDepth 100000 in
theorem sym_last (v : Value) (l : List Sg) (A : Option Addr) (n c a m b : Nat) (w : World) (hmb : Hid (b = m + 1)) (hn : Hid (l.length = n)) (hm : n ≤ 1152921504606846976) (hr : Rises l) (hS : SliceAt w A (segCells l)) (ham : a + 1 < m) (hb : b ≤ n) :
    SymOk v l A n c a m b w := by
  unfold SymOk
  have h0 : (((m : Int) - (a : Int)) == 1) = false := by simp; omega
  have h1 : (((b : Int) - (m : Int)) == 1) = true := by have := hmb.out; simp; omega
  have hmb' : m < b := by have := hmb.out; omega
  go_enter Try.func67, Try.ntmps67
  go_wp2
  go_loopw [14, 15, 16] (fun i j _ wr => ∃ k : Nat, a ≤ k ∧ k ≤ m ∧ i = .int .i64 k ∧ j = .int .i64 m ∧ Pure w wr) (fun i _ _ _ => m - (intOf i).toNat)
  case atStart => exact ⟨a, by omega, by omega, rfl, rfl, Kept.refl _ _⟩
  case round =>
    obtain ⟨k, hk1, hk2, rfl, rfl, hK⟩ := hrel
    by_cases hlt : k < m
    · obtain ⟨h, hh⟩ : ∃ h, (k + m) / 2 = h := ⟨_, rfl⟩
      have hh1 : k ≤ h := by omega
      have hh2 : h < m := by omega
      have hml : m < l.length := by have := hn.out; omega
      have hhl : h < l.length := by omega
      obtain ⟨ad, rfl, g1, g2, g3⟩ := seg_at (hS.pure hK) h hhl
      obtain ⟨ad', e', q1, q2, q3⟩ := seg_at (hS.pure hK) m hml
      obtain rfl : ad = ad' := Option.some.inj e'
      have e1 : ((k : Int) + (m : Int)) / 2 = (h : Int) := by omega
      have b1 : (h : Int) < n := by omega
      have b2 : (m : Int) < n := by omega
      clear e' hh
      have hcmp := fun W => compare_any v l[m] l[h] W
      unfold sgVal at hcmp
      go_wp2
      go_still_tail 9, (by kernel_rfl)
      change wpList _ _ _ _ _ wr.drew
      have hc := cmp_not hr hml (show h ≤ m by omega)
      have hcd : decide (cmpS l[m] l[h] < 0) = false := decide_eq_false hc
      clear hc
      go_wp2_with fail
      refine (hcmp _).mono ?_
      rintro e w1 ⟨rfl, hK1⟩
      have hP : Pure w w1 := hK.drew.then_ hK1 (fun _ _ h => h)
      clear hcmp
      go_wp2
      go_roundw
      case rel => exact ⟨h + 1, by omega, by omega, by go_num, rfl, hP⟩
      case measure => simp [intOf]; omega
    · obtain rfl : k = m := by omega
      go_wp2
      refine wp_loop_rounds 1 ?_
      rw [rounds_succ]
      go_wp2
      refine bodyPost_ret (results_none rfl _ _ _) rfl ⟨rfl, hK⟩
set_option maxHeartbeats 4000000 in
set_option maxRecDepth 100000 in
theorem sym_right (v : Value) (l : List Sg) (A : Option Addr) (n c a m b mid : Nat) (w : World) (hn : Hid (l.length = n)) (hm : n ≤ 1152921504606846976) (hr : Rises l) (hS : SliceAt w A (segCells l))
    (ham : a + 1 < m) (hmb : m + 1 < b) (hb : b ≤ n) (hmid : Hid ((a + b) / 2 = mid)) (hcase : mid < m)
    (ih : ∀ a' m' b' w', a' < m' → m' < b' → b' ≤ n → b' - a' < b - a → SliceAt w' A (segCells l) → SymOk v l A n c a' m' b' w') :
    SymOk v l A n c a m b w := by
  unfold SymOk
  have h0 : (((m : Int) - (a : Int)) == 1) = false := by simp; omega
  have h1 : (((b : Int) - (m : Int)) == 1) = false := by simp; omega
  have hmid1 : a < mid := by have := hmid.out; omega
  have hmid2 : mid < b := by have := hmid.out; omega
  have hmid3 : 2 * mid ≤ a + b ∧ a + b ≤ 2 * mid + 1 := by have := hmid.out; omega
  obtain ⟨hmid4, hmid5⟩ := hmid3
  have e0 : ((a : Int) + (b : Int)) / 2 = (mid : Int) := by omega
  have hd0 : decide ((mid : Int) < (m : Int)) = true := by simp; omega
  go_enter Try.func67, Try.ntmps67
  go_wp2
  go_loopw [20, 21, 23] (fun i j _ wr => ∃ k : Nat, (mid + m - b) ≤ k ∧ k ≤ mid ∧ i = .int .i64 k ∧ j = .int .i64 mid ∧ Pure w wr) (fun i _ _ _ => mid - (intOf i).toNat)
  case atStart => exact ⟨(mid + m - b), by omega, by omega, by congr 1; omega, rfl, Kept.refl _ _⟩
  case round =>
    obtain ⟨k, hk1, hk2, rfl, rfl, hK⟩ := hrel
    by_cases hlt : k < mid
    · obtain ⟨h, hh⟩ : ∃ h, (k + mid) / 2 = h := ⟨_, rfl⟩
      have hh1 : k ≤ h := by omega
      have hh2 : h < mid := by omega
      obtain ⟨q, hq⟩ : ∃ q, mid + m - 1 - h = q := ⟨_, rfl⟩
      have hq1 : h ≤ q := by omega
      have hql : q < l.length := by have := hn.out; omega
      have hhl : h < l.length := by omega
      obtain ⟨ad, rfl, g1, g2, g3⟩ := seg_at (hS.pure hK) q hql
      obtain ⟨ad', e', q1, q2, q3⟩ := seg_at (hS.pure hK) h hhl
      obtain rfl : ad = ad' := Option.some.inj e'
      have e1 : ((k : Int) + (mid : Int)) / 2 = (h : Int) := by omega
      have e2 : (mid : Int) + (m : Int) - 1 - (h : Int) = (q : Int) := by omega
      have b1 : (h : Int) < n := by omega
      have b2 : (q : Int) < n := by have := hn.out; omega
      have b3 : IntKind.i64.wrap (q : Int) = q := IntWalk.i64_in _ (by omega)
      have b4 : IntKind.i64.wrap ((mid : Int) + (m : Int) - 1 - (h : Int)) = q := by rw [e2]; exact b3
      clear e' hh hq
      have hcmp := fun W => compare_any v l[q] l[h] W
      unfold sgVal at hcmp
      go_wp2
      go_still_tail 11, (by kernel_rfl)
      change wpList _ _ _ _ _ wr.drew
      clear b3 b4
      have hcd : decide (cmpS l[q] l[h] < 0) = false := decide_eq_false (cmp_not hr hql hq1)
      go_wp2_with fail
      refine (hcmp _).mono ?_
      rintro e w1 ⟨rfl, hK1⟩
      have hP : Pure w w1 := hK.drew.then_ hK1 (fun _ _ h => h)
      clear hcmp
      go_wp2
      go_roundw
      case rel => exact ⟨h + 1, by omega, by omega, by go_num, rfl, hP⟩
      case measure => simp [intOf]; omega
    · obtain rfl : mid = k := by omega
      have hrec := ih mid m b wr (by omega) (by omega) (by omega) (by omega) (hS.pure hK)
      unfold SymOk at hrec
      have t0 : (mid : Int) + (m : Int) - (mid : Int) = m := by omega
      go_wp2_with fail
      refine hrec.mono ?_
      rintro e w1 ⟨rfl, hK1⟩
      go_wp2
      go_end0
      exact ⟨rfl, hK.trans hK1⟩

set_option maxHeartbeats 4000000 in
set_option maxRecDepth 100000 in
theorem sym_left (v : Value) (l : List Sg) (A : Option Addr) (n c a m b mid : Nat) (w : World) (hn : Hid (l.length = n)) (hm : n ≤ 1152921504606846976) (hr : Rises l) (hS : SliceAt w A (segCells l))
    (ham : a + 1 < m) (hmb : m + 1 < b) (hb : b ≤ n) (hmid : Hid ((a + b) / 2 = mid)) (hcase : m ≤ mid)
    (ih : ∀ a' m' b' w', a' < m' → m' < b' → b' ≤ n → b' - a' < b - a → SliceAt w' A (segCells l) → SymOk v l A n c a' m' b' w') :
    SymOk v l A n c a m b w := by
  unfold SymOk
  have h0 : (((m : Int) - (a : Int)) == 1) = false := by simp; omega
  have h1 : (((b : Int) - (m : Int)) == 1) = false := by simp; omega
  have hmid1 : a < mid := by have := hmid.out; omega
  have hmid2 : mid < b := by have := hmid.out; omega
  have hmid3 : 2 * mid ≤ a + b ∧ a + b ≤ 2 * mid + 1 := by have := hmid.out; omega
  obtain ⟨hmid4, hmid5⟩ := hmid3
  have e0 : ((a : Int) + (b : Int)) / 2 = (mid : Int) := by omega
  have hd0 : decide (mid < m) = false := decide_eq_false (by omega)
  go_enter Try.func67, Try.ntmps67
  go_wp2
  go_loopw [20, 21, 23] (fun i j _ wr => ∃ k : Nat, a ≤ k ∧ k ≤ m ∧ i = .int .i64 k ∧ j = .int .i64 m ∧ Pure w wr) (fun i _ _ _ => m - (intOf i).toNat)
  case atStart => exact ⟨a, by omega, by omega, rfl, rfl, Kept.refl _ _⟩
  case round =>
    obtain ⟨k, hk1, hk2, rfl, rfl, hK⟩ := hrel
    by_cases hlt : k < m
    · obtain ⟨h, hh⟩ : ∃ h, (k + m) / 2 = h := ⟨_, rfl⟩
      have hh1 : k ≤ h := by omega
      have hh2 : h < m := by omega
      obtain ⟨q, hq⟩ : ∃ q, mid + m - 1 - h = q := ⟨_, rfl⟩
      have hq1 : h ≤ q := by omega
      have hql : q < l.length := by have := hn.out; omega
      have hhl : h < l.length := by omega
      obtain ⟨ad, rfl, g1, g2, g3⟩ := seg_at (hS.pure hK) q hql
      obtain ⟨ad', e', q1, q2, q3⟩ := seg_at (hS.pure hK) h hhl
      obtain rfl : ad = ad' := Option.some.inj e'
      have e1 : ((k : Int) + (m : Int)) / 2 = (h : Int) := by omega
      have e2 : (mid : Int) + (m : Int) - 1 - (h : Int) = (q : Int) := by omega
      have b1 : (h : Int) < n := by omega
      have b2 : (q : Int) < n := by have := hn.out; omega
      have b3 : IntKind.i64.wrap (q : Int) = q := IntWalk.i64_in _ (by omega)
      have b4 : IntKind.i64.wrap ((mid : Int) + (m : Int) - 1 - (h : Int)) = q := by rw [e2]; exact b3
      clear e' hh hq
      have hcmp := fun W => compare_any v l[q] l[h] W
      unfold sgVal at hcmp
      go_wp2
      go_still_tail 11, (by kernel_rfl)
      change wpList _ _ _ _ _ wr.drew
      clear b3 b4
      have hcd : decide (cmpS l[q] l[h] < 0) = false := decide_eq_false (cmp_not hr hql hq1)
      go_wp2_with fail
      refine (hcmp _).mono ?_
      rintro e w1 ⟨rfl, hK1⟩
      have hP : Pure w w1 := hK.drew.then_ hK1 (fun _ _ h => h)
      clear hcmp
      go_wp2
      go_roundw
      case rel => exact ⟨h + 1, by omega, by omega, by go_num, rfl, hP⟩
      case measure => simp [intOf]; omega
    · obtain rfl : m = k := by omega
      have t0 : (mid : Int) + (m : Int) - (m : Int) = mid := by omega
      by_cases hmm : m < mid
      · have hrec := ih a m mid wr (by omega) (by omega) (by omega) (by omega) (hS.pure hK)
        unfold SymOk at hrec
        go_wp2_with fail
        refine hrec.mono ?_
        rintro e w1 ⟨rfl, hK1⟩
        go_wp2
        go_end0
        exact ⟨rfl, hK.trans hK1⟩
      · go_wp2
        go_end0
        exact ⟨rfl, hK⟩

theorem sym_all (v : Value) (l : List Sg) (A : Option Addr) (n c : Nat) (hn : Hid (l.length = n)) (hm : n ≤ 1152921504606846976) (hr : Rises l) :
    ∀ (d a m b : Nat) (w : World), b - a ≤ d → a < m → m < b → b ≤ n → SliceAt w A (segCells l) → SymOk v l A n c a m b w := by
  intro d
  induction d with
  | zero => intro a m b w h1 h2 h3; omega
  | succ d ih =>
    intro a m b w h1 h2 h3 h4 hS
    have ih' : ∀ a' m' b' w', a' < m' → m' < b' → b' ≤ n → b' - a' < b - a → SliceAt w' A (segCells l) → SymOk v l A n c a' m' b' w' := fun a' m' b' w' g1 g2 g3 g4 g5 => ih a' m' b' w' (by omega) g1 g2 g3 g5
    by_cases e1 : m = a + 1
    · exact sym_one v l A n c a m b w e1 hn hm hr hS h3 h4
    · by_cases e2 : b = m + 1
      · exact sym_last v l A n c a m b w e2 hn hm hr hS (by omega) h4
      · by_cases e3 : (a + b) / 2 < m
        · exact sym_right v l A n c a m b _ w hn hm hr hS (by omega) (by omega) h4 rfl e3 ih'
        · exact sym_left v l A n c a m b _ w hn hm hr hS (by omega) (by omega) h4 rfl (by omega) ih'

set_option maxHeartbeats 4000000 in
set_option maxRecDepth 100000 in
theorem stable_any (v : Value) (l : List Sg) (A : Option Addr) (n c : Nat) (w : World) (hn : Hid (l.length = n)) (hm : n ≤ 1152921504606846976) (hr : Rises l) (hS : SliceAt w A (segCells l)) :
    Calls Try.prog 64 #[.slice A n c, .int .i64 n, .func (.func 55) #[v] #[]] w fun e w' => e = .returned (.tuple #[]) ∧ Pure w w' := by
  have hins := fun (a b : Nat) (W : World) (h : SliceAt W A (segCells l)) => insertion_any v l A n c a b W hn hm hr h
  have hsym := fun (a m b : Nat) (W : World) (h1 : a < m) (h2 : m < b) (h3 : b ≤ n) (h : SliceAt W A (segCells l)) => sym_all v l A n c hn hm hr (b - a) a m b W (Nat.le_refl _) h1 h2 h3 h
  unfold SymOk at hsym
  go_enter Try.func64, Try.ntmps64
  go_wp2
  go_loopw [7, 8] (fun i j wr => ∃ k : Nat, k ≤ n ∧ i = .int .i64 k ∧ j = .int .i64 ((k : Int) + 20) ∧ Pure w wr) (fun _ j _ => n + 21 - (intOf j).toNat)
  case atStart => exact ⟨0, Nat.zero_le _, rfl, rfl, Kept.refl _ _⟩
  case round =>
    obtain ⟨k, hk, rfl, rfl, hK⟩ := hrel
    by_cases hlt : k + 20 ≤ n
    · have h1 := hins k (k + 20) wr (hS.pure hK) (by omega) hlt
      clear hins hsym
      go_wp2_with fail
      refine h1.mono ?_
      rintro e w1 ⟨rfl, hK1⟩
      go_wp2
      go_roundw
      case rel => exact ⟨k + 20, hlt, by go_num, by go_num, hK.trans hK1⟩
      case measure => simp [intOf]; omega
    · have h1 := hins k n wr (hS.pure hK) hk (Nat.le_refl _)
      clear hins
      go_wp2_with fail
      refine h1.mono ?_
      rintro e w1 ⟨rfl, hK1⟩
      have hK2 := hK.trans hK1
      clear hK hK1 h1
      go_wp2
      clear hk hlt
      go_loopw [6, 7, 8, 9] (fun q _ _ _ wr => ∃ bs : Nat, 20 ≤ bs ∧ bs ≤ 2305843009213693952 ∧ q = .int .i64 bs ∧ Pure w wr) (fun q _ _ _ _ => n - (intOf q).toNat)
      case atStart => exact ⟨20, by omega, by omega, rfl, hK2⟩
      case round =>
        obtain ⟨bs, hb1, hb2, rfl, hK⟩ := hrel
        clear hK2
        by_cases hlt : bs < n
        · rename_i wx
          go_wp2
          go_loopw [7, 8] (fun i j wr => ∃ k : Nat, k ≤ n ∧ i = .int .i64 k ∧ j = .int .i64 ((k : Int) + 2 * (bs : Int)) ∧ Pure w wr) (fun _ j _ => n + 2 * bs + 1 - (intOf j).toNat)
          case atStart => exact ⟨0, Nat.zero_le _, rfl, by go_num, hK⟩
          case round =>
            obtain ⟨k, hk, rfl, rfl, hKr⟩ := hrel
            clear hK
            by_cases hl2 : k + 2 * bs ≤ n
            · have h1 := hsym k (k + bs) (k + 2 * bs) _ (by omega) (by omega) hl2 (hS.pure hKr)
              clear hsym
              push_cast at h1
              go_wp2_with fail
              refine h1.mono ?_
              rintro e w1 ⟨rfl, hK1⟩
              go_wp2
              go_roundw
              case rel => exact ⟨k + 2 * bs, hl2, by go_num, by go_num, hKr.trans hK1⟩
              case measure => simp [intOf]; omega
            · by_cases hl3 : k + bs < n
              · have h1 := hsym k (k + bs) n _ (by omega) hl3 (Nat.le_refl _) (hS.pure hKr)
                clear hsym
                push_cast at h1
                go_wp2_with fail
                refine h1.mono ?_
                rintro e w1 ⟨rfl, hK1⟩
                go_wp2
                go_roundw
                case rel => exact ⟨bs * 2, by omega, by omega, by go_num, hKr.trans hK1⟩
                case measure => simp [intOf]; omega
              · clear hsym
                go_wp2
                go_roundw
                case rel => exact ⟨bs * 2, by omega, by omega, by go_num, hKr⟩
                case measure => simp [intOf]; omega
        · go_wp2
          go_end0
          exact ⟨rfl, hK⟩

theorem sortStable (v : Value) (l : List Sg) (A : Option Addr) (n c : Nat) (w : World) (hn : Hid (l.length = n)) (hm : n ≤ 1152921504606846976) (hr : Rises l) (hS : SliceAt w A (segCells l)) :
    Calls Try.prog 54 #[.slice A n c, .func (.func 55) #[v] #[]] w fun e w' => e = .returned (.tuple #[]) ∧ Pure w w' := by
  have h := stable_any v l A n c w hn hm hr hS
  go_enter Try.func54, Try.ntmps54
  go_wp2_with fail
  refine h.mono ?_
  rintro e w' ⟨rfl, hK⟩
  go_wp2
  go_end0
  exact ⟨rfl, hK⟩
end Go.Proofs.Ytffkgkondfdmfaa
