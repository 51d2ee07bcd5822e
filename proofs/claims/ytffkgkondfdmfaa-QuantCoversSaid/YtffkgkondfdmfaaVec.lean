/- Package vec, and rle.in: whether numbers, vectors, runs may be. -/
import Derived.Test.YtffkgkondfdmfaaBase
set_option linter.unusedVariables false
set_option linter.unusedSimpArgs false
namespace Go.Proofs.Ytffkgkondfdmfaa
open Go.RowKit Go.Shelf

theorem int_at {w : World} {A : Option Addr} {k : IntKind} {l : List Int} (h : SliceAt w A (l.map (Value.int k))) (i : Nat) (hi : i < l.length) : ∃ ad, A = some ad ∧ w.cell? (ad.add i) = some (.int k l[i]) := by
  obtain ⟨ad, e, hc⟩ := h (fun e => by simp at e; subst e; simp at hi)
  exact ⟨ad, e, hc i _ (by simp [List.getElem?_eq_getElem hi])⟩
theorem SliceAt.blk {w : World} {g : Nat} {t : TypeId} {cs : List Value} {fr : Nat × Nat} (h : w.heap[g]? = some (.cells cs.toArray t fr)) : SliceAt w (some ⟨g, 0, none⟩) cs := fun _ => ⟨_, rfl, fun j u hu => by
  rw [add_plain, blk_cell h]; simpa using hu⟩

def okN (x : Int) : Bool := decide (-1125899906842624 ≤ x) && decide (x ≤ 1125899906842624)
def okV (m c : Int) : Bool := okN m && okN c
def sgOk (s : Sg) : Bool := okN s.t && okV s.m s.c
theorem okN_iff {x : Int} : okN x = true ↔ -1125899906842624 ≤ x ∧ x ≤ 1125899906842624 := by simp [okN]
theorem okV_iff {m c : Int} : okV m c = true ↔ (-1125899906842624 ≤ m ∧ m ≤ 1125899906842624) ∧ (-1125899906842624 ≤ c ∧ c ≤ 1125899906842624) := by simp [okV, okN]
theorem sgOk_iff {s : Sg} : sgOk s = true ↔ (-1125899906842624 ≤ s.t ∧ s.t ≤ 1125899906842624) ∧ (-1125899906842624 ≤ s.m ∧ s.m ≤ 1125899906842624) ∧ (-1125899906842624 ≤ s.c ∧ s.c ≤ 1125899906842624) := by simp [sgOk, okV, okN]

theorem fits_any (l : List Int) (A : Option Addr) (n c : Nat) (w : World) (hn : l.length = n) (hm : n ≤ 9223372036854775807) (hS : SliceAt w A (l.map (Value.int .i64))) :
    Calls Try.prog 63 #[.slice A n c] w fun e w' => e = .returned (.bool (l.all okN)) ∧ w = w' := by
  go_enter Try.func63, Try.ntmps63
  go_wp2
  go_loop [7, 4] (fun i _ => ∃ k : Nat, k ≤ n ∧ i = .int .i64 k ∧ (∀ j (h : j < l.length), j < k → okN l[j] = true)) (fun i _ => n - (intOf i).toNat)
  case atStart => exact ⟨0, Nat.zero_le _, rfl, by simp⟩
  case round =>
    obtain ⟨k, hk, rfl, hp⟩ := hrel
    have HP := Lib.hid hp
    clear hp
    by_cases hlt : k < n
    · obtain ⟨ad, rfl, h1⟩ := int_at hS k (by omega)
      by_cases h2 : l[k] < -1125899906842624
      · go_wp2
        go_ret
        have : l.all okN = false := by
          rw [List.all_eq_false]; exact ⟨l[k], List.getElem_mem _, by simp [okN]; omega⟩
        exact ⟨by rw [this]; rfl, rfl⟩
      · by_cases h3 : 1125899906842624 < l[k]
        · go_wp2
          go_ret
          have : l.all okN = false := by
            rw [List.all_eq_false]; exact ⟨l[k], List.getElem_mem _, by simp [okN]; omega⟩
          exact ⟨by rw [this]; rfl, rfl⟩
        · go_wp2
          go_round
          case rel =>
            refine ⟨k + 1, by omega, by go_num, fun j h hj => ?_⟩
            rcases Nat.lt_or_ge j k with h' | h'
            · exact HP.out j h h'
            · obtain rfl : j = k := by omega
              simp [okN]; omega
          case measure => simp [intOf]; omega
    · obtain rfl : k = n := by omega
      go_wp2
      go_ret
      have : l.all okN = true := by
        rw [List.all_eq_true]; intro x hx
        obtain ⟨j, hj, rfl⟩ := List.getElem_of_mem hx
        exact HP.out j hj (by omega)
      exact ⟨by rw [this]; rfl, rfl⟩

theorem vecMay (m c : Int) (w : World) : Calls Try.prog 52 #[.agg #[.int .i64 m, .int .i64 c]] w fun e w' => e = .returned (.bool (okV m c)) ∧ Pure w w' := by
  have hS : SliceAt ((w.alloc (.cells #[.int .i64 m, .int .i64 c] 35)).alloc (.cells #[.int .i64 m, .int .i64 c] 2)) (some ⟨w.heap.size + 1, 0, none⟩) ([m, c].map (Value.int .i64)) :=
    SliceAt.blk (t := 2) (fr := (0, 0)) (by simpa using blk_new (w.alloc (.cells #[.int .i64 m, .int .i64 c] 35)) (.cells #[.int .i64 m, .int .i64 c] 2))
  go_enter Try.func52, Try.ntmps52
  go_wp2_with fail
  refine (fits_any [m, c] _ _ _ _ rfl (by simp) hS).mono ?_
  rintro e w' ⟨rfl, rfl⟩
  go_wp2
  go_ret
  exact ⟨by simp [okV], ((Kept.refl _ w).alloc _).alloc _⟩

theorem rleIn (s : Sg) (w : World) : Calls Try.prog 42 #[sgVal s] w fun e w' => e = .returned (.bool (sgOk s)) ∧ Pure w w' := by
  unfold sgVal
  by_cases h1 : -1125899906842624 ≤ s.t
  · by_cases h2 : s.t ≤ 1125899906842624
    · go_enter Try.func42, Try.ntmps42
      go_wp2_with fail
      refine (vecMay s.m s.c _).mono ?_
      rintro e w' ⟨rfl, hk⟩
      go_wp2
      go_ret
      exact ⟨by simp [sgOk, okN, h1, h2], ((Kept.refl _ w).alloc _).then_ hk (fun _ _ h => h)⟩
    · have h2' : decide (s.t ≤ 1125899906842624) = false := by simpa using h2
      go_enter Try.func42, Try.ntmps42
      go_wp2
      go_ret
      exact ⟨by simp [sgOk, okN, h2'], ((Kept.refl _ w).alloc _)⟩
  · have h1' : decide (-1125899906842624 ≤ s.t) = false := by simpa using h1
    go_enter Try.func42, Try.ntmps42
    go_wp2
    go_ret
    exact ⟨by simp [sgOk, okN, h1'], ((Kept.refl _ w).alloc _)⟩

/-! ### '==' of vectors and runs -/
def vEq (a b c d : Int) : Bool := a == c && b == d
theorem vEq_iff {a b c d : Int} : vEq a b c d = true ↔ a = c ∧ b = d := by simp [vEq]
theorem eqIn_vec (d : Nat) (w : World) (a b x y : Int) : (Op.equalIn (d + 2) 35 (.agg #[.int .i64 a, .int .i64 b]) (.agg #[.int .i64 x, .int .i64 y])).run Try.prog w = .ok (vEq a b x y) w := by
  unfold vEq
  go_simp
  by_cases h1 : a = x <;> by_cases h2 : b = y <;> simp [h1, h2]
def sEq (a b c x y z : Int) : Bool := a == x && vEq b c y z
theorem sEq_iff {a b c x y z : Int} : sEq a b c x y z = true ↔ a = x ∧ b = y ∧ c = z := by simp [sEq, vEq]
theorem eqIn_seg (d : Nat) (w : World) (a b c x y z : Int) : (Op.equalIn (d + 3) 42 (.agg #[.int .i64 a, .int .i64 b, .int .i64 c]) (.agg #[.int .i64 x, .int .i64 y, .int .i64 z])).run Try.prog w = .ok (sEq a b c x y z) w := by
  unfold sEq vEq
  go_simp
  by_cases h1 : a = x <;> by_cases h2 : b = y <;> by_cases h3 : c = z <;> simp [h1, h2, h3]
end Go.Proofs.Ytffkgkondfdmfaa
