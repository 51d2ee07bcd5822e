/- Plain law: atV between points; the max over a window's runs. -/
import Derived.Test.YtffkgkondfdmfaaTot
set_option linter.unusedVariables false
set_option linter.unusedSimpArgs false
namespace Go.Proofs.Ytffkgkondfdmfaa
open Go.RowKit

/-- Where no run starts the value stands. -/
theorem val_const : ∀ (l : List Sg) (v : Int × Int) (x y : Int), (∀ s ∈ l, (s.t ≤ x ↔ s.t ≤ y)) → val v l x = val v l y
  | [], _, _, _, _ => rfl
  | s :: l, v, x, y, h => by
    have h1 := h s (by simp)
    rw [val_cons, val_cons]
    by_cases hx : s.t ≤ x
    · rw [if_pos hx, if_pos (h1.1 hx)]; exact val_const l _ x y (fun s' hs' => h s' (by simp [hs']))
    · rw [if_neg hx, if_neg (fun hy => hx (h1.2 hy))]; exact val_const l _ x y (fun s' hs' => h s' (by simp [hs']))
theorem atV_const {l : List Sg} {x y : Int} (h : ∀ s ∈ l, (s.t ≤ x ↔ s.t ≤ y)) : atV l x = atV l y := val_const l (0, 0) x y h

theorem runs_le (pr : Int × Int → Int) (z from_ to : Int) : ∀ (l : List Sg) (t m c : Int), l.Pairwise (fun a b => a.t < b.t) → (∀ s ∈ l, t < s.t) → from_ ≤ t → t < to →
    ((∀ r ∈ runsGo from_ to t m c l, pr (r.m, r.c) ≤ z) ↔ ∀ x, t ≤ x → x < to → pr (val (m, c) l x) ≤ z)
  | [], t, m, c, _, _, _, ht => by
    constructor
    · intro h x _ _
      exact h ⟨m, c, to - t⟩ (by simp [runsGo])
    · intro h r hr
      have : r = ⟨m, c, to - t⟩ := by simpa [runsGo] using hr
      subst this
      exact h t (Int.le_refl _) ht
  | s :: l, t, m, c, hp, hl, hf, ht => by
    have hp1 := List.pairwise_cons.1 hp
    have hs := hl s (by simp)
    by_cases h : to ≤ s.t
    · rw [runsGo_skip (.inr h), runs_le pr z from_ to l t m c hp1.2 (fun x hx => hl x (by simp [hx])) hf ht]
      constructor
      · intro h1 x h2 h3
        rw [val_cons, if_neg (by omega)]; exact h1 x h2 h3
      · intro h1 x h2 h3
        have := h1 x h2 h3
        rw [val_cons, if_neg (by omega)] at this; exact this
    · rw [runsGo_take (by omega)]
      have ih := runs_le pr z from_ to l s.t s.m s.c hp1.2 hp1.1 (by omega) (by omega)
      have hkeep : ∀ x, x < s.t → val (m, c) (s :: l) x = (m, c) := fun x hx => val_keep _ _ _ (fun y hy => by
        rcases List.mem_cons.1 hy with rfl | hy
        · exact hx
        · have := hp1.1 y hy; omega)
      constructor
      · intro h1 x h2 h3
        by_cases hx : s.t ≤ x
        · rw [val_cons, if_pos hx]
          exact ih.1 (fun r hr => h1 r (by simp [hr])) x hx h3
        · rw [hkeep x (by omega)]
          exact h1 ⟨m, c, s.t - t⟩ (by simp)
      · intro h1 r hr
        rcases List.mem_cons.1 hr with rfl | hr
        · have := h1 t (Int.le_refl _) ht
          rw [hkeep t hs] at this; exact this
        · refine ih.2 (fun x h2 h3 => ?_) r hr
          have := h1 x (by omega) h3
          rw [val_cons, if_pos h2] at this; exact this

theorem runsL_le (pr : Int × Int → Int) (z : Int) {l : List Sg} (hp : l.Pairwise (fun a b => a.t < b.t)) (a b : Int) (hab : a < b) :
    (∀ r ∈ runsL l a b, pr (r.m, r.c) ≤ z) ↔ ∀ x, a ≤ x → x < b → pr (atV l x) ≤ z := by
  obtain ⟨i1, i2, i3⟩ := drop_facts a l (0, 0) hp
  unfold runsL
  rw [i1, runs_le pr z a b _ a _ _ (dropWhile_pairwise hp) i3 (Int.le_refl _) hab]
  constructor
  · intro h x h1 h2
    have := h x h1 h2
    have e := i2 x h1
    show pr (val (0, 0) l x) ≤ z
    rw [e]; exact this
  · intro h x h1 h2
    have := h x h1 h2
    have e := i2 x h1
    have this : pr (val (0, 0) l x) ≤ z := this
    rw [e] at this; exact this

theorem maxF_le (z : Int) : ∀ (rs : List Rn) (v : Int × Int), ((maxF v rs).1 ≤ z ↔ v.1 ≤ z ∧ ∀ r ∈ rs, r.m ≤ z) ∧ ((maxF v rs).2 ≤ z ↔ v.2 ≤ z ∧ ∀ r ∈ rs, r.c ≤ z)
  | [], v => by simp [maxF]
  | r :: rs, v => by
    obtain ⟨h1, h2⟩ := maxF_le z rs (maxStep v r)
    have e : maxF v (r :: rs) = maxF (maxStep v r) rs := rfl
    rw [e, h1, h2]
    constructor
    · show max v.1 r.m ≤ z ∧ _ ↔ _
      rw [Int.max_le]; simp [and_assoc]
    · show max v.2 r.c ≤ z ∧ _ ↔ _
      rw [Int.max_le]; simp [and_assoc]

/-- The window's max. -/
def hi (l : List Sg) (a b : Int) : Int × Int := maxF (atV l a) (runsL l a b)
theorem hi_le {l : List Sg} (hp : l.Pairwise (fun a b => a.t < b.t)) {a b : Int} (hab : a < b) (z : Int) :
    ((hi l a b).1 ≤ z ↔ ∀ x, a ≤ x → x < b → (atV l x).1 ≤ z) ∧ ((hi l a b).2 ≤ z ↔ ∀ x, a ≤ x → x < b → (atV l x).2 ≤ z) := by
  obtain ⟨h1, h2⟩ := maxF_le z (runsL l a b) (atV l a)
  have k1 := runsL_le (·.1) z hp a b hab
  have k2 := runsL_le (·.2) z hp a b hab
  unfold hi
  rw [h1, h2]
  exact ⟨⟨fun h => k1.1 h.2, fun h => ⟨h a (Int.le_refl _) hab, k1.2 h⟩⟩, ⟨fun h => k2.1 h.2, fun h => ⟨h a (Int.le_refl _) hab, k2.2 h⟩⟩⟩
/-- Two windows with the same upper bounds have the same max. -/
theorem eq_of_le {a b : Int} (h : ∀ z, a ≤ z ↔ b ≤ z) : a = b := by
  have h1 := (h b).2 (Int.le_refl _)
  have h2 := (h a).1 (Int.le_refl _)
  omega
end Go.Proofs.Ytffkgkondfdmfaa
