/- Plain law: what the raw rows of Quant say at each time. -/
import Derived.Test.YtffkgkondfdmfaaFold
set_option linter.unusedVariables false
set_option linter.unusedSimpArgs false
namespace Go.Proofs.Ytffkgkondfdmfaa
open Go.RowKit

theorem dn_eq {x b q : Int} (hq : 1 ≤ q) (hb : q ∣ b) (h1 : b ≤ x) (h2 : x < b + q) : dn x q = b := by
  have hd := dn_le (t := x) hq
  by_cases h : dn x q = b
  · exact h
  · rcases Int.lt_or_gt_of_ne h with h | h
    · have := dvd_step hq (dn_dvd x q) hb h; omega
    · have := dvd_step hq hb (dn_dvd x q) h; omega

theorem hi_const {l : List Sg} (hp : l.Pairwise (fun a b => a.t < b.t)) {a b : Int} (hab : a < b) {v : Int × Int} (h : ∀ x, a ≤ x → x < b → atV l x = v) : hi l a b = v := by
  have e1 : (hi l a b).1 = v.1 := eq_of_le fun z => by
    rw [(hi_le hp hab z).1]
    exact ⟨fun h1 => by have := h1 a (Int.le_refl _) hab; rw [h a (Int.le_refl _) hab] at this; exact this, fun h1 x h2 h3 => by rw [h x h2 h3]; exact h1⟩
  have e2 : (hi l a b).2 = v.2 := eq_of_le fun z => by
    rw [(hi_le hp hab z).2]
    exact ⟨fun h1 => by have := h1 a (Int.le_refl _) hab; rw [h a (Int.le_refl _) hab] at this; exact this, fun h1 x h2 h3 => by rw [h x h2 h3]; exact h1⟩
  exact Prod.ext e1 e2

def blockHi (l : List Sg) (q x : Int) : Int × Int := hi l (dn x q) (dn x q + q)

theorem atV_zero {l : List Sg} {x : Int} (h : ∀ s ∈ l, x < s.t) : atV l x = (0, 0) := val_keep l x (0, 0) h

structure RawInv (l : List Sg) (q : Int) (k : Nat) (r : List Sg) (last : Int) : Prop where
  zero : k = 0 → r = []
  back : 1 ≤ k → ∃ h : k - 1 < l.length, last = dn l[k - 1].t q
  low : 1 ≤ k → ∀ x, x < last + 2 * q → atV r x = blockHi l q x
  high : 1 ≤ k → ∀ x, last + q ≤ x → atV r x = hi l (last + q) (last + q + q)

theorem raw_inv {l : List Sg} {q : Int} (hm : may l = true) (hq : 1 ≤ q) (hq2 : q ≤ 4096) (hn : ∀ s ∈ l, -1099511627776 ≤ s.t) : ∀ k, k ≤ l.length → RawInv l q k (rawSt l q k).1 (rawSt l q k).2
  | 0, _ => ⟨fun _ => rfl, fun h => absurd h (by omega), fun h => absurd h (by omega), fun h => absurd h (by omega)⟩
  | k + 1, hk => by
    have I := raw_inv hm hq hq2 hn k (by omega)
    have hp := may_rises hm
    have hkl : k < l.length := by omega
    have hmono : ∀ {i j : Nat} (hj : j < l.length) (hi : i < j), (l[i]'(by omega)).t < l[j].t := fun hj hi => may_lt hm hj hi
    by_cases hs : dn l[k].t q = (rawSt l q k).2
    · rw [rawSt_same hkl hs]
      by_cases h0 : k = 0
      · subst h0
        have h1 := hn l[0] (List.getElem_mem hkl)
        have h2 := dn_le (t := l[0].t) hq
        have h3 : dn l[0].t q = -1125899906842624 := hs
        omega
      · exact ⟨fun h => absurd h (by omega), fun _ => ⟨hkl, hs.symm⟩, fun _ => I.low (by omega), fun _ => I.high (by omega)⟩
    · rw [rawSt_new hkl hs]
      have hat : ∀ x, atV ((rawSt l q k).1 ++ [pt l q (dn l[k].t q), pt l q (dn l[k].t q + q)]) x = if dn l[k].t q + q ≤ x then hi l (dn l[k].t q + q) (dn l[k].t q + q + q) else if dn l[k].t q ≤ x then hi l (dn l[k].t q) (dn l[k].t q + q) else atV (rawSt l q k).1 x := by
        intro x
        have e : (rawSt l q k).1 ++ [pt l q (dn l[k].t q), pt l q (dn l[k].t q + q)] = ((rawSt l q k).1 ++ [pt l q (dn l[k].t q)]) ++ [pt l q (dn l[k].t q + q)] := by simp
        rw [e, atV_snoc, atV_snoc]
        rfl
      have hd := dn_dvd l[k].t q
      have hle := dn_le (t := l[k].t) hq
      generalize ha : dn l[k].t q = a at *
      refine ⟨fun h => absurd h (by omega), fun _ => ⟨hkl, ha.symm⟩, fun _ x hx => ?_, fun _ x hx => ?_⟩
      · show atV _ x = _
        rw [hat]
        unfold blockHi
        by_cases h1 : a + q ≤ x
        · rw [if_pos h1, dn_eq hq (Int.dvd_add hd (Int.dvd_refl q)) h1 (by show x < a + q + q; have : x < a + 2 * q := hx; omega)]
        · rw [if_neg h1]
          by_cases h2 : a ≤ x
          · rw [if_pos h2, dn_eq hq hd h2 (by omega)]
          · rw [if_neg h2]
            have hdx := dn_le (t := x) hq
            have hxa : dn x q + q ≤ a := dvd_step hq (dn_dvd x q) hd (by omega)
            by_cases h0 : k = 0
            · subst h0
              rw [I.zero rfl, hi_const hp (by omega) (v := (0, 0)) (fun y h3 h4 => atV_zero fun s hs' => ?_)]
              · rfl
              · obtain ⟨i, hi, rfl⟩ := List.getElem_of_mem hs'
                by_cases hi0 : i = 0
                · subst hi0; omega
                · have := hmono hi (i := 0) (by omega); omega
            · obtain ⟨hb1, hb2⟩ := I.back (by omega)
              by_cases h3 : x < (rawSt l q k).2 + 2 * q
              · exact I.low (by omega) x h3
              · rw [I.high (by omega) x (by omega)]
                have hprev := dn_le (t := l[k - 1].t) hq
                rw [← hb2] at hprev
                have hno : ∀ y, (rawSt l q k).2 + q ≤ y → y < a → atV l y = atV l ((rawSt l q k).2 + q) := fun y h4 h5 => (atV_const fun s hs' => by
                  obtain ⟨i, hi, rfl⟩ := List.getElem_of_mem hs'
                  by_cases hik : i < k
                  · have : l[i].t ≤ l[k - 1].t := by
                      by_cases e : i = k - 1
                      · subst e; exact Int.le_refl _
                      · exact Int.le_of_lt (hmono hb1 (by omega))
                    omega
                  · have : l[k].t ≤ l[i].t := by
                      by_cases e : i = k
                      · subst e; exact Int.le_refl _
                      · exact Int.le_of_lt (hmono hi (by omega))
                    omega)
                have hdl : (rawSt l q k).2 + q ≤ dn x q := by
                  have := dvd_step hq (a := (rawSt l q k).2) (b := dn x q) (by rw [hb2]; exact dn_dvd _ _) (dn_dvd x q) (by omega)
                  exact this
                rw [hi_const hp (by omega) (fun y h4 h5 => hno y h4 (by omega)), hi_const hp (by omega) (fun y h4 h5 => hno y (by omega) (by omega))]
      · show atV _ x = _
        have hx : a + q ≤ x := hx
        rw [hat, if_pos hx]

/-- What the raw rows say at x is the max of the block of x. -/
theorem raw_val {l : List Sg} {q : Int} (hm : may l = true) (hq : 1 ≤ q) (hq2 : q ≤ 4096) (hn : ∀ s ∈ l, -1099511627776 ≤ s.t) (x : Int) : atV (rawL l q) x = blockHi l q x := by
  have I := raw_inv hm hq hq2 hn l.length (Nat.le_refl _)
  have hp := may_rises hm
  have hdx := dn_le (t := x) hq
  unfold rawL
  by_cases h0 : l.length = 0
  · have hl : l = [] := List.eq_nil_of_length_eq_zero h0
    rw [I.zero h0]
    unfold blockHi
    rw [hi_const hp (by omega) (v := (0, 0)) (fun y _ _ => by rw [hl]; rfl)]
    rfl
  · obtain ⟨hb1, hb2⟩ := I.back (by omega)
    by_cases h3 : x < (rawSt l q l.length).2 + 2 * q
    · exact I.low (by omega) x h3
    · rw [I.high (by omega) x (by omega)]
      have hprev := dn_le (t := l[l.length - 1].t) hq
      rw [← hb2] at hprev
      have hno : ∀ y, (rawSt l q l.length).2 + q ≤ y → atV l y = atV l ((rawSt l q l.length).2 + q) := fun y h4 => atV_const fun s hs' => by
        obtain ⟨i, hi, rfl⟩ := List.getElem_of_mem hs'
        have : l[i].t ≤ l[l.length - 1].t := by
          by_cases e : i = l.length - 1
          · subst e; exact Int.le_refl _
          · exact Int.le_of_lt (may_lt hm hb1 (by omega))
        omega
      have hdl : (rawSt l q l.length).2 + q ≤ dn x q := dvd_step hq (by rw [hb2]; exact dn_dvd _ _) (dn_dvd x q) (by omega)
      unfold blockHi
      rw [hi_const hp (by omega) (fun y h4 _ => hno y h4), hi_const hp (by omega) (fun y h4 _ => hno y (by omega))]

/-- What Quant says at x. -/
theorem quant_val {l : List Sg} {q : Int} (hm : may l = true) (hq : 1 ≤ q) (hq2 : q ≤ 4096) (hn : ∀ s ∈ l, -1099511627776 ≤ s.t) (hok : ∀ s ∈ rawL l q, sgOk s = true) (x : Int) : atV (ofL (rawL l q)) x = blockHi l q x := by
  rw [ofL_val (raw_rises hm hq) hok, raw_val hm hq hq2 hn]

/-- The max is not below. -/
theorem blockHi_ge {l : List Sg} {q : Int} (hm : may l = true) (hq : 1 ≤ q) (x : Int) : (atV l x).1 ≤ (blockHi l q x).1 ∧ (atV l x).2 ≤ (blockHi l q x).2 := by
  have hd := dn_le (t := x) hq
  have h := fun z => hi_le (may_rises hm) (a := dn x q) (b := dn x q + q) (by omega) z
  unfold blockHi
  exact ⟨(h _).1.1 (Int.le_refl _) x hd.1 hd.2, (h _).2.1 (Int.le_refl _) x hd.1 hd.2⟩

/-- Canonical functions with the same values are the same. -/
theorem canon_ext : ∀ (f g : List Sg) (p : Sg), canon p f → canon p g → (∀ x, p.t < x → val (p.m, p.c) f x = val (p.m, p.c) g x) → f = g
  | [], [], _, _, _, _ => rfl
  | [], s :: g, p, _, hg, h => by
    have h1 := h s.t hg.2.2.1
    have hr := canon_rises hg.2.2.2
    rw [val_cons, if_pos (Int.le_refl _), val_keep g s.t _ hr.2] at h1
    have h2 : (p.m, p.c) = (s.m, s.c) := h1
    have := hg.2.1
    simp only [Prod.mk.injEq] at h2
    simp [vEq, h2.1, h2.2] at this
  | s :: f, [], p, hf, _, h => by
    have h1 := h s.t hf.2.2.1
    have hr := canon_rises hf.2.2.2
    rw [val_cons, if_pos (Int.le_refl _), val_keep f s.t _ hr.2] at h1
    have h2 : (s.m, s.c) = (p.m, p.c) := h1
    have := hf.2.1
    simp only [Prod.mk.injEq] at h2
    simp [vEq, h2.1, h2.2] at this
  | s :: f, u :: g, p, hf, hg, h => by
    have rf := canon_rises hf.2.2.2
    have rg := canon_rises hg.2.2.2
    have hst : s.t = u.t := by
      rcases Int.lt_trichotomy s.t u.t with hlt | he | hgt
      · have h1 := h s.t hf.2.2.1
        rw [val_cons, if_pos (Int.le_refl _), val_keep f s.t _ rf.2, val_keep (u :: g) s.t _ (fun y hy => by
          rcases List.mem_cons.1 hy with rfl | hy
          · exact hlt
          · have := rg.2 y hy; omega)] at h1
        have := hf.2.1
        simp only [Prod.mk.injEq] at h1
        simp [vEq, h1.1, h1.2] at this
      · exact he
      · have h1 := h u.t hg.2.2.1
        rw [val_cons _ u, if_pos (Int.le_refl _), val_keep g u.t _ rg.2, val_keep (s :: f) u.t _ (fun y hy => by
          rcases List.mem_cons.1 hy with rfl | hy
          · exact hgt
          · have := rf.2 y hy; omega)] at h1
        have := hg.2.1
        simp only [Prod.mk.injEq] at h1
        simp [vEq, h1.1, h1.2] at this
    have hsv : (s.m, s.c) = (u.m, u.c) := by
      have h1 := h s.t hf.2.2.1
      rw [val_cons, if_pos (Int.le_refl _), val_keep f s.t _ rf.2, val_cons, if_pos (by omega), val_keep g s.t _ (fun y hy => by have := rg.2 y hy; omega)] at h1
      exact h1
    have hsu : s = u := by
      simp only [Prod.mk.injEq] at hsv
      cases s; cases u; simp_all
    subst hsu
    rw [canon_ext f g s hf.2.2.2 hg.2.2.2 (fun x hx => by
      have h1 := h x (by have := hf.2.2.1; omega)
      rw [val_cons, if_pos (by omega), val_cons, if_pos (by omega)] at h1
      exact h1)]
theorem may_ext {f g : List Sg} (hf : may f = true) (hg : may g = true) (h : ∀ x, atV f x = atV g x) : f = g :=
  canon_ext f g p0 (may_canon.1 hf) (may_canon.1 hg) (fun x _ => h x)
end Go.Proofs.Ytffkgkondfdmfaa
