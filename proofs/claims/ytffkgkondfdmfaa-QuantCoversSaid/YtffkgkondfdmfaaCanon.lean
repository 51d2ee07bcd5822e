/- Plain law: canonical functions, the raw rows of Quant rise. No program. -/
import Derived.Test.YtffkgkondfdmfaaQuant
set_option linter.unusedVariables false
set_option linter.unusedSimpArgs false
namespace Go.Proofs.Ytffkgkondfdmfaa
open Go.RowKit

/-- Canonical behind p. -/
def canon : Sg → List Sg → Prop
  | _, [] => True
  | p, s :: l => sgOk s = true ∧ vEq s.m s.c p.m p.c = false ∧ p.t < s.t ∧ canon s l
def p0 : Sg := ⟨-1125899906842625, 0, 0⟩
theorem oddOf_iff {p s : Sg} : oddOf p s = false ↔ sgOk s = true ∧ vEq s.m s.c p.m p.c = false ∧ p.t < s.t := by
  unfold oddOf
  cases sgOk s <;> cases vEq s.m s.c p.m p.c <;> simp
theorem canon_at : ∀ (l : List Sg) (p : Sg), canon p l ↔ ∀ k (h : k < l.length), oddOf (if k = 0 then p else l.getD (k - 1) p) l[k] = false
  | [], p => by simp [canon]
  | s :: l, p => by
    rw [canon, canon_at l s]
    constructor
    · rintro ⟨h1, h2, h3, h4⟩ k hk
      match k with
      | 0 => exact oddOf_iff.2 ⟨h1, h2, h3⟩
      | k + 1 =>
        have h5 := h4 k (by simpa using hk)
        have hk' : k < l.length := by simpa using hk
        cases k with
        | zero => simpa using h5
        | succ k =>
          have : k < l.length := by omega
          simpa [List.getD_eq_getElem?_getD, this] using h5
    · intro h
      obtain ⟨h1, h2, h3⟩ := oddOf_iff.1 (h 0 (by simp))
      refine ⟨h1, h2, h3, fun k hk => ?_⟩
      have h5 := h (k + 1) (by simpa using hk)
      cases k with
      | zero => simpa using h5
      | succ k =>
        have : k < l.length := by omega
        simpa [List.getD_eq_getElem?_getD, this] using h5
theorem may_canon {l : List Sg} : may l = true ↔ canon p0 l := by
  rw [canon_at, may, List.all_eq_true]
  have key : ∀ k (h : k < l.length), prv l k = (if k = 0 then p0 else l.getD (k - 1) p0) := fun k h => rfl
  constructor
  · intro h k hk
    have := h k (by simpa using hk)
    rw [oddAt_lt l k hk, key k hk] at this
    simpa using this
  · intro h k hk
    have hk : k < l.length := by simpa using hk
    rw [oddAt_lt l k hk, key k hk, h k hk]; rfl

theorem canon_rises : ∀ {l : List Sg} {p : Sg}, canon p l → l.Pairwise (fun a b => a.t < b.t) ∧ ∀ s ∈ l, p.t < s.t
  | [], _, _ => by simp
  | s :: l, p, h => by
    obtain ⟨h1, h2, h3, h4⟩ := h
    obtain ⟨i1, i2⟩ := canon_rises h4
    refine ⟨List.pairwise_cons.2 ⟨i2, i1⟩, fun x hx => ?_⟩
    rcases List.mem_cons.1 hx with rfl | hx
    · exact h3
    · have := i2 x hx; omega
theorem may_rises {l : List Sg} (h : may l = true) : l.Pairwise (fun a b => a.t < b.t) := (canon_rises (may_canon.1 h)).1
theorem may_lt {l : List Sg} (h : may l = true) {i j : Nat} (hj : j < l.length) (hi : i < j) : (l[i]'(by omega)).t < l[j].t := List.pairwise_iff_getElem.1 (may_rises h) i j (by omega) hj hi

theorem rises_snoc {r : List Sg} {x : Sg} (h : Rises r) (hx : ∀ s ∈ r, s.t ≤ x.t) : Rises (r ++ [x]) := by
  intro i j hj hi
  by_cases h1 : j < r.length
  · have := h i j h1 hi
    rw [List.getElem_append_left h1, List.getElem_append_left (by omega)]; exact this
  · have hj2 : j = r.length := by simp at hj; omega
    subst hj2
    by_cases h2 : i < r.length
    · rw [List.getElem_append_left h2]
      simpa using hx _ (List.getElem_mem h2)
    · have : i = r.length := by omega
      subst this
      simp

theorem dn_le {t q : Int} (h : 1 ≤ q) : dn t q ≤ t ∧ t < dn t q + q := by
  have h0 := Int.emod_nonneg t (b := q) (by omega)
  have h1 := Int.emod_lt_of_pos t (b := q) (by omega)
  unfold dn; omega
theorem dn_dvd (t q : Int) : q ∣ dn t q := by
  unfold dn
  exact ⟨t / q, by rw [Int.emod_def]; omega⟩
theorem dvd_step {q a b : Int} (hq : 1 ≤ q) (ha : q ∣ a) (hb : q ∣ b) (h : a < b) : a + q ≤ b := by
  have h1 := Int.le_of_dvd (by omega) (Int.dvd_sub hb ha)
  omega
theorem dn_mono {s t q : Int} (hq : 1 ≤ q) (h : s ≤ t) : dn s q ≤ dn t q := by
  have h1 := dn_le (t := s) hq
  have h2 := dn_le (t := t) hq
  by_cases h3 : dn s q ≤ dn t q
  · exact h3
  · have := dvd_step hq (dn_dvd t q) (dn_dvd s q) (by omega)
    omega

theorem rawSt_rises {l : List Sg} {q : Int} (hm : may l = true) (hq : 1 ≤ q) : ∀ k, k ≤ l.length → Rises (rawSt l q k).1 ∧ (∀ s ∈ (rawSt l q k).1, s.t ≤ (rawSt l q k).2 + q) ∧ (k = 0 ∨ ∃ h : k - 1 < l.length, (rawSt l q k).2 = dn l[k - 1].t q)
  | 0, _ => ⟨fun i j hj _ => absurd hj (by simp [rawSt]), by simp [rawSt], .inl rfl⟩
  | k + 1, hk => by
    obtain ⟨i1, i2, i3⟩ := rawSt_rises hm hq k (by omega)
    have hkl : k < l.length := by omega
    by_cases hs : dn l[k].t q = (rawSt l q k).2
    · rw [rawSt_same hkl hs]
      exact ⟨i1, i2, .inr ⟨hkl, hs.symm⟩⟩
    · rw [rawSt_new hkl hs]
      have hle : ∀ s ∈ (rawSt l q k).1, s.t ≤ dn l[k].t q := by
        intro s hs'
        have h1 := i2 s hs'
        rcases i3 with rfl | ⟨h, e⟩
        · simp [rawSt] at hs'
        · by_cases hk0 : k = 0
          · subst hk0; simp [rawSt] at hs'
          have hlt := may_lt hm hkl (i := k - 1) (by omega)
          have hm1 := dn_mono hq (Int.le_of_lt hlt)
          rw [← e] at hm1
          have : (rawSt l q k).2 + q ≤ dn l[k].t q := dvd_step hq (by rw [e]; exact dn_dvd _ _) (dn_dvd _ _) (by omega)
          omega
      refine ⟨?_, ?_, .inr ⟨hkl, rfl⟩⟩
      · have e : (rawSt l q k).1 ++ [pt l q (dn l[k].t q), pt l q (dn l[k].t q + q)] = ((rawSt l q k).1 ++ [pt l q (dn l[k].t q)]) ++ [pt l q (dn l[k].t q + q)] := by simp
        show Rises ((rawSt l q k).1 ++ [pt l q (dn l[k].t q), pt l q (dn l[k].t q + q)])
        rw [e]
        refine rises_snoc (rises_snoc i1 hle) fun s hs => ?_
        simp only [List.mem_append, List.mem_singleton] at hs
        show s.t ≤ dn l[k].t q + q
        rcases hs with hs | rfl
        · have := hle s hs; omega
        · show dn l[k].t q ≤ _; omega
      · intro s hs
        simp only [List.mem_append, List.mem_cons, List.not_mem_nil, or_false] at hs
        show s.t ≤ dn l[k].t q + q
        rcases hs with hs | rfl | rfl
        · have := hle s hs; omega
        · show dn l[k].t q ≤ _; omega
        · exact Int.le_refl _
theorem raw_rises {l : List Sg} {q : Int} (hm : may l = true) (hq : 1 ≤ q) : Rises (rawL l q) := (rawSt_rises hm hq l.length (Nat.le_refl _)).1

/-- quant.Quant. -/
theorem quant_any (l : List Sg) (A : Option Addr) (n c : Nat) (q : Int) (w : World) (hn : Hid (l.length = n)) (hnm : n ≤ 100000000000) (hS : SliceAt w A (segCells l)) :
    Calls Try.prog 14 #[.slice A n c, .int .i64 q] w (QuantPost w (quantS l q).1 (quantS l q).2) := by
  have hf := fits_ok l A n c q w hn (by omega) hS
  unfold quantS
  by_cases h0 : fitS l q = 0
  · have hfz : may l = true ∧ mayB q = true ∧ nearB l = true := by
      unfold fitS at h0
      cases h1 : may l <;> cases h2 : mayB q <;> cases h3 : nearB l <;> simp_all
    have hq' : 1 ≤ q ∧ q ≤ 4096 := by simpa [mayB] using hfz.2.1
    rw [h0] at hf
    rw [if_pos h0]
    refine (quant_loop l A n c q w hn hnm hS hfz.2.1 hfz.1 hfz.2.2 (raw_rises hfz.1 hq'.1) _ _ (Lib.hid rfl) (Lib.hid rfl) hf).mono ?_
    intro e w' h
    split at h
    · rename_i hs
      rw [if_pos hs]
      exact h
    · rename_i hs
      rw [if_neg hs]
      exact h
  · rw [if_neg h0]
    refine quant_bad _ q _ w ?_ hf
    show fitS l q = 5 ∨ fitS l q = 2 ∨ fitS l q = 10
    unfold fitS at h0 ⊢
    cases h1 : may l <;> cases h2 : mayB q <;> cases h3 : nearB l <;> simp_all
end Go.Proofs.Ytffkgkondfdmfaa
