/- Plain law: what QuantCovers and QuantLeast lean on. -/
import Derived.Test.YtffkgkondfdmfaaRaw
set_option linter.unusedVariables false
set_option linter.unusedSimpArgs false
namespace Go.Proofs.Ytffkgkondfdmfaa
open Go.RowKit

theorem val_ok : ∀ (l : List Sg) (v : Int × Int) (x : Int), okV v.1 v.2 = true → (∀ s ∈ l, sgOk s = true) → okV (val v l x).1 (val v l x).2 = true
  | [], v, _, h, _ => h
  | s :: l, v, x, h, hl => by
    rw [val_cons]
    refine val_ok l _ x ?_ (fun y hy => hl y (by simp [hy]))
    split
    · have := hl s (by simp)
      rw [sgOk, Bool.and_eq_true] at this
      exact this.2
    · exact h
theorem atV_ok {l : List Sg} (hm : may l = true) (x : Int) : okV (atV l x).1 (atV l x).2 = true := val_ok l (0, 0) x (by decide) (may_ok hm)
theorem hi_ok {l : List Sg} (hm : may l = true) {a b : Int} (hab : a < b) : okV (hi l a b).1 (hi l a b).2 = true := by
  have hp := may_rises hm
  have h := fun z => hi_le hp hab z
  have ok := fun x => okV_iff.1 (atV_ok hm x)
  have l1 := (h _).1.1 (Int.le_refl _) a (Int.le_refl _) hab
  have l2 := (h _).2.1 (Int.le_refl _) a (Int.le_refl _) hab
  have u1 := (h 1125899906842624).1.2 (fun x _ _ => (ok x).1.2)
  have u2 := (h 1125899906842624).2.2 (fun x _ _ => (ok x).2.2)
  have o := ok a
  exact okV_iff.2 ⟨⟨by omega, u1⟩, ⟨by omega, u2⟩⟩

theorem raw_mem {l : List Sg} {q : Int} : ∀ k, k ≤ l.length → ∀ s ∈ (rawSt l q k).1, ∃ i, ∃ h : i < l.length, s = pt l q (dn l[i].t q) ∨ s = pt l q (dn l[i].t q + q)
  | 0, _, s, hs => absurd hs (by simp [rawSt])
  | k + 1, hk, s, hs => by
    have ih := raw_mem (l := l) (q := q) k (by omega)
    have hkl : k < l.length := by omega
    by_cases h : dn l[k].t q = (rawSt l q k).2
    · rw [rawSt_same hkl h] at hs; exact ih s hs
    · rw [rawSt_new hkl h] at hs
      simp only [List.mem_append, List.mem_cons, List.not_mem_nil, or_false] at hs
      rcases hs with hs | hs | hs
      · exact ih s hs
      · exact ⟨k, hkl, .inl hs⟩
      · exact ⟨k, hkl, .inr hs⟩
theorem raw_ok {l : List Sg} {q : Int} (hm : may l = true) (hq : 1 ≤ q) (hq2 : q ≤ 4096) (hn : nearB l = true) : ∀ s ∈ rawL l q, sgOk s = true ∧ q ∣ s.t := by
  intro s hs
  obtain ⟨i, hi, h⟩ := raw_mem l.length (Nat.le_refl _) s hs
  have hne : -1099511627776 ≤ l[i].t ∧ l[i].t ≤ 1099511627776 := by
    have := List.all_eq_true.1 hn l[i] (List.getElem_mem _)
    unfold inB near1 at this
    rw [Bool.and_eq_true] at this
    exact ⟨of_decide_eq_true this.1, of_decide_eq_true this.2⟩
  have hd := dn_le (t := l[i].t) hq
  have key : ∀ t, -1200000000000 ≤ t → t ≤ 1200000000000 → sgOk (pt l q t) = true := fun t h1 h2 => by
    rw [sgOk, Bool.and_eq_true]
    exact ⟨okN_iff.2 ⟨by show _ ≤ t; omega, by show t ≤ _; omega⟩, hi_ok hm (by omega)⟩
  rcases h with rfl | rfl
  · exact ⟨key _ (by omega) (by omega), dn_dvd _ _⟩
  · exact ⟨key _ (by omega) (by omega), Int.dvd_add (dn_dvd _ _) (Int.dvd_refl q)⟩

theorem fitS_zero {l : List Sg} {q : Int} (h : fitS l q = 0) : may l = true ∧ (1 ≤ q ∧ q ≤ 4096) ∧ nearB l = true := by
  have hfz : may l = true ∧ mayB q = true ∧ nearB l = true := by
    unfold fitS at h
    cases h1 : may l <;> cases h2 : mayB q <;> cases h3 : nearB l <;> simp_all
  exact ⟨hfz.1, by simpa [mayB] using hfz.2.1, hfz.2.2⟩
theorem near_ge {l : List Sg} (hn : nearB l = true) : ∀ s ∈ l, -1099511627776 ≤ s.t := fun s hs => by
  have := List.all_eq_true.1 hn s hs
  unfold inB near1 at this
  rw [Bool.and_eq_true] at this
  exact of_decide_eq_true this.1

/-- What Quant answers where it answers. -/
theorem quantS_ok {l : List Sg} {q : Int} (h : fitS l q = 0) : quantS l q = (ofL (rawL l q), 0) ∧ may (ofL (rawL l q)) = true ∧ (∀ s ∈ ofL (rawL l q), q ∣ s.t) ∧ ∀ x, atV (ofL (rawL l q)) x = blockHi l q x := by
  obtain ⟨hm, ⟨q1, q2⟩, hn⟩ := fitS_zero h
  have ho := raw_ok hm q1 q2 hn
  refine ⟨?_, ofL_may (raw_rises hm q1) (fun s hs => (ho s hs).1), fun s hs => (ho s (foldSt_mem _ _ (Nat.le_refl _) s hs)).2, fun x => quant_val hm q1 q2 (near_ge hn) (fun s hs => (ho s hs).1) x⟩
  unfold quantS
  rw [if_pos h, if_pos (List.all_eq_true.2 fun s hs => (ho s hs).1)]

/-- A function whose times are multiples of q stands on each block. -/
theorem block_stands {a : List Sg} {q : Int} (hq : 1 ≤ q) (hd : ∀ s ∈ a, q ∣ s.t) {x y : Int} (h : dn x q = dn y q) : atV a x = atV a y := atV_const fun s hs => by
  have h1 := dn_le (t := x) hq
  have h2 := dn_le (t := y) hq
  have hs := hd s hs
  constructor
  · intro h3
    rcases (show dn x q < s.t ∨ s.t ≤ dn x q by omega) with h4 | h4
    · have := dvd_step hq (dn_dvd x q) hs h4; omega
    · omega
  · intro h3
    rcases (show dn y q < s.t ∨ s.t ≤ dn y q by omega) with h4 | h4
    · have := dvd_step hq (dn_dvd y q) hs h4; omega
    · omega
theorem quant_again {a : List Sg} {q : Int} (h : fitS a q = 0) (hd : ∀ s ∈ a, q ∣ s.t) : quantS a q = (a, 0) := by
  obtain ⟨e, hm', _, hv⟩ := quantS_ok h
  obtain ⟨hm, ⟨q1, q2⟩, hn⟩ := fitS_zero h
  rw [e, may_ext hm' hm fun x => ?_]
  rw [hv]
  have hdx := dn_le (t := x) q1
  exact hi_const (may_rises hm) (by omega) fun y h1 h2 => block_stands q1 hd (dn_eq q1 (dn_dvd x q) h1 h2)
theorem quant_one {f : List Sg} (h : fitS f 1 = 0) : quantS f 1 = (f, 0) := quant_again h fun s _ => Int.one_dvd _

/-- The least: where g's times are multiples of q and f is nowhere above g, Quant's answer is nowhere above g. -/
theorem quant_least {f g : List Sg} {q : Int} (h : fitS f q = 0) (hd : ∀ s ∈ g, q ∣ s.t) (hfg : ∀ x, (atV f x).1 ≤ (atV g x).1 ∧ (atV f x).2 ≤ (atV g x).2) (x : Int) :
    (atV (ofL (rawL f q)) x).1 ≤ (atV g x).1 ∧ (atV (ofL (rawL f q)) x).2 ≤ (atV g x).2 := by
  obtain ⟨_, _, _, hv⟩ := quantS_ok h
  obtain ⟨hm, ⟨q1, q2⟩, hn⟩ := fitS_zero h
  rw [hv]
  have hdx := dn_le (t := x) q1
  have hl := fun z => hi_le (may_rises hm) (a := dn x q) (b := dn x q + q) (by omega) z
  unfold blockHi
  refine ⟨(hl _).1.2 fun y h1 h2 => ?_, (hl _).2.2 fun y h1 h2 => ?_⟩
  · rw [block_stands q1 hd (dn_eq q1 (dn_dvd x q) h1 h2).symm]; exact (hfg y).1
  · rw [block_stands q1 hd (dn_eq q1 (dn_dvd x q) h1 h2).symm]; exact (hfg y).2
end Go.Proofs.Ytffkgkondfdmfaa
