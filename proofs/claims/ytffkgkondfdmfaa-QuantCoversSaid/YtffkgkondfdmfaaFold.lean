/- Plain law: rle.Of's fold keeps the values and is canonical. -/
import Derived.Test.YtffkgkondfdmfaaHi
set_option linter.unusedVariables false
set_option linter.unusedSimpArgs false
namespace Go.Proofs.Ytffkgkondfdmfaa
open Go.RowKit

theorem canon_snoc : ∀ (o : List Sg) (p r : Sg), canon p (o ++ [r]) ↔ canon p o ∧ oddOf (o.getLastD p) r = false
  | [], p, r => by
    rw [oddOf_iff]
    show (sgOk r = true ∧ vEq r.m r.c p.m p.c = false ∧ p.t < r.t ∧ True) ↔ True ∧ _
    constructor
    · rintro ⟨a, b, c, _⟩; exact ⟨trivial, a, b, c⟩
    · rintro ⟨_, a, b, c⟩; exact ⟨a, b, c, trivial⟩
  | s :: o, p, r => by
    have ih := canon_snoc o s r
    have e : (s :: o).getLastD p = o.getLastD s := by cases o <;> rfl
    rw [e, List.cons_append, canon, canon, ih]
    constructor
    · rintro ⟨a, b, c, d, f⟩; exact ⟨⟨a, b, c, d⟩, f⟩
    · rintro ⟨⟨a, b, c, d⟩, f⟩; exact ⟨a, b, c, d, f⟩

structure FoldInv (raw : List Sg) (k : Nat) (o : List Sg) (m c : Int) : Prop where
  can : canon p0 o
  last : (o.getLastD p0).m = m ∧ (o.getLastD p0).c = c
  lt : ∀ (h : k < raw.length), ∀ s ∈ o, s.t < raw[k].t
  val : ∀ x, (∀ (h : k < raw.length), (k = 0 ∨ ∃ h' : k - 1 < raw.length, raw[k - 1].t ≠ raw[k].t) ∨ x < raw[k].t) → atV o x = atV (raw.take k) x
  top : ∀ x, (∀ s ∈ o, s.t ≤ x) → atV o x = (m, c)

theorem getLastD_mem_or (o : List Sg) (p : Sg) : o.getLastD p = p ∨ o.getLastD p ∈ o := by
  cases o with
  | nil => exact .inl rfl
  | cons a o => exact .inr (show (a :: o).getLast (by simp) ∈ a :: o from List.getLast_mem _)

theorem fold_inv {raw : List Sg} (hr : Rises raw) (hok : ∀ s ∈ raw, sgOk s = true) : ∀ k, k ≤ raw.length → FoldInv raw k (foldSt raw k).1 (foldSt raw k).2.1 (foldSt raw k).2.2
  | 0, _ => ⟨trivial, ⟨rfl, rfl⟩, fun _ s hs => absurd hs (by simp [foldSt]), fun x _ => rfl, fun x _ => rfl⟩
  | k + 1, hk => by
    have I := fold_inv hr hok k (by omega)
    have hkl : k < raw.length := by omega
    have hnext : ∀ h : k + 1 < raw.length, raw[k].t ≤ raw[k + 1].t := fun h => hr k (k + 1) h (by omega)
    have htk := take_snoc raw k hkl
    have hlt := I.lt hkl
    by_cases hskip : ∃ h : k + 1 < raw.length, raw[k + 1].t = raw[k].t
    · obtain ⟨h, he⟩ := hskip
      rw [foldSt_skip h he]
      refine ⟨I.can, I.last, fun _ s hs => by have := hlt s hs; omega, fun x hx => ?_, I.top⟩
      have hx1 : x < raw[k].t := by
        rcases hx h with (h0 | ⟨_, h1⟩) | h2
        · omega
        · exact absurd he.symm (by simpa using h1)
        · omega
      rw [htk, atV_snoc, if_neg (by omega)]
      exact I.val x (fun _ => .inr hx1)
    · have hput : k + 1 = raw.length ∨ ∃ h : k + 1 < raw.length, raw[k + 1].t ≠ raw[k].t := by
        by_cases h : k + 1 < raw.length
        · exact .inr ⟨h, fun e => hskip ⟨h, e⟩⟩
        · exact .inl (by omega)
      have hlt' : ∀ (h : k + 1 < raw.length), raw[k].t < raw[k + 1].t := fun h => by
        have := hnext h
        have : raw[k + 1].t ≠ raw[k].t := fun e => hskip ⟨h, e⟩
        omega
      rw [foldSt_put hkl hput]
      unfold putStep
      by_cases hv : vEq raw[k].m raw[k].c (foldSt raw k).2.1 (foldSt raw k).2.2 = true
      · rw [if_pos hv]
        have hv' : raw[k].m = (foldSt raw k).2.1 ∧ raw[k].c = (foldSt raw k).2.2 := by simpa [vEq] using hv
        refine ⟨I.can, I.last, fun h s hs => by have := hlt s hs; have := hlt' h; omega, fun x _ => ?_, I.top⟩
        rw [htk, atV_snoc]
        by_cases hx : raw[k].t ≤ x
        · rw [if_pos hx, I.top x (fun s hs => by have := hlt s hs; omega), hv'.1, hv'.2]
        · rw [if_neg hx]; exact I.val x (fun _ => .inr (by omega))
      · rw [if_neg hv]
        have hso := hok raw[k] (List.getElem_mem hkl)
        refine ⟨?_, ?_, fun h s hs => ?_, fun x _ => ?_, fun x hx => ?_⟩
        · refine (canon_snoc _ _ _).2 ⟨I.can, oddOf_iff.2 ⟨hso, ?_, ?_⟩⟩
          · rw [I.last.1, I.last.2]
            simpa using hv
          · rcases getLastD_mem_or (foldSt raw k).1 p0 with e | e
            · rw [e]
              have := (sgOk_iff.1 hso).1
              unfold p0; simp only; omega
            · exact hlt _ e
        · have e : ((foldSt raw k).1 ++ [raw[k]]).getLastD p0 = raw[k] := by simp [List.getLastD_concat]
          show (((foldSt raw k).1 ++ [raw[k]]).getLastD p0).m = raw[k].m ∧ (((foldSt raw k).1 ++ [raw[k]]).getLastD p0).c = raw[k].c
          rw [e]; exact ⟨rfl, rfl⟩
        · have hs : s ∈ (foldSt raw k).1 ∨ s = raw[k] := by simpa using hs
          have h1 := hlt' h
          rcases hs with hs | rfl
          · have := hlt s hs; omega
          · exact h1
        · show atV ((foldSt raw k).1 ++ [raw[k]]) x = _
          rw [htk, atV_snoc, atV_snoc]
          by_cases hx : raw[k].t ≤ x
          · rw [if_pos hx, if_pos hx]
          · rw [if_neg hx, if_neg hx]; exact I.val x (fun _ => .inr (by omega))
        · show atV ((foldSt raw k).1 ++ [raw[k]]) x = _
          have := hx raw[k] (by simp)
          rw [atV_snoc, if_pos this]

theorem ofL_val {raw : List Sg} (hr : Rises raw) (hok : ∀ s ∈ raw, sgOk s = true) (x : Int) : atV (ofL raw) x = atV raw x := by
  have := (fold_inv hr hok raw.length (Nat.le_refl _)).val x (fun h => absurd h (by omega))
  rw [List.take_length] at this
  exact this
theorem ofL_may {raw : List Sg} (hr : Rises raw) (hok : ∀ s ∈ raw, sgOk s = true) : may (ofL raw) = true := may_canon.2 (fold_inv hr hok raw.length (Nat.le_refl _)).can
theorem foldSt_mem (raw : List Sg) : ∀ k, k ≤ raw.length → ∀ s ∈ (foldSt raw k).1, s ∈ raw
  | 0, _, s, hs => absurd hs (by simp [foldSt])
  | k + 1, hk, s, hs => by
    have ih := foldSt_mem raw k (by omega)
    have hkl : k < raw.length := by omega
    have hg : raw.getD k ⟨0, 0, 0⟩ = raw[k] := by simp [List.getD_eq_getElem?_getD, hkl]
    rw [foldSt, hg] at hs
    split at hs
    · unfold putStep at hs
      split at hs
      · exact ih s hs
      · have hs : s ∈ (foldSt raw k).1 ∨ s = raw[k] := by simpa using hs
        rcases hs with hs | rfl
        · exact ih s hs
        · exact List.getElem_mem hkl
    · exact ih s hs
end Go.Proofs.Ytffkgkondfdmfaa
