/- Arguments, opened. -/
import Derived.Test.YtffkgkondfdmfaaPost
import Derived.Deep.Slices
import Derived.WideKeyArgs
set_option linter.unusedVariables false
set_option linter.unusedSimpArgs false
namespace Go.Proofs.Ytffkgkondfdmfaa
open Go.ChangeShapes Go.WideShapes Go.ChangeAt Go.RowKit

instance : Inhabited Sg := ⟨⟨0, 0, 0⟩⟩
theorem cellsSeg : Try.prog.cellsOf 42 = 3 := by kernel_rfl
theorem cellsVec : Try.prog.cellsOf 35 = 2 := by kernel_rfl
theorem cellsInt : Try.prog.cellsOf 2 = 1 := by kernel_rfl

section
variable {H : Type} {enc : TypeId × Value → H} {w : World} {base : Nat} {spare : Nat → Bool} {held : Bool}

theorem vec_cells {fuel : Nat} {cs : List Value} {x : DataW H × List MemPlace} (h : DataW.trod enc Try.prog w base spare held fuel 35 cs = some x) : ∃ m c, cs = [.int .i64 m, .int .i64 c] := by
  obtain ⟨xs, n, _, _, hl, hxl, hf⟩ := DataW.trod_struct Try.underlying35 h
  rw [cellsVec] at hl
  match cs, hl with
  | [c0, c1], _ =>
    have h0 : DataW.trod enc Try.prog w base spare held n 2 (([c0, c1].drop 0).take (Try.prog.cellsOf 2)) = xs[0]? := hf 0 _ rfl
    have h1 : DataW.trod enc Try.prog w base spare held n 2 (([c0, c1].drop 1).take (Try.prog.cellsOf 2)) = xs[1]? := hf 1 _ rfl
    rw [cellsInt] at h0 h1
    match xs, hxl with
    | [y0, y1], _ =>
      obtain ⟨m, e0, _⟩ := DataW.trod_int Try.underlying2 h0
      obtain ⟨c, e1, _⟩ := DataW.trod_int Try.underlying2 h1
      simp at e0 e1
      exact ⟨m, c, by rw [e0, e1]⟩

theorem seg_cells {fuel : Nat} {cs : List Value} {x : DataW H × List MemPlace} (h : DataW.trod enc Try.prog w base spare held fuel 42 cs = some x) : ∃ s : Sg, cs = sgCells s := by
  obtain ⟨xs, n, _, _, hl, hxl, hf⟩ := DataW.trod_struct Try.underlying42 h
  rw [cellsSeg] at hl
  match cs, hl with
  | [c0, c1, c2], _ =>
    have h0 : DataW.trod enc Try.prog w base spare held n 2 (([c0, c1, c2].drop 0).take (Try.prog.cellsOf 2)) = xs[0]? := hf 0 _ rfl
    have h1 : DataW.trod enc Try.prog w base spare held n 35 (([c0, c1, c2].drop 1).take (Try.prog.cellsOf 35)) = xs[1]? := hf 1 _ rfl
    rw [cellsInt] at h0
    rw [cellsVec] at h1
    match xs, hxl with
    | [y0, y1], _ =>
      obtain ⟨t, e0, _⟩ := DataW.trod_int Try.underlying2 h0
      obtain ⟨m, c, e1⟩ := vec_cells h1
      simp at e0 e1
      exact ⟨⟨t, m, c⟩, by rw [e0, e1.1, e1.2]; rfl⟩

theorem open_segs {r : Reach} {b0 : Nat} {v : Value} {d : DataW H} {ps : List MemPlace} (hval : Value.okWide Try.prog w r b0 29 v) (h : DataW.Trod enc Try.prog w base spare held 29 v d ps) :
    ∃ (l : List Sg) (A : Option Addr) (n c : Nat), v = .slice A n c ∧ l.length = n ∧ n ≤ maxLen ∧ SliceAt w A (segCells l) := by
  obtain ⟨A, n, c, rfl⟩ := okWide_slice Try.underlying29 hval
  obtain ⟨fuel, hf⟩ := h
  rcases Deep.open_slice Try.underlying29 hf with ⟨hcs, _⟩ | ⟨a, len, cap, m, k, D, Pl, hcs, _, hlc, hcm, hmm, _, hel⟩
  · simp [Value.cells] at hcs
    obtain ⟨rfl, rfl, rfl⟩ := hcs
    exact ⟨[], none, 0, 0, rfl, rfl, Nat.zero_le _, fun h => absurd rfl h⟩
  · simp [Value.cells] at hcs
    obtain ⟨rfl, rfl, rfl⟩ := hcs
    have hnm : n ≤ m := by rw [hmm]; split <;> omega
    have each : ∀ i, i < n → ∃ s : Sg, ∀ k u, (sgCells s)[k]? = some u → w.cell? (a.add (i * 3 + k)) = some u := by
      intro i hi
      obtain ⟨cs', h1, h2⟩ := hel i (by omega)
      obtain ⟨s, rfl⟩ := seg_cells h2
      obtain ⟨_, _, h3⟩ := World.cells?_some h1
      rw [cellsSeg] at h3
      refine ⟨s, fun k u hu => ?_⟩
      have hk : k < 3 := by
        have := (List.getElem?_eq_some_iff.1 hu).1
        simpa [sgCells] using this
      rw [← hu, ← h3 k hk, add_add]
    obtain ⟨q, hq⟩ := Deep.choose_lt each
    refine ⟨(List.range n).map q, some a, n, c, rfl, by simp, by omega, fun _ => ⟨a, rfl, fun j u hu => ?_⟩⟩
    have hj : j < n * 3 := by
      have := (List.getElem?_eq_some_iff.1 hu).1
      rw [segCells_length] at this
      simpa using this
    have hi : j / 3 < ((List.range n).map q).length := by simp; omega
    have e : j = j / 3 * 3 + j % 3 := by omega
    rw [e] at hu ⊢
    have h2 := flat3 sgCells 3 (fun _ => rfl) ((List.range n).map q) (j / 3) (j % 3) hi (by omega)
    unfold segCells at hu
    rw [h2] at hu
    simp only [List.getElem_map, List.getElem_range] at hu
    exact hq (j / 3) (by simpa using hi) (j % 3) u hu

theorem open_two {r : Reach} {b0 : Nat} {v : Value} {d : DataW H} {ps : List MemPlace} (hval : Value.okWide Try.prog w r b0 30 v) (h : DataW.Trod enc Try.prog w base spare held 30 v d ps) :
    ∃ a b, v = .agg #[.int .i64 a, .int .i64 b] := by
  unfold Value.okWide at hval
  rw [Try.underlying30] at hval
  obtain ⟨cs, rfl, _, _⟩ := hval
  obtain ⟨fuel, hf⟩ := h
  obtain ⟨xs, n, _, _, hl, hxl, hf⟩ := DataW.trod_array Try.underlying30 hf
  rw [show Try.prog.cellsOf 30 = 2 by kernel_rfl] at hl
  obtain ⟨cl⟩ := cs
  simp only [Value.cells] at hl hf
  match cl, hl with
  | [c0, c1], _ =>
    have h0 := hf 0 (by decide)
    have h1 := hf 1 (by decide)
    simp only [cellsInt] at h0 h1
    match xs, hxl with
    | [y0, y1], _ =>
      obtain ⟨m, e0, _⟩ := DataW.trod_int Try.underlying2 h0
      obtain ⟨c, e1, _⟩ := DataW.trod_int Try.underlying2 h1
      simp at e0 e1
      exact ⟨m, c, by rw [e0, e1]⟩
end

theorem laidOut' : laidOutB Try.prog = true := by kernel_rfl

theorem sameAt_pure {W W' : World} (hK : Pure W W') {p : MemPlace} (hp : p.block < W.heap.size) : W.sameAt W' p := by
  cases p with
  | cell b off => exact World.cell?_of_block (w := W) (hK.block b hp id)
  | map b => exact hK.block b hp id

/-- An argument reads behind the call as before. -/
theorem trod_keep {H : Type} {enc : TypeId × Value → H} {t : TypeId} (hr : Try.prog.readableRec t = true) (hrow : t < Try.prog.types.size) {W W' : World} (hK : Pure W W') {sp : Nat → Bool} {v : Value} {d : DataW H} {ps : List MemPlace}
    (hlt : ∀ p ∈ ps, p.block < W.heap.size) (hs : ∀ p ∈ ps, sp p.block = true) (h : DataW.Trod enc Try.prog W 0 (fun _ => true) true t v d ps) : DataW.Trod enc Try.prog W' 0 sp true t v d ps :=
  WideElems.Trod_stays laidOut' hr hrow h (fun p hp => sameAt_pure hK (hlt p hp)) hs
end Go.Proofs.Ytffkgkondfdmfaa
