/- 'for x := range f { .. }': one law for loops whose iterators keep what they remember in cells of their own. -/
import Derived.Test.YtffkgkondfdmfaaBase
import Derived.RangeFuncNested
import Derived.RangeFuncLeaves
import Derived.OwnWalkIn
import Derived.TacticsInMore
import Derived.LoopNIn
import Derived.LoopIn
set_option linter.unusedVariables false
set_option linter.unusedSimpArgs false
namespace Go.Proofs.Ytffkgkondfdmfaa
open Go.RowKit Go.Shelf

/-- What is said of J minds nothing that was laid from block B on. -/
def Stab {β : Type} (B : Nat) (J : β → World → Prop) : Prop := ∀ s W W', J s W → Below B W W' → J s W'
theorem below_put {B : Nat} (W : World) {l : Nat} (o : Obj) (h : B ≤ l) : Below B W (W.putObj l o) :=
  ⟨rfl, rfl, rfl, by simp, fun k hk => World.putObj_heap_other (by omega)⟩
theorem Stab.put {β : Type} {B : Nat} {J : β → World → Prop} (h : Stab B J) {s : β} {W : World} (hs : J s W) {l : Nat} (hl : B ≤ l) (o : Obj) : J s (W.putObj l o) := h s W _ hs (below_put W o hl)

/-- A call of yield. -/
def YAt (P : Program) (l : Nat) (args : Array Value) (W : World) (R : Ending → World → Prop) : Prop :=
  ∃ fn tmps assign body, (Instr.yield l args).run P W = .ok (.round l fn tmps assign body) W ∧ RoundIn Fence.wide 0 P l fn tmps assign body W R

/-- The contract of an iterator, made in w: whatever a caller's invariant J is that minds no cells of the iterator's own, and whatever a round keeps ('Kp'). -/
def Seq' {α : Type} (P : Program) (gf : Nat) (lb : Array Value) (encs : α → Array Value) (Kp : World → World → Prop) (S Sp : List α → Prop) (w : World) : Prop :=
  ∀ (l : Nat) (J Jx : List α → World → Prop) (W : World), Below w.heap.size w W → Stab W.heap.size J → Stab W.heap.size Jx →
    (∀ pre x W1, J pre W1 → YAt P l (encs x) W1 fun e W' => (e = .returned (.bool true) ∧ J (pre ++ [x]) W' ∧ Kp W1 W') ∨ (e = .returned (.bool false) ∧ Jx (pre ++ [x]) W')) →
    J [] W →
    CallsIn Fence.wide 0 P gf (#[.func (.yield l) #[] #[]] ++ lb) W fun e W' => (∃ v, e = .returned v) ∧ ((∃ xs, S xs ∧ J xs W') ∨ (∃ pre, Sp pre ∧ Jx pre W'))

/-- How a round's body may be left. -/
def outPost {α : Type} (B : Nat) (Kp : World → World → Prop) (I : List α → World → Prop) (Ix : Code → List α → World → Prop) (xs : List α) (W : World) : Exit → Act → World → Prop
  | .normal, _, W' => KeepsFrom B W W' ∧ Kp W W' ∧ I xs W'
  | .ret, _, W' => KeepsFrom B W W' ∧ Ix .ret xs W'
  | .exit id, _, W' => KeepsFrom B W W' ∧ Ix (.exit id) xs W'
  | .goto _, _, _ => False
  | .panic _, _, _ => False
  | .outgrown, _, _ => False

theorem wp_range {P : Program} {α : Type} {g : Operand} {ps : Array Tmp} {assign body : Code} {Q : Exit → Act → World → Prop} {a : Act} {w : World} {gf : Nat} {lb : Array Value}
    (hg : a.eval g = .func (.func gf) #[] lb) (eg : ∀ args w, (callFunc gf args).run P w = .ok (.enter gf args) w)
    (encs : α → Array Value) (hps : ∀ x, (encs x).size = ps.size)
    (Kp : World → World → Prop) (hKt : ∀ {A B C : World}, Kp A B → Kp B C → Kp A C)
    (hKb : ∀ (W : World) (l : Nat) (o o' : Obj), w.heap.size ≤ l → W.heap[l]? = some o → o.isCells = false → Kp W (W.putObj l o'))
    (S Sp : List α → Prop) (hseq : Seq' P gf lb encs Kp S Sp w)
    (I : List α → World → Prop) (Ix : Code → List α → World → Prop) (hI : Stab w.heap.size I) (hIx : ∀ c, Stab w.heap.size (Ix c)) (h0 : I [] w)
    (Ax : List α → α → Act → World → Prop)
    (hAx : ∀ s x a₁ (W : World) (l : Nat) (o o' : Obj), Ax s x a₁ W → w.heap.size ≤ l → W.heap[l]? = some o → o.isCells = false → Ax s x a₁ (W.putObj l o'))
    (hassign : ∀ (l : Nat) (pre : List α) (x : α) (W : World), w.heap.size ≤ l → I pre W →
      assign.wpIn (Fence.wide.inRound l) 0 P (Exit.then (fun a₁ W₁ => KeepsFrom w.heap.size W W₁ ∧ Kp W W₁ ∧ Ax pre x a₁ W₁) (fun _ _ _ => False)) { tmps := (ps.zip (encs x)).foldl (fun t (p, v) => t.setIfInBounds p v) a.tmps, defers := [] } W)
    (hbody : ∀ (l : Nat) (pre : List α) (x : α) (a₁ : Act) (W : World), w.heap.size ≤ l → Ax pre x a₁ W → body.wpIn (Fence.wide.inRound l) 0 P (outPost w.heap.size Kp I Ix (pre ++ [x]) W) a₁ W)
    (hdone : ∀ (D : Nat) (xs : List α) (W : World), w.heap.size ≤ D → S xs → I xs W → W.heap[D]? = some (.deferred (some [])) → Q .normal { a with defers := { target := .collected D, args := #[] } :: a.defers } W)
    (hstop : ∀ (D : Nat) (c : Code) (pre : List α) (W : World), w.heap.size ≤ D → Sp pre → Ix c pre W → W.heap[D]? = some (.deferred (some [])) → c.wp P Q { a with defers := { target := .collected D, args := #[] } :: a.defers } W) :
    (Code.rangeFunc g ps assign body).wp P Q a w := by
  refine (wpIn_wide (n := 0)).1 (wpIn_rangeFunc fun fn _ => ?_)
  show ∃ (l : Nat) (mark : List Deferred) (w₁ : World) (d : Deferred) (w₁' : World) (f : FuncId) (args : Array Value) (w₂ : World), (Instr.enterLoop fn a.tmps ps assign body none).run P w = .ok (l, mark) w₁ ∧ _
  let rec_ (st : LoopState) (pe : Option Code) : Loop := { state := st, pending := pe, fn, tmps := a.tmps, params := ps, assign, body, defers := w.heap.size }
  let D := w.heap.size
  let L := w.heap.size + 1
  obtain ⟨W1, hW1⟩ : ∃ W1, (w.alloc (.deferred (some []))).alloc (.loop (rec_ .ready none)) = W1 := ⟨_, rfl⟩
  have hz1 : W1.heap.size = w.heap.size + 1 + 1 := by rw [← hW1]; simp
  have hL1 : W1.heap[L]? = some (.loop (rec_ .ready none)) := by rw [← hW1]; exact blk_new1 w _ _
  have hD1 : W1.heap[D]? = some (.deferred (some [])) := by rw [← hW1]; exact blk_alloc (blk_new w _) _
  have hb1 : Below w.heap.size w W1 := by rw [← hW1]; exact ((Below.refl _ w).alloc (Nat.le_refl _) _).alloc (by simp) _
  refine ⟨L, [{ target := .collected D, args := #[] }], W1, { target := .fn (.func gf) lb, args := #[.func (.yield L) #[] #[]] }, W1, gf, #[.func (.yield L) #[] #[]] ++ lb, W1, ?_, ?_, fun _ _ => trivial, ?_, (fun h => by cases h), ?_⟩
  · rw [← hW1]; exact run_enterLoop_outer _ _ _ _ _
  · simp only [resolve, hg]
    simp [go_sem]
  · simp [invoke, go_sem, eg]
  refine (hseq L (fun pre W => I pre W ∧ W.heap[L]? = some (.loop (rec_ .ready none)) ∧ W.heap[D]? = some (.deferred (some [])))
    (fun pre W => ∃ c, Ix c pre W ∧ W.heap[L]? = some (.loop (rec_ .done (some c))) ∧ W.heap[D]? = some (.deferred (some []))) W1 hb1 ?_ ?_ ?_ ⟨hI _ _ _ h0 hb1, hL1, hD1⟩).mono ?_
  · rintro s A B ⟨hi, hl, hd⟩ hb
    exact ⟨hI _ _ _ hi (hb.mono (by omega)), (hb.block _ (by omega)).trans hl, (hb.block _ (by omega)).trans hd⟩
  · rintro s A B ⟨c, hi, hl, hd⟩ hb
    exact ⟨c, hIx c _ _ _ hi (hb.mono (by omega)), (hb.block _ (by omega)).trans hl, (hb.block _ (by omega)).trans hd⟩
  · -- a round
    rintro pre x W ⟨hi, hl, hd⟩
    refine ⟨fn, _, assign, body, run_yield hl (hps x), roundIn_of_wpIn trivial (wpIn_mono (hassign L pre x W (by omega) hi) ?_)⟩
    rintro e a₁ W₁ hq
    cases e with
    | normal =>
      obtain ⟨hk1, hp1, hA1⟩ := hq
      have hl1 := hk1.same L _ (by omega) hl rfl
      have hd1 := hk1.same D _ (Nat.le_refl _) hd rfl
      have hlt1 : L < W₁.heap.size := (Array.getElem?_eq_some_iff.1 hl1).1
      refine ⟨_, run_beginRound hl1 rfl, ?_⟩
      obtain ⟨W₂, hW₂⟩ : ∃ W₂, W₁.putObj L (.loop { rec_ .ready none with state := .busy }) = W₂ := ⟨_, rfl⟩
      rw [hW₂]
      have hl2 : W₂.heap[L]? = some (.loop { rec_ .ready none with state := .busy }) := by rw [← hW₂]; exact World.putObj_heap_same hlt1
      have hd2 : W₂.heap[D]? = some (.deferred (some [])) := by rw [← hW₂]; exact (World.putObj_heap_other (by omega)).trans hd1
      have hA2 : Ax pre x a₁ W₂ := by rw [← hW₂]; exact hAx _ _ _ _ _ _ _ hA1 (by omega) hl1 rfl
      have hp2 : Kp W₁ W₂ := by rw [← hW₂]; exact hKb _ _ _ _ (by omega) hl1 rfl
      refine wpIn_mono (hbody L pre x a₁ W₂ (by omega) hA2) ?_
      rintro e a₃ W₃ hq
      have fin : KeepsFrom w.heap.size W₂ W₃ → ∀ jump : Option Code,
          (Instr.endRound L jump).run P W₃ = .ok (.bool jump.isNone) (W₃.putObj L (.loop (rec_ (if jump.isNone then .ready else .done) jump))) ∧
          W₃.heap[L]? = some (.loop { rec_ .ready none with state := .busy }) ∧
          (W₃.putObj L (.loop (rec_ (if jump.isNone then .ready else .done) jump))).heap[L]? = some (.loop (rec_ (if jump.isNone then .ready else .done) jump)) ∧
          (W₃.putObj L (.loop (rec_ (if jump.isNone then .ready else .done) jump))).heap[D]? = some (.deferred (some [])) := fun hk3 jump => by
        have hl3 := hk3.same L _ (by omega) hl2 rfl
        have hd3 := hk3.same D _ (Nat.le_refl _) hd2 rfl
        exact ⟨run_endRound jump hl3, hl3, World.putObj_heap_same (Array.getElem?_eq_some_iff.1 hl3).1, (World.putObj_heap_other (by omega)).trans hd3⟩
      cases e with
      | normal =>
        obtain ⟨hk3, hp3, hi3⟩ := hq
        obtain ⟨hr, hl3, hl4, hd4⟩ := fin hk3 none
        exact ⟨_, _, hr, .inl ⟨rfl, ⟨hI.put hi3 (by omega) _, hl4, hd4⟩, hKt (hKt (hKt hp1 hp2) hp3) (hKb _ _ _ _ (by omega) hl3 rfl)⟩⟩
      | ret =>
        obtain ⟨hk3, hi3⟩ := hq
        obtain ⟨hr, hl3, hl4, hd4⟩ := fin hk3 (some .ret)
        exact ⟨_, _, hr, .inr ⟨rfl, .ret, (hIx _).put hi3 (by omega) _, hl4, hd4⟩⟩
      | exit id =>
        obtain ⟨hk3, hi3⟩ := hq
        obtain ⟨hr, hl3, hl4, hd4⟩ := fin hk3 (some (.exit id))
        exact ⟨_, _, hr, .inr ⟨rfl, .exit id, (hIx _).put hi3 (by omega) _, hl4, hd4⟩⟩
      | goto t => exact hq.elim
      | panic ch => exact hq.elim
      | outgrown => exact hq.elim
    | ret => exact hq.elim
    | exit id => exact hq.elim
    | goto t => exact hq.elim
    | panic ch => exact hq.elim
    | outgrown => exact hq.elim
  · -- behind the iterator
    rintro e W₂ ⟨⟨v, rfl⟩, (⟨xs, hS, hi, hl, hd⟩ | ⟨pre, hSp, c, hi, hl, hd⟩)⟩
    · exact ⟨none, _, run_endLoop hl (by simp [rec_]), hdone D xs _ (Nat.le_refl _) hS (hI.put hi (by omega) _) ((World.putObj_heap_other (by omega)).trans hd)⟩
    · exact ⟨some c, _, run_endLoop hl (by simp [rec_]), wpIn_wide.2 (hstop D c pre _ (Nat.le_refl _) hSp ((hIx c).put hi (by omega) _) ((World.putObj_heap_other (by omega)).trans hd))⟩

/-! ### a function that holds such a loop returns -/
theorem leave_plain {P : Program} {fn : Func} {R : Ending → World → Prop} {tmps : Array Value} {w : World} {v : Value} {x : Exit} (hx : x = .ret ∨ x = .normal)
    (hr : (results fn tmps).run P w = .ok v w) (hR : R (.returned v) w) : bodyPostM Fence.wide 0 P fn R x { tmps := tmps, defers := [] } w := by
  rcases hx with rfl | rfl <;> exact ⟨v, hr, hR⟩
theorem leave_mark {P : Program} {fn : Func} {R : Ending → World → Prop} {tmps : Array Value} {w : World} {v : Value} {x : Exit} (hx : x = .ret ∨ x = .normal) {D : Nat} (hD : w.heap[D]? = some (.deferred (some [])))
    (hr : (results fn tmps).run P (w.putObj D (.deferred none)) = .ok v (w.putObj D (.deferred none))) (hR : R (.returned v) (w.putObj D (.deferred none))) :
    bodyPostM Fence.wide 0 P fn R x { tmps := tmps, defers := [{ target := .collected D, args := #[] }] } w := by
  rcases hx with rfl | rfl <;> exact ⟨by simp, .inl ⟨_, _, rfl, run_takeDeferred hD, ⟨v, hr, hR⟩⟩⟩
theorem Kept.put {S : Nat → Prop} {a b : World} (h : Kept S a b) {l : Nat} (o : Obj) (hl : S l ∨ a.heap.size ≤ l) : Kept S a (b.putObj l o) :=
  ⟨h.os, h.tape, h.output, by simpa using h.size, fun i hi hn => (World.putObj_heap_other (by rintro rfl; rcases hl with hl | hl; exact hn hl; omega)).trans (h.block i hi hn)⟩
theorem blk_put {w : World} {g : Nat} {o : Obj} (h : w.heap[g]? = some o) {l : Nat} (o' : Obj) (hl : g ≠ l) : (w.putObj l o').heap[g]? = some o := (World.putObj_heap_other hl).trans h

end Go.Proofs.Ytffkgkondfdmfaa
