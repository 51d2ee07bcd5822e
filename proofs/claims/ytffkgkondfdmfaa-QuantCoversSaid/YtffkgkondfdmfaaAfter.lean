/- A region that draws its order, whose operations only read and whose callees turn nothing of old: one walk in the text's order. -/
import Derived.Test.YtffkgkondfdmfaaBase
import Derived.BigQuiet
set_option linter.unusedVariables false
set_option linter.unusedSimpArgs false
namespace Go.Proofs.Ytffkgkondfdmfaa
open Go.RowKit

/-- A world in which nothing of w has turned. -/
structure After (w : World) where
  W : World
  h : Pure w W
instance (w : World) : Nonempty (After w) := ⟨⟨w, Kept.refl _ w⟩⟩
theorem wp_region_after {P : Program} {id : Nat} {Q : Exit → Act → World → Prop} {a : Act} {w : World} {l : List Oper} (hm : P.follows .mixedOrders = true) (hB : Region.lexB .any l.toArray = true)
    (h : wpQuiet P l.toArray (fun w' => ∃ x : After w, w' = x.W) (fun a' => ∀ w', (∃ x : After w, w' = x.W) → Q .normal a' w') l a) : (Code.region id l.toArray true).wp P Q a w :=
  wp_region_quiet (C := fun w' => ∃ x : After w, w' = x.W) hm hB ⟨⟨w.drew, (Kept.refl _ w).drew⟩, rfl⟩ (by simpa using h)
theorem After.calls {P : Program} {f : FuncId} {args : Array Value} {w : World} {v : Value} (h : ∀ W, Pure w W → Calls P f args W fun e W' => e = .returned v ∧ Pure W W') (x : After w) :
    Calls P f args x.W fun e W' => e = .returned v ∧ ∃ y : After w, W' = y.W :=
  (h x.W x.h).mono fun e W' h => ⟨h.1, ⟨W', x.h.trans h.2⟩, rfl⟩
end Go.Proofs.Ytffkgkondfdmfaa
