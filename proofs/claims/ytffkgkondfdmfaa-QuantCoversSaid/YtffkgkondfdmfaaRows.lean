/-
  No cell of these rows narrows 'for every input' (looked for: loops, veiled, ifaces, maps, wideKeys, modest, calm, conditions, laid).
  DERIVED. THE GIVEN ROWS OF THIS SEAT. 4 by the template 'for every input the law returns true; each argument reads behind the call as it read before'; 0 by the template 'total and deterministic' (their statements: YtffkgkondfdmfaaTotals.lean).
  GIVEN WITH THE SEED: the statements are not yours to turn. If you find one false, say at which input.
  Laid BY PROGRAM, IN A SANDBOX (cutbox-rows.mjs): the forced cells as the released guide's own fill.sh prints them over the translation c1541e28f1853cfc… (all of the seat's roots in one cut). By AI agents, Wed Nov 11 2026. No macro, syntax, notation, axiom, sorry.
-/
import Derived.Test.YtffkgkondfdmfaaChecked
import GoSem.Claim
import GoSem.ClaimJoined
import GoSem.ClaimMapViews
import Derived.JoinedTies
import Derived.KernelRfl
namespace Go.Proofs.Ytffkgkondfdmfaa
/- THE CELL 'sum', in the pinned program and in every row, IS THE sha256 OF THE DUMP (.gsa) THAT YtffkgkondfdmfaaProg.lean LOADS. Nothing in Lean hashes anything: it is a label: what it is worth is what the hold of that sum in a sandbox is worth. -/
noncomputable def Try.pinned : Pinned := { name := "ytffkgkondfdmfaa", sum := "c1541e28f1853cfc561dc3124f1cff9504ba2911cb5c9fa682ee81c0877630d6", checked := Try.checked }
namespace Rows
def none {H : Type} : Left H := { results := [], args := [] }

/-- 'liverylaw05.QuantTimes': WHATEVER THE INPUT: true; the input reads as it did. -/
def quantTimesSpec : ChangeSpec := { name := "quantTimes", fn := fun _ => fun
  | [d1, d2] => { results := [.lit (.bool true)], args := [d1, d2] }
  | _ => none }
def quantTimesRow : OpenClaim := { program := "ytffkgkondfdmfaa", sum := "c1541e28f1853cfc561dc3124f1cff9504ba2911cb5c9fa682ee81c0877630d6", func := "livery/liverylaw05.QuantTimes", spec := "quantTimes", unfollowed := true, recurses := true, apart := false }
def QuantTimesSaid : Prop := quantTimesRow.holds Try.pinned (OpenSpec.ofChange quantTimesSpec)

/-- ITS FALSE NEIGHBOUR: 'it returns false'. Refute it at one input. -/
def quantTimesWrong : ChangeSpec := { name := "quantTimes", fn := fun _ => fun
  | [d1, d2] => { results := [.lit (.bool false)], args := [d1, d2] }
  | _ => none }
def QuantTimesWrongFalsely : Prop := quantTimesRow.holds Try.pinned (OpenSpec.ofChange quantTimesWrong)

/-- 'liverylaw05.QuantBins': WHATEVER THE INPUT: true; the input reads as it did. -/
def quantBinsSpec : ChangeSpec := { name := "quantBins", fn := fun _ => fun
  | [d1, d2, d3] => { results := [.lit (.bool true)], args := [d1, d2, d3] }
  | _ => none }
def quantBinsRow : OpenClaim := { program := "ytffkgkondfdmfaa", sum := "c1541e28f1853cfc561dc3124f1cff9504ba2911cb5c9fa682ee81c0877630d6", func := "livery/liverylaw05.QuantBins", spec := "quantBins", unfollowed := true, recurses := true, apart := false }
def QuantBinsSaid : Prop := quantBinsRow.holds Try.pinned (OpenSpec.ofChange quantBinsSpec)

/-- ITS FALSE NEIGHBOUR: 'it returns false'. Refute it at one input. -/
def quantBinsWrong : ChangeSpec := { name := "quantBins", fn := fun _ => fun
  | [d1, d2, d3] => { results := [.lit (.bool false)], args := [d1, d2, d3] }
  | _ => none }
def QuantBinsWrongFalsely : Prop := quantBinsRow.holds Try.pinned (OpenSpec.ofChange quantBinsWrong)

/-- 'liverylaw05.QuantCovers': WHATEVER THE INPUT: true; the input reads as it did. -/
def quantCoversSpec : ChangeSpec := { name := "quantCovers", fn := fun _ => fun
  | [d1, d2, d3] => { results := [.lit (.bool true)], args := [d1, d2, d3] }
  | _ => none }
def quantCoversRow : OpenClaim := { program := "ytffkgkondfdmfaa", sum := "c1541e28f1853cfc561dc3124f1cff9504ba2911cb5c9fa682ee81c0877630d6", func := "livery/liverylaw05.QuantCovers", spec := "quantCovers", unfollowed := true, recurses := true, apart := false }
def QuantCoversSaid : Prop := quantCoversRow.holds Try.pinned (OpenSpec.ofChange quantCoversSpec)

/-- ITS FALSE NEIGHBOUR: 'it returns false'. Refute it at one input. -/
def quantCoversWrong : ChangeSpec := { name := "quantCovers", fn := fun _ => fun
  | [d1, d2, d3] => { results := [.lit (.bool false)], args := [d1, d2, d3] }
  | _ => none }
def QuantCoversWrongFalsely : Prop := quantCoversRow.holds Try.pinned (OpenSpec.ofChange quantCoversWrong)

/-- 'liverylaw05.QuantLeast': WHATEVER THE INPUT: true; the input reads as it did. -/
def quantLeastSpec : ChangeSpec := { name := "quantLeast", fn := fun _ => fun
  | [d1, d2, d3] => { results := [.lit (.bool true)], args := [d1, d2, d3] }
  | _ => none }
def quantLeastRow : OpenClaim := { program := "ytffkgkondfdmfaa", sum := "c1541e28f1853cfc561dc3124f1cff9504ba2911cb5c9fa682ee81c0877630d6", func := "livery/liverylaw05.QuantLeast", spec := "quantLeast", unfollowed := true, recurses := true, apart := false }
def QuantLeastSaid : Prop := quantLeastRow.holds Try.pinned (OpenSpec.ofChange quantLeastSpec)

/-- ITS FALSE NEIGHBOUR: 'it returns false'. Refute it at one input. -/
def quantLeastWrong : ChangeSpec := { name := "quantLeast", fn := fun _ => fun
  | [d1, d2, d3] => { results := [.lit (.bool false)], args := [d1, d2, d3] }
  | _ => none }
def QuantLeastWrongFalsely : Prop := quantLeastRow.holds Try.pinned (OpenSpec.ofChange quantLeastWrong)

/- THE SECOND FORM. 'bulk': how many values and letters a reading holds, each counted each time it is reached (what is shared counts as often as it is met; a slice's spare places count too). A statement '..UptoSaid' is the law's where the arguments, and the package variables that the reading takes, are together of bulk at most 1048576: NARROWER than '..Said'. Prove '..Said' where nothing that the law and all that it calls make is longer than what came in: it says more and counts as full. Else prove '..UptoSaid'. A law counts once. -/
mutual
def uptoBulk {H : Type} : DataW H → Nat
  | .lit (.string bytes) => bytes.length + 1
  | .lit _ => 1
  | .nil => 1
  | .ptr d => uptoBulk d + 1
  | .slice elems spare => uptoBulkAll elems + uptoBulkAll spare + 1
  | .agg parts => uptoBulkAll parts + 1
  | .iface _ d => uptoBulk d + 1
  | .map entries => uptoBulkEntries entries + 1
  | .held _ => 1
def uptoBulkAll {H : Type} : List (DataW H) → Nat
  | [] => 0
  | d :: r => uptoBulk d + uptoBulkAll r
def uptoBulkEntries {H : Type} : List (Lit × DataW H) → Nat
  | [] => 0
  | x :: r => uptoBulkEntry x + uptoBulkEntries r
def uptoBulkEntry {H : Type} : Lit × DataW H → Nat
  | (.string bytes, d) => bytes.length + uptoBulk d + 1
  | (_, d) => uptoBulk d + 1
 end
def uptoSmall : (H : Type) → List (DataW H) → Bool := fun _ ds => decide (uptoBulkAll ds ≤ 1048576)
def OpenSpec.upto (s : _root_.Go.ChangeSpec) : _root_.Go.OpenSpec := { _root_.Go.OpenSpec.ofChange s with cond := some uptoSmall }

/-- 'liverylaw05.QuantTimes', WHERE WHAT IT READS IS OF BULK AT MOST 1048576: true; the input reads as it did. -/
def quantTimesUptoRow : OpenClaim := { program := "ytffkgkondfdmfaa", sum := "c1541e28f1853cfc561dc3124f1cff9504ba2911cb5c9fa682ee81c0877630d6", func := "livery/liverylaw05.QuantTimes", spec := "quantTimes", unfollowed := true, recurses := true, apart := false, narrowed := true }
def QuantTimesUptoSaid : Prop := quantTimesUptoRow.holds Try.pinned (OpenSpec.upto quantTimesSpec)

/-- 'liverylaw05.QuantBins', WHERE WHAT IT READS IS OF BULK AT MOST 1048576: true; the input reads as it did. -/
def quantBinsUptoRow : OpenClaim := { program := "ytffkgkondfdmfaa", sum := "c1541e28f1853cfc561dc3124f1cff9504ba2911cb5c9fa682ee81c0877630d6", func := "livery/liverylaw05.QuantBins", spec := "quantBins", unfollowed := true, recurses := true, apart := false, narrowed := true }
def QuantBinsUptoSaid : Prop := quantBinsUptoRow.holds Try.pinned (OpenSpec.upto quantBinsSpec)

/-- 'liverylaw05.QuantCovers', WHERE WHAT IT READS IS OF BULK AT MOST 1048576: true; the input reads as it did. -/
def quantCoversUptoRow : OpenClaim := { program := "ytffkgkondfdmfaa", sum := "c1541e28f1853cfc561dc3124f1cff9504ba2911cb5c9fa682ee81c0877630d6", func := "livery/liverylaw05.QuantCovers", spec := "quantCovers", unfollowed := true, recurses := true, apart := false, narrowed := true }
def QuantCoversUptoSaid : Prop := quantCoversUptoRow.holds Try.pinned (OpenSpec.upto quantCoversSpec)

/-- 'liverylaw05.QuantLeast', WHERE WHAT IT READS IS OF BULK AT MOST 1048576: true; the input reads as it did. -/
def quantLeastUptoRow : OpenClaim := { program := "ytffkgkondfdmfaa", sum := "c1541e28f1853cfc561dc3124f1cff9504ba2911cb5c9fa682ee81c0877630d6", func := "livery/liverylaw05.QuantLeast", spec := "quantLeast", unfollowed := true, recurses := true, apart := false, narrowed := true }
def QuantLeastUptoSaid : Prop := quantLeastUptoRow.holds Try.pinned (OpenSpec.upto quantLeastSpec)

end Rows
end Go.Proofs.Ytffkgkondfdmfaa
