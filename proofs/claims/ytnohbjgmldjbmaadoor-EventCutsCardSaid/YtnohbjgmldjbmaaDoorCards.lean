/-
  DERIVED. GIVEN WITH THE SEED: THE CARDS: each row of YtnohbjgmldjbmaaDoorRows.lean that lists a variable, with what it lists TIED to the program's text (the seventh form; the later family's looks); each row that meets fmt, with fmt's text TOLD by the authors' own Lean function (tested against real Go, not proved from fmt's source: count such statements apart). THE CARD IS WHAT COUNTS. Prove the row's statement (the work); the ties are given (YtnohbjgmldjbmaaDoorTie.lean); close each card by the builder's one call (the guide's Derived/Test/ToyasCard.lean, 'card_holds'). Laid BY PROGRAM, IN A SANDBOX (cutbox-door.mjs). By AI agents, Wed Nov 11 2026. No macro, syntax, notation, axiom, sorry.
-/
import Derived.Test.YtnohbjgmldjbmaaDoorRows
import GoSem.ClaimSeven
namespace Go.Proofs.YtnohbjgmldjbmaaDoor
namespace Rows

/-- THE TIED CARD OF 'liverylaw30.EventLines'. -/
def eventLinesCard : Claim7 := { stood := { row := eventLinesRow, standIns := [], harness := (true, "e695857e66cd97937e8957f47e962c09d9f23553acad1315fce979e1472f6100"), looks := false }, kinds := [], alts := [], laidByText := true, laidKinds := [.data, .data, .data, .data, .pinned], laidTests := true, laidLooks := .later }
def EventLinesCardSaid : Prop := Claim7.holds Tryd.pinned (.plain (OpenSpec.ofChange eventLinesSpec)) eventLinesCard

/-- THE TIED CARD OF 'liverylaw30.EventReads'. -/
def eventReadsCard : Claim7 := { stood := { row := eventReadsRow, standIns := [], harness := (true, "e695857e66cd97937e8957f47e962c09d9f23553acad1315fce979e1472f6100"), looks := false }, kinds := [], alts := [], laidByText := true, laidKinds := [.data, .data, .data, .data, .pinned], laidTests := true, laidLooks := .later }
def EventReadsCardSaid : Prop := Claim7.holds Tryd.pinned (.plain (OpenSpec.ofChange eventReadsSpec)) eventReadsCard

/-- THE TIED CARD OF 'liverylaw30.EventHeld'. -/
def eventHeldCard : Claim7 := { stood := { row := eventHeldRow, standIns := [], harness := (true, "e695857e66cd97937e8957f47e962c09d9f23553acad1315fce979e1472f6100"), looks := false }, kinds := [], alts := [], laidByText := true, laidKinds := [.data, .data, .data, .data, .pinned], laidTests := true, laidLooks := .later }
def EventHeldCardSaid : Prop := Claim7.holds Tryd.pinned (.plain (OpenSpec.ofChange eventHeldSpec)) eventHeldCard

/-- THE TIED CARD OF 'liverylaw30.EventCuts'. -/
def eventCutsCard : Claim7 := { stood := { row := eventCutsRow, standIns := [], harness := (true, "e695857e66cd97937e8957f47e962c09d9f23553acad1315fce979e1472f6100"), looks := false }, kinds := [], alts := [], laidByText := true, laidKinds := [.data, .data, .data, .data, .pinned], laidTests := true, laidLooks := .later }
def EventCutsCardSaid : Prop := Claim7.holds Tryd.pinned (.plain (OpenSpec.ofChange eventCutsSpec)) eventCutsCard

/-- THE SECOND FORM's CARD OF 'liverylaw30.EventLines'. -/
def eventLinesUptoCard : Claim7 := { stood := { row := eventLinesUptoRow, standIns := [], harness := (true, "e695857e66cd97937e8957f47e962c09d9f23553acad1315fce979e1472f6100"), looks := false }, kinds := [], alts := [], laidByText := true, laidKinds := [.data, .data, .data, .data, .pinned], laidTests := true, laidLooks := .later }
def EventLinesUptoCardSaid : Prop := Claim7.holds Tryd.pinned (.plain (OpenSpec.upto eventLinesSpec)) eventLinesUptoCard

/-- THE SECOND FORM's CARD OF 'liverylaw30.EventReads'. -/
def eventReadsUptoCard : Claim7 := { stood := { row := eventReadsUptoRow, standIns := [], harness := (true, "e695857e66cd97937e8957f47e962c09d9f23553acad1315fce979e1472f6100"), looks := false }, kinds := [], alts := [], laidByText := true, laidKinds := [.data, .data, .data, .data, .pinned], laidTests := true, laidLooks := .later }
def EventReadsUptoCardSaid : Prop := Claim7.holds Tryd.pinned (.plain (OpenSpec.upto eventReadsSpec)) eventReadsUptoCard

/-- THE SECOND FORM's CARD OF 'liverylaw30.EventHeld'. -/
def eventHeldUptoCard : Claim7 := { stood := { row := eventHeldUptoRow, standIns := [], harness := (true, "e695857e66cd97937e8957f47e962c09d9f23553acad1315fce979e1472f6100"), looks := false }, kinds := [], alts := [], laidByText := true, laidKinds := [.data, .data, .data, .data, .pinned], laidTests := true, laidLooks := .later }
def EventHeldUptoCardSaid : Prop := Claim7.holds Tryd.pinned (.plain (OpenSpec.upto eventHeldSpec)) eventHeldUptoCard

/-- THE SECOND FORM's CARD OF 'liverylaw30.EventCuts'. -/
def eventCutsUptoCard : Claim7 := { stood := { row := eventCutsUptoRow, standIns := [], harness := (true, "e695857e66cd97937e8957f47e962c09d9f23553acad1315fce979e1472f6100"), looks := false }, kinds := [], alts := [], laidByText := true, laidKinds := [.data, .data, .data, .data, .pinned], laidTests := true, laidLooks := .later }
def EventCutsUptoCardSaid : Prop := Claim7.holds Tryd.pinned (.plain (OpenSpec.upto eventCutsSpec)) eventCutsUptoCard
end Rows
end Go.Proofs.YtnohbjgmldjbmaaDoor
