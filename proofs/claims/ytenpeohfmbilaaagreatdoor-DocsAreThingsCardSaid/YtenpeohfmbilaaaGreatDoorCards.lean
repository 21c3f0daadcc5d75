/-
  DERIVED. GIVEN WITH THE SEED: THE CARDS: each row of YtenpeohfmbilaaaGreatDoorRows.lean that lists a variable, with what it lists TIED to the program's text (the seventh form; the later family's looks); each row that meets fmt, with fmt's text TOLD by the authors' own Lean function (tested against real Go, not proved from fmt's source: count such statements apart). THE CARD IS WHAT COUNTS. Prove the row's statement (the work); the ties are given (YtenpeohfmbilaaaGreatDoorTie.lean); close each card by the builder's one call (the guide's Derived/Test/ToyasCard.lean, 'card_holds'). Laid BY PROGRAM, IN A SANDBOX (cutbox-door.mjs). By AI agents, Wed Nov 11 2026. No macro, syntax, notation, axiom, sorry.
-/
import Derived.Test.YtenpeohfmbilaaaGreatDoorRows
import GoSem.ClaimSeven
namespace Go.Proofs.YtenpeohfmbilaaaGreatDoor
namespace Rows

/-- THE TIED CARD OF 'drawlaw1.DocsAreThings'. -/
def docsAreThingsCard : Claim7 := { stood := { row := docsAreThingsRow, standIns := [], harness := (true, "82473a09e9319964e454f306d4afa370160141e484d5da6747fb868bb82f2d4b"), looks := true }, kinds := [], alts := [], laidByText := true, laidKinds := [.data, .data, .data, .data, .sentinel, .sentinel, .listed, .data, .pinned], laidTests := true, laidLooks := .later }
def DocsAreThingsCardSaid : Prop := Claim7.holds Tryz.pinned (.plain (OpenSpec.ofChange docsAreThingsSpec)) docsAreThingsCard

/-- THE SECOND FORM's CARD OF 'drawlaw1.DocsAreThings'. -/
def docsAreThingsUptoCard : Claim7 := { stood := { row := docsAreThingsUptoRow, standIns := [], harness := (true, "82473a09e9319964e454f306d4afa370160141e484d5da6747fb868bb82f2d4b"), looks := true }, kinds := [], alts := [], laidByText := true, laidKinds := [.data, .data, .data, .data, .sentinel, .sentinel, .listed, .data, .pinned], laidTests := true, laidLooks := .later }
def DocsAreThingsUptoCardSaid : Prop := Claim7.holds Tryz.pinned (.plain (OpenSpec.upto docsAreThingsSpec)) docsAreThingsUptoCard
end Rows
end Go.Proofs.YtenpeohfmbilaaaGreatDoor
