/-
  DERIVED. GIVEN WITH THE SEED: THE CARDS: each row of YtlbbcehlhbaggaaGreatDoorRows.lean that lists a variable, with what it lists TIED to the program's text (the seventh form; the later family's looks); each row that meets fmt, with fmt's text TOLD by the authors' own Lean function (tested against real Go, not proved from fmt's source: count such statements apart). THE CARD IS WHAT COUNTS. Prove the row's statement (the work); the ties are given (YtlbbcehlhbaggaaGreatDoorTie.lean); close each card by the builder's one call (the guide's Derived/Test/ToyasCard.lean, 'card_holds'). Laid BY PROGRAM, IN A SANDBOX (cutbox-door.mjs). By AI agents, Wed Nov 11 2026. No macro, syntax, notation, axiom, sorry.
-/
import Derived.Test.YtlbbcehlhbaggaaGreatDoorRows
import GoSem.ClaimSeven
namespace Go.Proofs.YtlbbcehlhbaggaaGreatDoor
namespace Rows

/-- THE TIED CARD OF 'drawlaw1.TextsOfDocs'. -/
def textsOfDocsCard : Claim7 := { stood := { row := textsOfDocsRow, standIns := [], harness := (true, "2e015835636fad9effe5737780ff39f8e169e14f3b1c66d6804a0e5a19775dbb"), looks := true }, kinds := [], alts := [], laidByText := true, laidKinds := [.data, .data, .data, .data, .sentinel, .sentinel, .listed, .data, .pinned], laidTests := true, laidLooks := .later }
def TextsOfDocsCardSaid : Prop := Claim7.holds Tryz.pinned (.plain (OpenSpec.ofChange textsOfDocsSpec)) textsOfDocsCard

/-- THE SECOND FORM's CARD OF 'drawlaw1.TextsOfDocs'. -/
def textsOfDocsUptoCard : Claim7 := { stood := { row := textsOfDocsUptoRow, standIns := [], harness := (true, "2e015835636fad9effe5737780ff39f8e169e14f3b1c66d6804a0e5a19775dbb"), looks := true }, kinds := [], alts := [], laidByText := true, laidKinds := [.data, .data, .data, .data, .sentinel, .sentinel, .listed, .data, .pinned], laidTests := true, laidLooks := .later }
def TextsOfDocsUptoCardSaid : Prop := Claim7.holds Tryz.pinned (.plain (OpenSpec.upto textsOfDocsSpec)) textsOfDocsUptoCard
end Rows
end Go.Proofs.YtlbbcehlhbaggaaGreatDoor
