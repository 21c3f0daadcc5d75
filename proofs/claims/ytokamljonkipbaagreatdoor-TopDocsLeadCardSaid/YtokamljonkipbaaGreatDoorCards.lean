/-
  DERIVED. GIVEN WITH THE SEED: THE CARDS: each row of YtokamljonkipbaaGreatDoorRows.lean that lists a variable, with what it lists TIED to the program's text (the seventh form; the later family's looks); each row that meets fmt, with fmt's text TOLD by the authors' own Lean function (tested against real Go, not proved from fmt's source: count such statements apart). THE CARD IS WHAT COUNTS. Prove the row's statement (the work); the ties are given (YtokamljonkipbaaGreatDoorTie.lean); close each card by the builder's one call (the guide's Derived/Test/ToyasCard.lean, 'card_holds'). Laid BY PROGRAM, IN A SANDBOX (cutbox-door.mjs). By AI agents, Wed Nov 11 2026. No macro, syntax, notation, axiom, sorry.
-/
import Derived.Test.YtokamljonkipbaaGreatDoorRows
import GoSem.ClaimSeven
namespace Go.Proofs.YtokamljonkipbaaGreatDoor
namespace Rows

/-- THE TIED CARD OF 'drawtop.TopDocsLead'. -/
def topDocsLeadCard : Claim7 := { stood := { row := topDocsLeadRow, standIns := [], harness := (true, "d4f1fc9a251d4dd6133a3ffdb587c14a87c14e0e7d95dac6bdd2837b90f71e0d"), looks := true }, kinds := [], alts := [], laidByText := true, laidKinds := [.data, .data, .data, .data, .sentinel, .sentinel, .pinned], laidTests := true, laidLooks := .later }
def TopDocsLeadCardSaid : Prop := Claim7.holds Tryz.pinned (.plain (OpenSpec.ofChange topDocsLeadSpec)) topDocsLeadCard

/-- THE SECOND FORM's CARD OF 'drawtop.TopDocsLead'. -/
def topDocsLeadUptoCard : Claim7 := { stood := { row := topDocsLeadUptoRow, standIns := [], harness := (true, "d4f1fc9a251d4dd6133a3ffdb587c14a87c14e0e7d95dac6bdd2837b90f71e0d"), looks := true }, kinds := [], alts := [], laidByText := true, laidKinds := [.data, .data, .data, .data, .sentinel, .sentinel, .pinned], laidTests := true, laidLooks := .later }
def TopDocsLeadUptoCardSaid : Prop := Claim7.holds Tryz.pinned (.plain (OpenSpec.upto topDocsLeadSpec)) topDocsLeadUptoCard
end Rows
end Go.Proofs.YtokamljonkipbaaGreatDoor
