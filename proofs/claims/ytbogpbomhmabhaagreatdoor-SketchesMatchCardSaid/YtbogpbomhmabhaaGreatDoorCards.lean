/-
  DERIVED. GIVEN WITH THE SEED: THE CARDS: each row of YtbogpbomhmabhaaGreatDoorRows.lean that lists a variable, with what it lists TIED to the program's text (the seventh form; the later family's looks); each row that meets fmt, with fmt's text TOLD by the authors' own Lean function (tested against real Go, not proved from fmt's source: count such statements apart). THE CARD IS WHAT COUNTS. Prove the row's statement (the work); the ties are given (YtbogpbomhmabhaaGreatDoorTie.lean); close each card by the builder's one call (the guide's Derived/Test/ToyasCard.lean, 'card_holds'). Laid BY PROGRAM, IN A SANDBOX (cutbox-door.mjs). By AI agents, Wed Nov 11 2026. No macro, syntax, notation, axiom, sorry.
-/
import Derived.Test.YtbogpbomhmabhaaGreatDoorRows
import GoSem.ClaimSeven
namespace Go.Proofs.YtbogpbomhmabhaaGreatDoor
namespace Rows

/-- THE TIED CARD OF 'drawlaw1.SketchesMatch'. -/
def sketchesMatchCard : Claim7 := { stood := { row := sketchesMatchRow, standIns := [], harness := (true, "8b67e36aeb44c2b7b430fcc8e4a6c654a72ee781800ee0eda365ff9202084391"), looks := false }, kinds := [], alts := [], laidByText := true, laidKinds := [.data, .pinned], laidTests := true, laidLooks := .later }
def SketchesMatchCardSaid : Prop := Claim7.holds Tryz.pinned (.plain (OpenSpec.ofChange sketchesMatchSpec)) sketchesMatchCard

/-- THE SECOND FORM's CARD OF 'drawlaw1.SketchesMatch'. -/
def sketchesMatchUptoCard : Claim7 := { stood := { row := sketchesMatchUptoRow, standIns := [], harness := (true, "8b67e36aeb44c2b7b430fcc8e4a6c654a72ee781800ee0eda365ff9202084391"), looks := false }, kinds := [], alts := [], laidByText := true, laidKinds := [.data, .pinned], laidTests := true, laidLooks := .later }
def SketchesMatchUptoCardSaid : Prop := Claim7.holds Tryz.pinned (.plain (OpenSpec.upto sketchesMatchSpec)) sketchesMatchUptoCard
end Rows
end Go.Proofs.YtbogpbomhmabhaaGreatDoor
