/-
  DERIVED. GIVEN WITH THE SEED: THE CARDS: each row of YtchnjieebkkhnaaGreatDoorRows.lean that lists a variable, with what it lists TIED to the program's text (the seventh form; the later family's looks); each row that meets fmt, with fmt's text TOLD by the authors' own Lean function (tested against real Go, not proved from fmt's source: count such statements apart). THE CARD IS WHAT COUNTS. Prove the row's statement (the work); the ties are given (YtchnjieebkkhnaaGreatDoorTie.lean); close each card by the builder's one call (the guide's Derived/Test/ToyasCard.lean, 'card_holds'). Laid BY PROGRAM, IN A SANDBOX (cutbox-door.mjs). By AI agents, Wed Nov 11 2026. No macro, syntax, notation, axiom, sorry.
-/
import Derived.Test.YtchnjieebkkhnaaGreatDoorRows
import GoSem.ClaimSeven
namespace Go.Proofs.YtchnjieebkkhnaaGreatDoor
namespace Rows

/-- THE TIED CARD OF 'drawlaw1.DiffsMatch'. -/
def diffsMatchCard : Claim7 := { stood := { row := diffsMatchRow, standIns := [], harness := (true, "8ad2e89aada4c97eeb746872d3004786881c5f6cd2449446b32e5eee989808f6"), looks := false }, kinds := [], alts := [], laidByText := true, laidKinds := [.data, .pinned], laidTests := true, laidLooks := .later }
def DiffsMatchCardSaid : Prop := Claim7.holds Tryz.pinned (.plain (OpenSpec.ofChange diffsMatchSpec)) diffsMatchCard

/-- THE SECOND FORM's CARD OF 'drawlaw1.DiffsMatch'. -/
def diffsMatchUptoCard : Claim7 := { stood := { row := diffsMatchUptoRow, standIns := [], harness := (true, "8ad2e89aada4c97eeb746872d3004786881c5f6cd2449446b32e5eee989808f6"), looks := false }, kinds := [], alts := [], laidByText := true, laidKinds := [.data, .pinned], laidTests := true, laidLooks := .later }
def DiffsMatchUptoCardSaid : Prop := Claim7.holds Tryz.pinned (.plain (OpenSpec.upto diffsMatchSpec)) diffsMatchUptoCard
end Rows
end Go.Proofs.YtchnjieebkkhnaaGreatDoor
