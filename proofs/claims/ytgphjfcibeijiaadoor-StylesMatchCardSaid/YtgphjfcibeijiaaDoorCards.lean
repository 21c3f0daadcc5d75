/-
  DERIVED. GIVEN WITH THE SEED: THE CARDS: each row of YtgphjfcibeijiaaDoorRows.lean that lists a variable, with what it lists TIED to the program's text (the seventh form; the later family's looks); each row that meets fmt, with fmt's text TOLD by the authors' own Lean function (tested against real Go, not proved from fmt's source: count such statements apart). THE CARD IS WHAT COUNTS. Prove the row's statement (the work); the ties are given (YtgphjfcibeijiaaDoorTie.lean); close each card by the builder's one call (the guide's Derived/Test/ToyasCard.lean, 'card_holds'). Laid BY PROGRAM, IN A SANDBOX (cutbox-door.mjs). By AI agents, Wed Nov 11 2026. No macro, syntax, notation, axiom, sorry.
-/
import Derived.Test.YtgphjfcibeijiaaDoorRows
import GoSem.ClaimSeven
namespace Go.Proofs.YtgphjfcibeijiaaDoor
namespace Rows

/-- THE TIED CARD OF 'drawlaw1.StylesMatch'. -/
def stylesMatchCard : Claim7 := { stood := { row := stylesMatchRow, standIns := [], harness := (true, "3428e62eddb610bb12702598ef77e2df05efd352518b5294a2e10cec5e6b74be"), looks := false }, kinds := [], alts := [], laidByText := true, laidKinds := [.data, .pinned], laidTests := true, laidLooks := .later }
def StylesMatchCardSaid : Prop := Claim7.holds Tryd.pinned (.plain (OpenSpec.ofChange stylesMatchSpec)) stylesMatchCard

/-- THE SECOND FORM's CARD OF 'drawlaw1.StylesMatch'. -/
def stylesMatchUptoCard : Claim7 := { stood := { row := stylesMatchUptoRow, standIns := [], harness := (true, "3428e62eddb610bb12702598ef77e2df05efd352518b5294a2e10cec5e6b74be"), looks := false }, kinds := [], alts := [], laidByText := true, laidKinds := [.data, .pinned], laidTests := true, laidLooks := .later }
def StylesMatchUptoCardSaid : Prop := Claim7.holds Tryd.pinned (.plain (OpenSpec.upto stylesMatchSpec)) stylesMatchUptoCard
end Rows
end Go.Proofs.YtgphjfcibeijiaaDoor
