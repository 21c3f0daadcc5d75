/-
  DERIVED. GIVEN WITH THE SEED: THE CARDS: each row of YtjnglmeiifcgjaaGreatDoorRows.lean that lists a variable, with what it lists TIED to the program's text (the seventh form; the later family's looks); each row that meets fmt, with fmt's text TOLD by the authors' own Lean function (tested against real Go, not proved from fmt's source: count such statements apart). THE CARD IS WHAT COUNTS. Prove the row's statement (the work); the ties are given (YtjnglmeiifcgjaaGreatDoorTie.lean); close each card by the builder's one call (the guide's Derived/Test/ToyasCard.lean, 'card_holds'). Laid BY PROGRAM, IN A SANDBOX (cutbox-door.mjs). By AI agents, Wed Nov 11 2026. No macro, syntax, notation, axiom, sorry.
-/
import Derived.Test.YtjnglmeiifcgjaaGreatDoorRows
import GoSem.ClaimSeven
namespace Go.Proofs.YtjnglmeiifcgjaaGreatDoor
namespace Rows

/-- THE TIED CARD OF 'drawlaw1.OpsPrint'. -/
def opsPrintCard : Claim7 := { stood := { row := opsPrintRow, standIns := [], harness := (true, "0feb6a9372619dc571997d376b6f4eacfde1d8e8d235453be6c51c1a3ae6a310"), looks := true }, kinds := [], alts := [], laidByText := true, laidKinds := [.data, .data, .data, .data, .sentinel, .sentinel, .pinned], laidTests := true, laidLooks := .later }
def OpsPrintCardSaid : Prop := Claim7.holds Tryz.pinned (.plain (OpenSpec.ofChange opsPrintSpec)) opsPrintCard

/-- THE SECOND FORM's CARD OF 'drawlaw1.OpsPrint'. -/
def opsPrintUptoCard : Claim7 := { stood := { row := opsPrintUptoRow, standIns := [], harness := (true, "0feb6a9372619dc571997d376b6f4eacfde1d8e8d235453be6c51c1a3ae6a310"), looks := true }, kinds := [], alts := [], laidByText := true, laidKinds := [.data, .data, .data, .data, .sentinel, .sentinel, .pinned], laidTests := true, laidLooks := .later }
def OpsPrintUptoCardSaid : Prop := Claim7.holds Tryz.pinned (.plain (OpenSpec.upto opsPrintSpec)) opsPrintUptoCard
end Rows
end Go.Proofs.YtjnglmeiifcgjaaGreatDoor
