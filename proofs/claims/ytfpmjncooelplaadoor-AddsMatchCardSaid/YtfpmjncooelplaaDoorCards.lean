/-
  DERIVED. GIVEN WITH THE SEED: THE CARDS: each row of YtfpmjncooelplaaDoorRows.lean that lists a variable, with what it lists TIED to the program's text (the seventh form; the later family's looks); each row that meets fmt, with fmt's text TOLD by the authors' own Lean function (tested against real Go, not proved from fmt's source: count such statements apart). THE CARD IS WHAT COUNTS. Prove the row's statement (the work); the ties are given (YtfpmjncooelplaaDoorTie.lean); close each card by the builder's one call (the guide's Derived/Test/ToyasCard.lean, 'card_holds'). Laid BY PROGRAM, IN A SANDBOX (cutbox-door.mjs). By AI agents, Wed Nov 11 2026. No macro, syntax, notation, axiom, sorry.
-/
import Derived.Test.YtfpmjncooelplaaDoorRows
import GoSem.ClaimSeven
namespace Go.Proofs.YtfpmjncooelplaaDoor
namespace Rows

/-- THE TIED CARD OF 'drawlaw1.AddsMatch'. -/
def addsMatchCard : Claim7 := { stood := { row := addsMatchRow, standIns := [], harness := (true, "d657a41c95e6833902f623ffe5f9960ccb79a3b435173214071907cec3fe990d"), looks := false }, kinds := [], alts := [], laidByText := true, laidKinds := [.data, .pinned], laidTests := true, laidLooks := .later }
def AddsMatchCardSaid : Prop := Claim7.holds Tryd.pinned (.plain (OpenSpec.ofChange addsMatchSpec)) addsMatchCard

/-- THE TIED CARD OF 'drawlaw1.MergesMatch'. -/
def mergesMatchCard : Claim7 := { stood := { row := mergesMatchRow, standIns := [], harness := (true, "d657a41c95e6833902f623ffe5f9960ccb79a3b435173214071907cec3fe990d"), looks := false }, kinds := [], alts := [], laidByText := true, laidKinds := [.data, .pinned], laidTests := true, laidLooks := .later }
def MergesMatchCardSaid : Prop := Claim7.holds Tryd.pinned (.plain (OpenSpec.ofChange mergesMatchSpec)) mergesMatchCard

/-- THE SECOND FORM's CARD OF 'drawlaw1.AddsMatch'. -/
def addsMatchUptoCard : Claim7 := { stood := { row := addsMatchUptoRow, standIns := [], harness := (true, "d657a41c95e6833902f623ffe5f9960ccb79a3b435173214071907cec3fe990d"), looks := false }, kinds := [], alts := [], laidByText := true, laidKinds := [.data, .pinned], laidTests := true, laidLooks := .later }
def AddsMatchUptoCardSaid : Prop := Claim7.holds Tryd.pinned (.plain (OpenSpec.upto addsMatchSpec)) addsMatchUptoCard

/-- THE SECOND FORM's CARD OF 'drawlaw1.MergesMatch'. -/
def mergesMatchUptoCard : Claim7 := { stood := { row := mergesMatchUptoRow, standIns := [], harness := (true, "d657a41c95e6833902f623ffe5f9960ccb79a3b435173214071907cec3fe990d"), looks := false }, kinds := [], alts := [], laidByText := true, laidKinds := [.data, .pinned], laidTests := true, laidLooks := .later }
def MergesMatchUptoCardSaid : Prop := Claim7.holds Tryd.pinned (.plain (OpenSpec.upto mergesMatchSpec)) mergesMatchUptoCard
end Rows
end Go.Proofs.YtfpmjncooelplaaDoor
