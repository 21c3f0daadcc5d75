/-
  DERIVED. GIVEN WITH THE SEED: THE CARDS: each row of YtlkebjlooppdlaaGreatDoorRows.lean that lists a variable, with what it lists TIED to the program's text (the seventh form; the later family's looks); each row that meets fmt, with fmt's text TOLD by the authors' own Lean function (tested against real Go, not proved from fmt's source: count such statements apart). THE CARD IS WHAT COUNTS. Prove the row's statement (the work); the ties are given (YtlkebjlooppdlaaGreatDoorTie.lean); close each card by the builder's one call (the guide's Derived/Test/ToyasCard.lean, 'card_holds'). Laid BY PROGRAM, IN A SANDBOX (cutbox-door.mjs). By AI agents, Wed Nov 11 2026. No macro, syntax, notation, axiom, sorry.
-/
import Derived.Test.YtlkebjlooppdlaaGreatDoorRows
import GoSem.ClaimSeven
namespace Go.Proofs.YtlkebjlooppdlaaGreatDoor
namespace Rows

/-- THE TIED CARD OF 'drawlaw1.StatesMatch'. -/
def statesMatchCard : Claim7 := { stood := { row := statesMatchRow, standIns := [], harness := (true, "e241b57b534ace16a482287a3e6b55634a3af2a93225d50919a5004dacb98df9"), looks := false }, kinds := [], alts := [], laidByText := true, laidKinds := [.data, .pinned], laidTests := true, laidLooks := .later }
def StatesMatchCardSaid : Prop := Claim7.holds Tryz.pinned (.plain (OpenSpec.ofChange statesMatchSpec)) statesMatchCard

/-- THE TIED CARD OF 'drawtop.TopEditsMeet'. -/
def topEditsMeetCard : Claim7 := { stood := { row := topEditsMeetRow, standIns := [], harness := (true, "e241b57b534ace16a482287a3e6b55634a3af2a93225d50919a5004dacb98df9"), looks := false }, kinds := [], alts := [], laidByText := true, laidKinds := [.data, .pinned], laidTests := true, laidLooks := .later }
def TopEditsMeetCardSaid : Prop := Claim7.holds Tryz.pinned (.plain (OpenSpec.ofChange topEditsMeetSpec)) topEditsMeetCard

/-- THE SECOND FORM's CARD OF 'drawlaw1.StatesMatch'. -/
def statesMatchUptoCard : Claim7 := { stood := { row := statesMatchUptoRow, standIns := [], harness := (true, "e241b57b534ace16a482287a3e6b55634a3af2a93225d50919a5004dacb98df9"), looks := false }, kinds := [], alts := [], laidByText := true, laidKinds := [.data, .pinned], laidTests := true, laidLooks := .later }
def StatesMatchUptoCardSaid : Prop := Claim7.holds Tryz.pinned (.plain (OpenSpec.upto statesMatchSpec)) statesMatchUptoCard

/-- THE SECOND FORM's CARD OF 'drawtop.TopEditsMeet'. -/
def topEditsMeetUptoCard : Claim7 := { stood := { row := topEditsMeetUptoRow, standIns := [], harness := (true, "e241b57b534ace16a482287a3e6b55634a3af2a93225d50919a5004dacb98df9"), looks := false }, kinds := [], alts := [], laidByText := true, laidKinds := [.data, .pinned], laidTests := true, laidLooks := .later }
def TopEditsMeetUptoCardSaid : Prop := Claim7.holds Tryz.pinned (.plain (OpenSpec.upto topEditsMeetSpec)) topEditsMeetUptoCard
end Rows
end Go.Proofs.YtlkebjlooppdlaaGreatDoor
