/-
  DERIVED. GIVEN WITH THE SEED: THE CARDS: each row of YtmfcdppbnbfpjaaGreatDoorRows.lean that lists a variable, with what it lists TIED to the program's text (the seventh form; the later family's looks); each row that meets fmt, with fmt's text TOLD by the authors' own Lean function (tested against real Go, not proved from fmt's source: count such statements apart). THE CARD IS WHAT COUNTS. Prove the row's statement (the work); the ties are given (YtmfcdppbnbfpjaaGreatDoorTie.lean); close each card by the builder's one call (the guide's Derived/Test/ToyasCard.lean, 'card_holds'). Laid BY PROGRAM, IN A SANDBOX (cutbox-door.mjs). By AI agents, Wed Nov 11 2026. No macro, syntax, notation, axiom, sorry.
-/
import Derived.Test.YtmfcdppbnbfpjaaGreatDoorRows
import GoSem.ClaimSeven
namespace Go.Proofs.YtmfcdppbnbfpjaaGreatDoor
namespace Rows

/-- THE TIED CARD OF 'drawlaw1.ReroutesMatch'. -/
def reroutesMatchCard : Claim7 := { stood := { row := reroutesMatchRow, standIns := [], harness := (true, "fe56882dcb64d0b956e1e0a07370921dbe970ff9f98f9371aba411b2c85ea8c9"), looks := true }, kinds := [], alts := [], laidByText := true, laidKinds := [.data, .pinned], laidTests := true, laidLooks := .later }
def ReroutesMatchCardSaid : Prop := Claim7.holds Tryz.pinned (.plain (OpenSpec.ofChange reroutesMatchSpec)) reroutesMatchCard

/-- THE SECOND FORM's CARD OF 'drawlaw1.ReroutesMatch'. -/
def reroutesMatchUptoCard : Claim7 := { stood := { row := reroutesMatchUptoRow, standIns := [], harness := (true, "fe56882dcb64d0b956e1e0a07370921dbe970ff9f98f9371aba411b2c85ea8c9"), looks := true }, kinds := [], alts := [], laidByText := true, laidKinds := [.data, .pinned], laidTests := true, laidLooks := .later }
def ReroutesMatchUptoCardSaid : Prop := Claim7.holds Tryz.pinned (.plain (OpenSpec.upto reroutesMatchSpec)) reroutesMatchUptoCard
end Rows
end Go.Proofs.YtmfcdppbnbfpjaaGreatDoor
