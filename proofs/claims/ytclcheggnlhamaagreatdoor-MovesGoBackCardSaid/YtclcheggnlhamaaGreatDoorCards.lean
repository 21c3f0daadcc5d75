/-
  DERIVED. GIVEN WITH THE SEED: THE CARDS: each row of YtclcheggnlhamaaGreatDoorRows.lean that lists a variable, with what it lists TIED to the program's text (the seventh form; the later family's looks); each row that meets fmt, with fmt's text TOLD by the authors' own Lean function (tested against real Go, not proved from fmt's source: count such statements apart). THE CARD IS WHAT COUNTS. Prove the row's statement (the work); the ties are given (YtclcheggnlhamaaGreatDoorTie.lean); close each card by the builder's one call (the guide's Derived/Test/ToyasCard.lean, 'card_holds'). Laid BY PROGRAM, IN A SANDBOX (cutbox-door.mjs). By AI agents, Wed Nov 11 2026. No macro, syntax, notation, axiom, sorry.
-/
import Derived.Test.YtclcheggnlhamaaGreatDoorRows
import GoSem.ClaimSeven
namespace Go.Proofs.YtclcheggnlhamaaGreatDoor
namespace Rows

/-- THE TIED CARD OF 'drawlaw1.LooksMatch'. -/
def looksMatchCard : Claim7 := { stood := { row := looksMatchRow, standIns := [], harness := (true, "b76923a91c5dfd2d0dca9d563ea8b314a2b067cf4cf568577f3debac49879b63"), looks := false }, kinds := [], alts := [], laidByText := true, laidKinds := [.data, .pinned], laidTests := true, laidLooks := .later }
def LooksMatchCardSaid : Prop := Claim7.holds Tryz.pinned (.plain (OpenSpec.ofChange looksMatchSpec)) looksMatchCard

/-- THE TIED CARD OF 'drawlaw1.ChangesMatch'. -/
def changesMatchCard : Claim7 := { stood := { row := changesMatchRow, standIns := [], harness := (true, "b76923a91c5dfd2d0dca9d563ea8b314a2b067cf4cf568577f3debac49879b63"), looks := false }, kinds := [], alts := [], laidByText := true, laidKinds := [.data, .pinned], laidTests := true, laidLooks := .later }
def ChangesMatchCardSaid : Prop := Claim7.holds Tryz.pinned (.plain (OpenSpec.ofChange changesMatchSpec)) changesMatchCard

/-- THE TIED CARD OF 'drawlaw1.MovesMatch'. -/
def movesMatchCard : Claim7 := { stood := { row := movesMatchRow, standIns := [], harness := (true, "b76923a91c5dfd2d0dca9d563ea8b314a2b067cf4cf568577f3debac49879b63"), looks := false }, kinds := [], alts := [], laidByText := true, laidKinds := [.data, .pinned], laidTests := true, laidLooks := .later }
def MovesMatchCardSaid : Prop := Claim7.holds Tryz.pinned (.plain (OpenSpec.ofChange movesMatchSpec)) movesMatchCard

/-- THE TIED CARD OF 'drawlaw1.MovesGoBack'. -/
def movesGoBackCard : Claim7 := { stood := { row := movesGoBackRow, standIns := [], harness := (true, "b76923a91c5dfd2d0dca9d563ea8b314a2b067cf4cf568577f3debac49879b63"), looks := false }, kinds := [], alts := [], laidByText := true, laidKinds := [.data, .pinned], laidTests := true, laidLooks := .later }
def MovesGoBackCardSaid : Prop := Claim7.holds Tryz.pinned (.plain (OpenSpec.ofChange movesGoBackSpec)) movesGoBackCard

/-- THE SECOND FORM's CARD OF 'drawlaw1.LooksMatch'. -/
def looksMatchUptoCard : Claim7 := { stood := { row := looksMatchUptoRow, standIns := [], harness := (true, "b76923a91c5dfd2d0dca9d563ea8b314a2b067cf4cf568577f3debac49879b63"), looks := false }, kinds := [], alts := [], laidByText := true, laidKinds := [.data, .pinned], laidTests := true, laidLooks := .later }
def LooksMatchUptoCardSaid : Prop := Claim7.holds Tryz.pinned (.plain (OpenSpec.upto looksMatchSpec)) looksMatchUptoCard

/-- THE SECOND FORM's CARD OF 'drawlaw1.ChangesMatch'. -/
def changesMatchUptoCard : Claim7 := { stood := { row := changesMatchUptoRow, standIns := [], harness := (true, "b76923a91c5dfd2d0dca9d563ea8b314a2b067cf4cf568577f3debac49879b63"), looks := false }, kinds := [], alts := [], laidByText := true, laidKinds := [.data, .pinned], laidTests := true, laidLooks := .later }
def ChangesMatchUptoCardSaid : Prop := Claim7.holds Tryz.pinned (.plain (OpenSpec.upto changesMatchSpec)) changesMatchUptoCard

/-- THE SECOND FORM's CARD OF 'drawlaw1.MovesMatch'. -/
def movesMatchUptoCard : Claim7 := { stood := { row := movesMatchUptoRow, standIns := [], harness := (true, "b76923a91c5dfd2d0dca9d563ea8b314a2b067cf4cf568577f3debac49879b63"), looks := false }, kinds := [], alts := [], laidByText := true, laidKinds := [.data, .pinned], laidTests := true, laidLooks := .later }
def MovesMatchUptoCardSaid : Prop := Claim7.holds Tryz.pinned (.plain (OpenSpec.upto movesMatchSpec)) movesMatchUptoCard

/-- THE SECOND FORM's CARD OF 'drawlaw1.MovesGoBack'. -/
def movesGoBackUptoCard : Claim7 := { stood := { row := movesGoBackUptoRow, standIns := [], harness := (true, "b76923a91c5dfd2d0dca9d563ea8b314a2b067cf4cf568577f3debac49879b63"), looks := false }, kinds := [], alts := [], laidByText := true, laidKinds := [.data, .pinned], laidTests := true, laidLooks := .later }
def MovesGoBackUptoCardSaid : Prop := Claim7.holds Tryz.pinned (.plain (OpenSpec.upto movesGoBackSpec)) movesGoBackUptoCard
end Rows
end Go.Proofs.YtclcheggnlhamaaGreatDoor
