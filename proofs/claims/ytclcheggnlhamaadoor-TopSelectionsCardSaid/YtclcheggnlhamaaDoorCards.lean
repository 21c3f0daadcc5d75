/-
  DERIVED. GIVEN WITH THE SEED: THE CARDS: each row of YtclcheggnlhamaaDoorRows.lean that lists a variable, with what it lists TIED to the program's text (the seventh form; the later family's looks); each row that meets fmt, with fmt's text TOLD by the authors' own Lean function (tested against real Go, not proved from fmt's source: count such statements apart). THE CARD IS WHAT COUNTS. Prove the row's statement (the work); the ties are given (YtclcheggnlhamaaDoorTie.lean); close each card by the builder's one call (the guide's Derived/Test/ToyasCard.lean, 'card_holds'). Laid BY PROGRAM, IN A SANDBOX (cutbox-door.mjs). By AI agents, Wed Nov 11 2026. No macro, syntax, notation, axiom, sorry.
-/
import Derived.Test.YtclcheggnlhamaaDoorRows
import GoSem.ClaimSeven
namespace Go.Proofs.YtclcheggnlhamaaDoor
namespace Rows

/-- THE TIED CARD OF 'drawlaw1.UngroupsMatch'. -/
def ungroupsMatchCard : Claim7 := { stood := { row := ungroupsMatchRow, standIns := [], harness := (true, "c9d7f15d9b15599d17e9c66a5e29e286ce1e9c351f1e19272f610ecd0757be22"), looks := false }, kinds := [], alts := [], laidByText := true, laidKinds := [.data, .pinned], laidTests := true, laidLooks := .later }
def UngroupsMatchCardSaid : Prop := Claim7.holds Tryd.pinned (.plain (OpenSpec.ofChange ungroupsMatchSpec)) ungroupsMatchCard

/-- THE TIED CARD OF 'drawlaw1.GuidesMatch'. -/
def guidesMatchCard : Claim7 := { stood := { row := guidesMatchRow, standIns := [], harness := (true, "c9d7f15d9b15599d17e9c66a5e29e286ce1e9c351f1e19272f610ecd0757be22"), looks := false }, kinds := [], alts := [], laidByText := true, laidKinds := [.data, .pinned], laidTests := true, laidLooks := .later }
def GuidesMatchCardSaid : Prop := Claim7.holds Tryd.pinned (.plain (OpenSpec.ofChange guidesMatchSpec)) guidesMatchCard

/-- THE TIED CARD OF 'drawtop.TopSelections'. -/
def topSelectionsCard : Claim7 := { stood := { row := topSelectionsRow, standIns := [], harness := (true, "c9d7f15d9b15599d17e9c66a5e29e286ce1e9c351f1e19272f610ecd0757be22"), looks := false }, kinds := [], alts := [], laidByText := true, laidKinds := [.data, .pinned], laidTests := true, laidLooks := .later }
def TopSelectionsCardSaid : Prop := Claim7.holds Tryd.pinned (.plain (OpenSpec.ofChange topSelectionsSpec)) topSelectionsCard

/-- THE SECOND FORM's CARD OF 'drawlaw1.UngroupsMatch'. -/
def ungroupsMatchUptoCard : Claim7 := { stood := { row := ungroupsMatchUptoRow, standIns := [], harness := (true, "c9d7f15d9b15599d17e9c66a5e29e286ce1e9c351f1e19272f610ecd0757be22"), looks := false }, kinds := [], alts := [], laidByText := true, laidKinds := [.data, .pinned], laidTests := true, laidLooks := .later }
def UngroupsMatchUptoCardSaid : Prop := Claim7.holds Tryd.pinned (.plain (OpenSpec.upto ungroupsMatchSpec)) ungroupsMatchUptoCard

/-- THE SECOND FORM's CARD OF 'drawlaw1.GuidesMatch'. -/
def guidesMatchUptoCard : Claim7 := { stood := { row := guidesMatchUptoRow, standIns := [], harness := (true, "c9d7f15d9b15599d17e9c66a5e29e286ce1e9c351f1e19272f610ecd0757be22"), looks := false }, kinds := [], alts := [], laidByText := true, laidKinds := [.data, .pinned], laidTests := true, laidLooks := .later }
def GuidesMatchUptoCardSaid : Prop := Claim7.holds Tryd.pinned (.plain (OpenSpec.upto guidesMatchSpec)) guidesMatchUptoCard

/-- THE SECOND FORM's CARD OF 'drawtop.TopSelections'. -/
def topSelectionsUptoCard : Claim7 := { stood := { row := topSelectionsUptoRow, standIns := [], harness := (true, "c9d7f15d9b15599d17e9c66a5e29e286ce1e9c351f1e19272f610ecd0757be22"), looks := false }, kinds := [], alts := [], laidByText := true, laidKinds := [.data, .pinned], laidTests := true, laidLooks := .later }
def TopSelectionsUptoCardSaid : Prop := Claim7.holds Tryd.pinned (.plain (OpenSpec.upto topSelectionsSpec)) topSelectionsUptoCard
end Rows
end Go.Proofs.YtclcheggnlhamaaDoor
