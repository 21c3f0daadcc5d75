/-
  DERIVED. GIVEN WITH THE SEED: THE CARDS: each row of YthopjimlhjgoiaaDoorRows.lean that lists a variable, with what it lists TIED to the program's text (the seventh form; the later family's looks); each row that meets fmt, with fmt's text TOLD by the authors' own Lean function (tested against real Go, not proved from fmt's source: count such statements apart). THE CARD IS WHAT COUNTS. Prove the row's statement (the work); the ties are given (YthopjimlhjgoiaaDoorTie.lean); close each card by the builder's one call (the guide's Derived/Test/ToyasCard.lean, 'card_holds'). Laid BY PROGRAM, IN A SANDBOX (cutbox-door.mjs). By AI agents, Wed Nov 11 2026. No macro, syntax, notation, axiom, sorry.
-/
import Derived.Test.YthopjimlhjgoiaaDoorRows
import GoSem.ClaimSeven
namespace Go.Proofs.YthopjimlhjgoiaaDoor
namespace Rows

/-- THE TIED CARD OF 'drawlaw1.TextsMatch'. -/
def textsMatchCard : Claim7 := { stood := { row := textsMatchRow, standIns := [], harness := (true, "cf4ce95fefc19c5f82434427bff519552ae994a8c5b2233b78dadaa9da542061"), looks := false }, kinds := [], alts := [], laidByText := true, laidKinds := [.data, .pinned], laidTests := true, laidLooks := .later }
def TextsMatchCardSaid : Prop := Claim7.holds Tryd.pinned (.plain (OpenSpec.ofChange textsMatchSpec)) textsMatchCard

/-- THE TIED CARD OF 'drawtop.TopTexts'. -/
def topTextsCard : Claim7 := { stood := { row := topTextsRow, standIns := [], harness := (true, "cf4ce95fefc19c5f82434427bff519552ae994a8c5b2233b78dadaa9da542061"), looks := false }, kinds := [], alts := [], laidByText := true, laidKinds := [.data, .pinned], laidTests := true, laidLooks := .later }
def TopTextsCardSaid : Prop := Claim7.holds Tryd.pinned (.plain (OpenSpec.ofChange topTextsSpec)) topTextsCard

/-- THE TIED CARD OF 'drawlaw1.FitsMatch'. -/
def fitsMatchCard : Claim7 := { stood := { row := fitsMatchRow, standIns := [], harness := (true, "cf4ce95fefc19c5f82434427bff519552ae994a8c5b2233b78dadaa9da542061"), looks := false }, kinds := [], alts := [], laidByText := true, laidKinds := [.data, .pinned], laidTests := true, laidLooks := .later }
def FitsMatchCardSaid : Prop := Claim7.holds Tryd.pinned (.plain (OpenSpec.ofChange fitsMatchSpec)) fitsMatchCard

/-- THE TIED CARD OF 'drawlaw1.LaysMatch'. -/
def laysMatchCard : Claim7 := { stood := { row := laysMatchRow, standIns := [], harness := (true, "cf4ce95fefc19c5f82434427bff519552ae994a8c5b2233b78dadaa9da542061"), looks := false }, kinds := [], alts := [], laidByText := true, laidKinds := [.data, .pinned], laidTests := true, laidLooks := .later }
def LaysMatchCardSaid : Prop := Claim7.holds Tryd.pinned (.plain (OpenSpec.ofChange laysMatchSpec)) laysMatchCard

/-- THE TIED CARD OF 'drawlaw1.WrapsKeepWords'. -/
def wrapsKeepWordsCard : Claim7 := { stood := { row := wrapsKeepWordsRow, standIns := [], harness := (true, "cf4ce95fefc19c5f82434427bff519552ae994a8c5b2233b78dadaa9da542061"), looks := false }, kinds := [], alts := [], laidByText := true, laidKinds := [.data, .listed, .data, .pinned], laidTests := true, laidLooks := .later }
def WrapsKeepWordsCardSaid : Prop := Claim7.holds Tryd.pinned (.plain (OpenSpec.ofChange wrapsKeepWordsSpec)) wrapsKeepWordsCard

/-- THE SECOND FORM's CARD OF 'drawlaw1.TextsMatch'. -/
def textsMatchUptoCard : Claim7 := { stood := { row := textsMatchUptoRow, standIns := [], harness := (true, "cf4ce95fefc19c5f82434427bff519552ae994a8c5b2233b78dadaa9da542061"), looks := false }, kinds := [], alts := [], laidByText := true, laidKinds := [.data, .pinned], laidTests := true, laidLooks := .later }
def TextsMatchUptoCardSaid : Prop := Claim7.holds Tryd.pinned (.plain (OpenSpec.upto textsMatchSpec)) textsMatchUptoCard

/-- THE SECOND FORM's CARD OF 'drawtop.TopTexts'. -/
def topTextsUptoCard : Claim7 := { stood := { row := topTextsUptoRow, standIns := [], harness := (true, "cf4ce95fefc19c5f82434427bff519552ae994a8c5b2233b78dadaa9da542061"), looks := false }, kinds := [], alts := [], laidByText := true, laidKinds := [.data, .pinned], laidTests := true, laidLooks := .later }
def TopTextsUptoCardSaid : Prop := Claim7.holds Tryd.pinned (.plain (OpenSpec.upto topTextsSpec)) topTextsUptoCard

/-- THE SECOND FORM's CARD OF 'drawlaw1.FitsMatch'. -/
def fitsMatchUptoCard : Claim7 := { stood := { row := fitsMatchUptoRow, standIns := [], harness := (true, "cf4ce95fefc19c5f82434427bff519552ae994a8c5b2233b78dadaa9da542061"), looks := false }, kinds := [], alts := [], laidByText := true, laidKinds := [.data, .pinned], laidTests := true, laidLooks := .later }
def FitsMatchUptoCardSaid : Prop := Claim7.holds Tryd.pinned (.plain (OpenSpec.upto fitsMatchSpec)) fitsMatchUptoCard

/-- THE SECOND FORM's CARD OF 'drawlaw1.LaysMatch'. -/
def laysMatchUptoCard : Claim7 := { stood := { row := laysMatchUptoRow, standIns := [], harness := (true, "cf4ce95fefc19c5f82434427bff519552ae994a8c5b2233b78dadaa9da542061"), looks := false }, kinds := [], alts := [], laidByText := true, laidKinds := [.data, .pinned], laidTests := true, laidLooks := .later }
def LaysMatchUptoCardSaid : Prop := Claim7.holds Tryd.pinned (.plain (OpenSpec.upto laysMatchSpec)) laysMatchUptoCard

/-- THE SECOND FORM's CARD OF 'drawlaw1.WrapsKeepWords'. -/
def wrapsKeepWordsUptoCard : Claim7 := { stood := { row := wrapsKeepWordsUptoRow, standIns := [], harness := (true, "cf4ce95fefc19c5f82434427bff519552ae994a8c5b2233b78dadaa9da542061"), looks := false }, kinds := [], alts := [], laidByText := true, laidKinds := [.data, .listed, .data, .pinned], laidTests := true, laidLooks := .later }
def WrapsKeepWordsUptoCardSaid : Prop := Claim7.holds Tryd.pinned (.plain (OpenSpec.upto wrapsKeepWordsSpec)) wrapsKeepWordsUptoCard
end Rows
end Go.Proofs.YthopjimlhjgoiaaDoor
