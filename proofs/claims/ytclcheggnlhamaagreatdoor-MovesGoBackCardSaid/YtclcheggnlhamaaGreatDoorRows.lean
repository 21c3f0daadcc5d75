/-
  NARROWER THAN 'FOR EVERY INPUT', by the rows' own cells (each row's printed sentence says how): LooksMatch: laid · ChangesMatch: laid · MovesMatch: laid · MovesGoBack: laid.
  DERIVED. THE GIVEN ROWS OF THIS SEAT. 4 by the template 'for every input the law returns true; each argument reads behind the call as it read before'; 0 by the template 'total and deterministic' (their statements: YtclcheggnlhamaaGreatDoorTotals.lean).
  GIVEN WITH THE SEED: the statements are not yours to turn. If you find one false, say at which input.
  Laid BY PROGRAM, IN A SANDBOX (cutbox-rows.mjs): the forced cells as the released guide's own fill.sh prints them over the translation 34433823e03aacc8… (all of the seat's roots in one cut). By AI agents, Wed Nov 11 2026. No macro, syntax, notation, axiom, sorry.
-/
import Derived.Test.YtclcheggnlhamaaGreatDoorChecked
import GoSem.PinnedTables
import GoSem.Claim
import GoSem.ClaimJoined
import GoSem.ClaimMapViews
import Derived.JoinedTies
import Derived.KernelRfl
namespace Go.Proofs.YtclcheggnlhamaaGreatDoor
/- THE CELL 'sum', in the pinned program and in every row, IS THE sha256 OF THE DUMP (.gsa) THAT YtclcheggnlhamaaGreatDoorProg.lean LOADS. Nothing in Lean hashes anything: it is a label: what it is worth is what the hold of that sum in a sandbox is worth. -/
noncomputable def Tryz.pinned : Pinned := { name := "ytclcheggnlhamaagreatdoor", sum := "34433823e03aacc81e49b643195233a52cd18790b223c6926c0637759b77068b", checked := Tryz.checked }
namespace Rows
def none {H : Type} : Left H := { results := [], args := [] }

/- WHAT THE LISTED PACKAGE-LEVEL VARIABLES READ AS WHEN THE CALL BEGINS. Each datum BY PROGRAM (the guide's laid-datum.mjs) off the statement by which the dump's own 'gosem.cut.vars' lays the variable. In a bare row this is a premise. The card (YtclcheggnlhamaaGreatDoorCards.lean) ties it to the program's text. -/
def laid_unicode_utf8_acceptRanges {H : Type} : DataW H := .agg [.agg [.lit (.int .u8 128), .lit (.int .u8 191)], .agg [.lit (.int .u8 160), .lit (.int .u8 191)], .agg [.lit (.int .u8 128), .lit (.int .u8 159)], .agg [.lit (.int .u8 144), .lit (.int .u8 191)], .agg [.lit (.int .u8 128), .lit (.int .u8 143)], .agg [.lit (.int .u8 0), .lit (.int .u8 0)], .agg [.lit (.int .u8 0), .lit (.int .u8 0)], .agg [.lit (.int .u8 0), .lit (.int .u8 0)], .agg [.lit (.int .u8 0), .lit (.int .u8 0)], .agg [.lit (.int .u8 0), .lit (.int .u8 0)], .agg [.lit (.int .u8 0), .lit (.int .u8 0)], .agg [.lit (.int .u8 0), .lit (.int .u8 0)], .agg [.lit (.int .u8 0), .lit (.int .u8 0)], .agg [.lit (.int .u8 0), .lit (.int .u8 0)], .agg [.lit (.int .u8 0), .lit (.int .u8 0)], .agg [.lit (.int .u8 0), .lit (.int .u8 0)]]
/-- One of Go's own tables, pinned by name: the form's constant. -/
def laid_unicode_utf8_first : DataW Unit := Go.Pinned.utf8First

/-- 'drawlaw1.LooksMatch': WHATEVER THE INPUT: true; the input reads as it did. -/
def looksMatchSpec : ChangeSpec := { name := "looksMatch", fn := fun _ => fun
  | [d1, d2, d3, d4, d5] => { results := [.lit (.bool true)], args := [d1, d2, d3, d4, d5] }
  | _ => none }
def looksMatchRow : OpenClaim := { program := "ytclcheggnlhamaagreatdoor", sum := "34433823e03aacc81e49b643195233a52cd18790b223c6926c0637759b77068b", func := "drawboard/drawlaw1.LooksMatch", spec := "looksMatch", inPlace := ["internal/bytealg.IndexByteString", "internal/bytealg.IndexString"], unfollowed := true, recurses := true, named := ["unicode/utf8.first", "unicode/utf8.acceptRanges", "internal/bytealg.MaxLen"], apart := false, laid := [("unicode/utf8.acceptRanges", laid_unicode_utf8_acceptRanges), ("unicode/utf8.first", laid_unicode_utf8_first)] }
def LooksMatchSaid : Prop := looksMatchRow.holds Tryz.pinned (OpenSpec.ofChange looksMatchSpec)

/-- ITS FALSE NEIGHBOUR: 'it returns false'. Refute it at one input. -/
def looksMatchWrong : ChangeSpec := { name := "looksMatch", fn := fun _ => fun
  | [d1, d2, d3, d4, d5] => { results := [.lit (.bool false)], args := [d1, d2, d3, d4, d5] }
  | _ => none }
def LooksMatchWrongFalsely : Prop := looksMatchRow.holds Tryz.pinned (OpenSpec.ofChange looksMatchWrong)

/-- 'drawlaw1.ChangesMatch': WHATEVER THE INPUT: true; the input reads as it did. -/
def changesMatchSpec : ChangeSpec := { name := "changesMatch", fn := fun _ => fun
  | [d1, d2, d3, d4, d5, d6, d7] => { results := [.lit (.bool true)], args := [d1, d2, d3, d4, d5, d6, d7] }
  | _ => none }
def changesMatchRow : OpenClaim := { program := "ytclcheggnlhamaagreatdoor", sum := "34433823e03aacc81e49b643195233a52cd18790b223c6926c0637759b77068b", func := "drawboard/drawlaw1.ChangesMatch", spec := "changesMatch", inPlace := ["internal/bytealg.IndexByteString", "internal/bytealg.IndexString", "slices.overlaps[drawboard/api.Node]"], unfollowed := true, recurses := true, named := ["unicode/utf8.first", "unicode/utf8.acceptRanges", "internal/bytealg.MaxLen"], apart := false, laid := [("unicode/utf8.acceptRanges", laid_unicode_utf8_acceptRanges), ("unicode/utf8.first", laid_unicode_utf8_first)] }
def ChangesMatchSaid : Prop := changesMatchRow.holds Tryz.pinned (OpenSpec.ofChange changesMatchSpec)

/-- ITS FALSE NEIGHBOUR: 'it returns false'. Refute it at one input. -/
def changesMatchWrong : ChangeSpec := { name := "changesMatch", fn := fun _ => fun
  | [d1, d2, d3, d4, d5, d6, d7] => { results := [.lit (.bool false)], args := [d1, d2, d3, d4, d5, d6, d7] }
  | _ => none }
def ChangesMatchWrongFalsely : Prop := changesMatchRow.holds Tryz.pinned (OpenSpec.ofChange changesMatchWrong)

/-- 'drawlaw1.MovesMatch': WHATEVER THE INPUT: true; the input reads as it did. -/
def movesMatchSpec : ChangeSpec := { name := "movesMatch", fn := fun _ => fun
  | [d1, d2, d3, d4, d5, d6] => { results := [.lit (.bool true)], args := [d1, d2, d3, d4, d5, d6] }
  | _ => none }
def movesMatchRow : OpenClaim := { program := "ytclcheggnlhamaagreatdoor", sum := "34433823e03aacc81e49b643195233a52cd18790b223c6926c0637759b77068b", func := "drawboard/drawlaw1.MovesMatch", spec := "movesMatch", inPlace := ["internal/bytealg.IndexByteString", "internal/bytealg.IndexString"], unfollowed := true, recurses := true, named := ["unicode/utf8.first", "unicode/utf8.acceptRanges", "internal/bytealg.MaxLen"], apart := false, laid := [("unicode/utf8.acceptRanges", laid_unicode_utf8_acceptRanges), ("unicode/utf8.first", laid_unicode_utf8_first)] }
def MovesMatchSaid : Prop := movesMatchRow.holds Tryz.pinned (OpenSpec.ofChange movesMatchSpec)

/-- ITS FALSE NEIGHBOUR: 'it returns false'. Refute it at one input. -/
def movesMatchWrong : ChangeSpec := { name := "movesMatch", fn := fun _ => fun
  | [d1, d2, d3, d4, d5, d6] => { results := [.lit (.bool false)], args := [d1, d2, d3, d4, d5, d6] }
  | _ => none }
def MovesMatchWrongFalsely : Prop := movesMatchRow.holds Tryz.pinned (OpenSpec.ofChange movesMatchWrong)

/-- 'drawlaw1.MovesGoBack': WHATEVER THE INPUT: true; the input reads as it did. -/
def movesGoBackSpec : ChangeSpec := { name := "movesGoBack", fn := fun _ => fun
  | [d1, d2, d3, d4, d5, d6] => { results := [.lit (.bool true)], args := [d1, d2, d3, d4, d5, d6] }
  | _ => none }
def movesGoBackRow : OpenClaim := { program := "ytclcheggnlhamaagreatdoor", sum := "34433823e03aacc81e49b643195233a52cd18790b223c6926c0637759b77068b", func := "drawboard/drawlaw1.MovesGoBack", spec := "movesGoBack", inPlace := ["internal/bytealg.IndexByteString", "internal/bytealg.IndexString", "slices.overlaps[drawboard/api.Node]"], unfollowed := true, recurses := true, named := ["unicode/utf8.first", "unicode/utf8.acceptRanges", "internal/bytealg.MaxLen"], apart := false, laid := [("unicode/utf8.acceptRanges", laid_unicode_utf8_acceptRanges), ("unicode/utf8.first", laid_unicode_utf8_first)] }
def MovesGoBackSaid : Prop := movesGoBackRow.holds Tryz.pinned (OpenSpec.ofChange movesGoBackSpec)

/-- ITS FALSE NEIGHBOUR: 'it returns false'. Refute it at one input. -/
def movesGoBackWrong : ChangeSpec := { name := "movesGoBack", fn := fun _ => fun
  | [d1, d2, d3, d4, d5, d6] => { results := [.lit (.bool false)], args := [d1, d2, d3, d4, d5, d6] }
  | _ => none }
def MovesGoBackWrongFalsely : Prop := movesGoBackRow.holds Tryz.pinned (OpenSpec.ofChange movesGoBackWrong)

/- THE SECOND FORM. 'bulk': how many values and letters a reading holds, each counted each time it is reached (what is shared counts as often as it is met; a slice's spare places count too). A statement '..UptoSaid' is the law's where the arguments, and the package variables that the reading takes, are together of bulk at most 1048576: NARROWER than '..Said'. Prove '..Said' where nothing that the law and all that it calls make is longer than what came in: it says more and counts as full. Else prove '..UptoSaid'. A law counts once. -/
mutual
def uptoBulk {H : Type} : DataW H → Nat
  | .lit (.string bytes) => bytes.length + 1
  | .lit _ => 1
  | .nil => 1
  | .ptr d => uptoBulk d + 1
  | .slice elems spare => uptoBulkAll elems + uptoBulkAll spare + 1
  | .agg parts => uptoBulkAll parts + 1
  | .iface _ d => uptoBulk d + 1
  | .map entries => uptoBulkEntries entries + 1
  | .held _ => 1
def uptoBulkAll {H : Type} : List (DataW H) → Nat
  | [] => 0
  | d :: r => uptoBulk d + uptoBulkAll r
def uptoBulkEntries {H : Type} : List (Lit × DataW H) → Nat
  | [] => 0
  | x :: r => uptoBulkEntry x + uptoBulkEntries r
def uptoBulkEntry {H : Type} : Lit × DataW H → Nat
  | (.string bytes, d) => bytes.length + uptoBulk d + 1
  | (_, d) => uptoBulk d + 1
 end
def uptoSmall : (H : Type) → List (DataW H) → Bool := fun _ ds => decide (uptoBulkAll ds ≤ 1048576)
def OpenSpec.upto (s : _root_.Go.ChangeSpec) : _root_.Go.OpenSpec := { _root_.Go.OpenSpec.ofChange s with cond := some uptoSmall }

/-- 'drawlaw1.LooksMatch', WHERE WHAT IT READS IS OF BULK AT MOST 1048576: true; the input reads as it did. -/
def looksMatchUptoRow : OpenClaim := { program := "ytclcheggnlhamaagreatdoor", sum := "34433823e03aacc81e49b643195233a52cd18790b223c6926c0637759b77068b", func := "drawboard/drawlaw1.LooksMatch", spec := "looksMatch", inPlace := ["internal/bytealg.IndexByteString", "internal/bytealg.IndexString"], unfollowed := true, recurses := true, named := ["unicode/utf8.first", "unicode/utf8.acceptRanges", "internal/bytealg.MaxLen"], apart := false, laid := [("unicode/utf8.acceptRanges", laid_unicode_utf8_acceptRanges), ("unicode/utf8.first", laid_unicode_utf8_first)], narrowed := true }
def LooksMatchUptoSaid : Prop := looksMatchUptoRow.holds Tryz.pinned (OpenSpec.upto looksMatchSpec)

/-- 'drawlaw1.ChangesMatch', WHERE WHAT IT READS IS OF BULK AT MOST 1048576: true; the input reads as it did. -/
def changesMatchUptoRow : OpenClaim := { program := "ytclcheggnlhamaagreatdoor", sum := "34433823e03aacc81e49b643195233a52cd18790b223c6926c0637759b77068b", func := "drawboard/drawlaw1.ChangesMatch", spec := "changesMatch", inPlace := ["internal/bytealg.IndexByteString", "internal/bytealg.IndexString", "slices.overlaps[drawboard/api.Node]"], unfollowed := true, recurses := true, named := ["unicode/utf8.first", "unicode/utf8.acceptRanges", "internal/bytealg.MaxLen"], apart := false, laid := [("unicode/utf8.acceptRanges", laid_unicode_utf8_acceptRanges), ("unicode/utf8.first", laid_unicode_utf8_first)], narrowed := true }
def ChangesMatchUptoSaid : Prop := changesMatchUptoRow.holds Tryz.pinned (OpenSpec.upto changesMatchSpec)

/-- 'drawlaw1.MovesMatch', WHERE WHAT IT READS IS OF BULK AT MOST 1048576: true; the input reads as it did. -/
def movesMatchUptoRow : OpenClaim := { program := "ytclcheggnlhamaagreatdoor", sum := "34433823e03aacc81e49b643195233a52cd18790b223c6926c0637759b77068b", func := "drawboard/drawlaw1.MovesMatch", spec := "movesMatch", inPlace := ["internal/bytealg.IndexByteString", "internal/bytealg.IndexString"], unfollowed := true, recurses := true, named := ["unicode/utf8.first", "unicode/utf8.acceptRanges", "internal/bytealg.MaxLen"], apart := false, laid := [("unicode/utf8.acceptRanges", laid_unicode_utf8_acceptRanges), ("unicode/utf8.first", laid_unicode_utf8_first)], narrowed := true }
def MovesMatchUptoSaid : Prop := movesMatchUptoRow.holds Tryz.pinned (OpenSpec.upto movesMatchSpec)

/-- 'drawlaw1.MovesGoBack', WHERE WHAT IT READS IS OF BULK AT MOST 1048576: true; the input reads as it did. -/
def movesGoBackUptoRow : OpenClaim := { program := "ytclcheggnlhamaagreatdoor", sum := "34433823e03aacc81e49b643195233a52cd18790b223c6926c0637759b77068b", func := "drawboard/drawlaw1.MovesGoBack", spec := "movesGoBack", inPlace := ["internal/bytealg.IndexByteString", "internal/bytealg.IndexString", "slices.overlaps[drawboard/api.Node]"], unfollowed := true, recurses := true, named := ["unicode/utf8.first", "unicode/utf8.acceptRanges", "internal/bytealg.MaxLen"], apart := false, laid := [("unicode/utf8.acceptRanges", laid_unicode_utf8_acceptRanges), ("unicode/utf8.first", laid_unicode_utf8_first)], narrowed := true }
def MovesGoBackUptoSaid : Prop := movesGoBackUptoRow.holds Tryz.pinned (OpenSpec.upto movesGoBackSpec)

end Rows
end Go.Proofs.YtclcheggnlhamaaGreatDoor
