/-
  No cell of these rows narrows 'for every input' (looked for: loops, veiled, ifaces, maps, wideKeys, modest, calm, conditions, laid).
  DERIVED. THE GIVEN ROWS OF THIS SEAT. 7 by the template 'for every input the law returns true; each argument reads behind the call as it read before'; 0 by the template 'total and deterministic' (their statements: YtakkmmhjohadaaaTotals.lean).
  GIVEN WITH THE SEED: the statements are not yours to turn. If you find one false, say at which input.
  Laid BY PROGRAM, IN A SANDBOX (cutbox-rows.mjs): the forced cells as the released guide's own fill.sh prints them over the translation afc02d7684859612… (all of the seat's roots in one cut). By AI agents, Wed Nov 11 2026. No macro, syntax, notation, axiom, sorry.
-/
import Derived.Test.YtakkmmhjohadaaaChecked
import GoSem.Claim
import GoSem.ClaimJoined
import GoSem.ClaimMapViews
import Derived.JoinedTies
import Derived.KernelRfl
namespace Go.Proofs.Ytakkmmhjohadaaa
/- THE CELL 'sum', in the pinned program and in every row, IS THE sha256 OF THE DUMP (.gsa) THAT YtakkmmhjohadaaaProg.lean LOADS. Nothing in Lean hashes anything: it is a label: what it is worth is what the hold of that sum in a sandbox is worth. -/
noncomputable def Try.pinned : Pinned := { name := "ytakkmmhjohadaaa", sum := "afc02d7684859612612ed6cc62beabc81b5311c0a1968d9683df392f84002333", checked := Try.checked }
namespace Rows
def none {H : Type} : Left H := { results := [], args := [] }

/-- 'drawlaw1.TotalsMatch': WHATEVER THE INPUT: true; the input reads as it did. -/
def totalsMatchSpec : ChangeSpec := { name := "totalsMatch", fn := fun _ => fun
  | [d1, d2, d3] => { results := [.lit (.bool true)], args := [d1, d2, d3] }
  | _ => none }
def totalsMatchRow : OpenClaim := { program := "ytakkmmhjohadaaa", sum := "afc02d7684859612612ed6cc62beabc81b5311c0a1968d9683df392f84002333", func := "drawboard/drawlaw1.TotalsMatch", spec := "totalsMatch", unfollowed := true, recurses := true, apart := false }
def TotalsMatchSaid : Prop := totalsMatchRow.holds Try.pinned (OpenSpec.ofChange totalsMatchSpec)

/-- ITS FALSE NEIGHBOUR: 'it returns false'. Refute it at one input. -/
def totalsMatchWrong : ChangeSpec := { name := "totalsMatch", fn := fun _ => fun
  | [d1, d2, d3] => { results := [.lit (.bool false)], args := [d1, d2, d3] }
  | _ => none }
def TotalsMatchWrongFalsely : Prop := totalsMatchRow.holds Try.pinned (OpenSpec.ofChange totalsMatchWrong)

/-- 'drawlaw1.RowsMatch': WHATEVER THE INPUT: true; the input reads as it did. -/
def rowsMatchSpec : ChangeSpec := { name := "rowsMatch", fn := fun _ => fun
  | [d1, d2, d3] => { results := [.lit (.bool true)], args := [d1, d2, d3] }
  | _ => none }
def rowsMatchRow : OpenClaim := { program := "ytakkmmhjohadaaa", sum := "afc02d7684859612612ed6cc62beabc81b5311c0a1968d9683df392f84002333", func := "drawboard/drawlaw1.RowsMatch", spec := "rowsMatch", unfollowed := true, recurses := true, apart := false }
def RowsMatchSaid : Prop := rowsMatchRow.holds Try.pinned (OpenSpec.ofChange rowsMatchSpec)

/-- ITS FALSE NEIGHBOUR: 'it returns false'. Refute it at one input. -/
def rowsMatchWrong : ChangeSpec := { name := "rowsMatch", fn := fun _ => fun
  | [d1, d2, d3] => { results := [.lit (.bool false)], args := [d1, d2, d3] }
  | _ => none }
def RowsMatchWrongFalsely : Prop := rowsMatchRow.holds Try.pinned (OpenSpec.ofChange rowsMatchWrong)

/-- 'drawlaw1.EvensMatch': WHATEVER THE INPUT: true; the input reads as it did. -/
def evensMatchSpec : ChangeSpec := { name := "evensMatch", fn := fun _ => fun
  | [d1, d2, d3] => { results := [.lit (.bool true)], args := [d1, d2, d3] }
  | _ => none }
def evensMatchRow : OpenClaim := { program := "ytakkmmhjohadaaa", sum := "afc02d7684859612612ed6cc62beabc81b5311c0a1968d9683df392f84002333", func := "drawboard/drawlaw1.EvensMatch", spec := "evensMatch", unfollowed := true, recurses := true, apart := false }
def EvensMatchSaid : Prop := evensMatchRow.holds Try.pinned (OpenSpec.ofChange evensMatchSpec)

/-- ITS FALSE NEIGHBOUR: 'it returns false'. Refute it at one input. -/
def evensMatchWrong : ChangeSpec := { name := "evensMatch", fn := fun _ => fun
  | [d1, d2, d3] => { results := [.lit (.bool false)], args := [d1, d2, d3] }
  | _ => none }
def EvensMatchWrongFalsely : Prop := evensMatchRow.holds Try.pinned (OpenSpec.ofChange evensMatchWrong)

/-- 'drawlaw1.TidiesMatch': WHATEVER THE INPUT: true; the input reads as it did. -/
def tidiesMatchSpec : ChangeSpec := { name := "tidiesMatch", fn := fun _ => fun
  | [d1, d2, d3] => { results := [.lit (.bool true)], args := [d1, d2, d3] }
  | _ => none }
def tidiesMatchRow : OpenClaim := { program := "ytakkmmhjohadaaa", sum := "afc02d7684859612612ed6cc62beabc81b5311c0a1968d9683df392f84002333", func := "drawboard/drawlaw1.TidiesMatch", spec := "tidiesMatch", unfollowed := true, recurses := true, apart := false }
def TidiesMatchSaid : Prop := tidiesMatchRow.holds Try.pinned (OpenSpec.ofChange tidiesMatchSpec)

/-- ITS FALSE NEIGHBOUR: 'it returns false'. Refute it at one input. -/
def tidiesMatchWrong : ChangeSpec := { name := "tidiesMatch", fn := fun _ => fun
  | [d1, d2, d3] => { results := [.lit (.bool false)], args := [d1, d2, d3] }
  | _ => none }
def TidiesMatchWrongFalsely : Prop := tidiesMatchRow.holds Try.pinned (OpenSpec.ofChange tidiesMatchWrong)

/-- 'drawlaw1.TidiesAreTidy': WHATEVER THE INPUT: true; the input reads as it did. -/
def tidiesAreTidySpec : ChangeSpec := { name := "tidiesAreTidy", fn := fun _ => fun
  | [d1, d2, d3, d4, d5] => { results := [.lit (.bool true)], args := [d1, d2, d3, d4, d5] }
  | _ => none }
def tidiesAreTidyRow : OpenClaim := { program := "ytakkmmhjohadaaa", sum := "afc02d7684859612612ed6cc62beabc81b5311c0a1968d9683df392f84002333", func := "drawboard/drawlaw1.TidiesAreTidy", spec := "tidiesAreTidy", unfollowed := true, recurses := true, apart := false }
def TidiesAreTidySaid : Prop := tidiesAreTidyRow.holds Try.pinned (OpenSpec.ofChange tidiesAreTidySpec)

/-- ITS FALSE NEIGHBOUR: 'it returns false'. Refute it at one input. -/
def tidiesAreTidyWrong : ChangeSpec := { name := "tidiesAreTidy", fn := fun _ => fun
  | [d1, d2, d3, d4, d5] => { results := [.lit (.bool false)], args := [d1, d2, d3, d4, d5] }
  | _ => none }
def TidiesAreTidyWrongFalsely : Prop := tidiesAreTidyRow.holds Try.pinned (OpenSpec.ofChange tidiesAreTidyWrong)

/-- 'drawtop.TopTrees': WHATEVER THE INPUT: true; the input reads as it did. -/
def topTreesSpec : ChangeSpec := { name := "topTrees", fn := fun _ => fun
  | [d1, d2, d3] => { results := [.lit (.bool true)], args := [d1, d2, d3] }
  | _ => none }
def topTreesRow : OpenClaim := { program := "ytakkmmhjohadaaa", sum := "afc02d7684859612612ed6cc62beabc81b5311c0a1968d9683df392f84002333", func := "drawboard/drawtop.TopTrees", spec := "topTrees", unfollowed := true, recurses := true, apart := false }
def TopTreesSaid : Prop := topTreesRow.holds Try.pinned (OpenSpec.ofChange topTreesSpec)

/-- ITS FALSE NEIGHBOUR: 'it returns false'. Refute it at one input. -/
def topTreesWrong : ChangeSpec := { name := "topTrees", fn := fun _ => fun
  | [d1, d2, d3] => { results := [.lit (.bool false)], args := [d1, d2, d3] }
  | _ => none }
def TopTreesWrongFalsely : Prop := topTreesRow.holds Try.pinned (OpenSpec.ofChange topTreesWrong)

/-- 'drawlaw1.TreesMatch': WHATEVER THE INPUT: true; the input reads as it did. -/
def treesMatchSpec : ChangeSpec := { name := "treesMatch", fn := fun _ => fun
  | [d1, d2, d3, d4] => { results := [.lit (.bool true)], args := [d1, d2, d3, d4] }
  | _ => none }
def treesMatchRow : OpenClaim := { program := "ytakkmmhjohadaaa", sum := "afc02d7684859612612ed6cc62beabc81b5311c0a1968d9683df392f84002333", func := "drawboard/drawlaw1.TreesMatch", spec := "treesMatch", unfollowed := true, recurses := true, apart := false }
def TreesMatchSaid : Prop := treesMatchRow.holds Try.pinned (OpenSpec.ofChange treesMatchSpec)

/-- ITS FALSE NEIGHBOUR: 'it returns false'. Refute it at one input. -/
def treesMatchWrong : ChangeSpec := { name := "treesMatch", fn := fun _ => fun
  | [d1, d2, d3, d4] => { results := [.lit (.bool false)], args := [d1, d2, d3, d4] }
  | _ => none }
def TreesMatchWrongFalsely : Prop := treesMatchRow.holds Try.pinned (OpenSpec.ofChange treesMatchWrong)

/- THE SECOND FORM. 'bulk': how many values and letters a reading holds, each counted each time it is reached (what is shared counts as often as it is met; a slice's spare places count too). A statement '..UptoSaid' is the law's where the arguments, and the package variables that the reading takes, are together of bulk at most 1048576: NARROWER than '..Said'. Prove '..Said' where nothing that the law and all that it calls make is longer than what came in: it says more and counts as full. Else prove '..UptoSaid'. A law counts once. -/
mutual
def uptoBulk {H : Type} : DataW H → Nat
  | .lit (.string bytes) => bytes.length + 1
  | .lit _ => 1
  | .nil => 1
  | .ptr d => uptoBulk d + 1
  | .slice elems spare => uptoBulkAll elems + uptoBulkAll spare + 1
  | .agg parts => uptoBulkAll parts + 1
  | .iface _ d => uptoBulk d + 1
  | .map entries => uptoBulkEntries entries + 1
  | .held _ => 1
def uptoBulkAll {H : Type} : List (DataW H) → Nat
  | [] => 0
  | d :: r => uptoBulk d + uptoBulkAll r
def uptoBulkEntries {H : Type} : List (Lit × DataW H) → Nat
  | [] => 0
  | x :: r => uptoBulkEntry x + uptoBulkEntries r
def uptoBulkEntry {H : Type} : Lit × DataW H → Nat
  | (.string bytes, d) => bytes.length + uptoBulk d + 1
  | (_, d) => uptoBulk d + 1
 end
def uptoSmall : (H : Type) → List (DataW H) → Bool := fun _ ds => decide (uptoBulkAll ds ≤ 1048576)
def OpenSpec.upto (s : _root_.Go.ChangeSpec) : _root_.Go.OpenSpec := { _root_.Go.OpenSpec.ofChange s with cond := some uptoSmall }

/-- 'drawlaw1.TotalsMatch', WHERE WHAT IT READS IS OF BULK AT MOST 1048576: true; the input reads as it did. -/
def totalsMatchUptoRow : OpenClaim := { program := "ytakkmmhjohadaaa", sum := "afc02d7684859612612ed6cc62beabc81b5311c0a1968d9683df392f84002333", func := "drawboard/drawlaw1.TotalsMatch", spec := "totalsMatch", unfollowed := true, recurses := true, apart := false, narrowed := true }
def TotalsMatchUptoSaid : Prop := totalsMatchUptoRow.holds Try.pinned (OpenSpec.upto totalsMatchSpec)

/-- 'drawlaw1.RowsMatch', WHERE WHAT IT READS IS OF BULK AT MOST 1048576: true; the input reads as it did. -/
def rowsMatchUptoRow : OpenClaim := { program := "ytakkmmhjohadaaa", sum := "afc02d7684859612612ed6cc62beabc81b5311c0a1968d9683df392f84002333", func := "drawboard/drawlaw1.RowsMatch", spec := "rowsMatch", unfollowed := true, recurses := true, apart := false, narrowed := true }
def RowsMatchUptoSaid : Prop := rowsMatchUptoRow.holds Try.pinned (OpenSpec.upto rowsMatchSpec)

/-- 'drawlaw1.EvensMatch', WHERE WHAT IT READS IS OF BULK AT MOST 1048576: true; the input reads as it did. -/
def evensMatchUptoRow : OpenClaim := { program := "ytakkmmhjohadaaa", sum := "afc02d7684859612612ed6cc62beabc81b5311c0a1968d9683df392f84002333", func := "drawboard/drawlaw1.EvensMatch", spec := "evensMatch", unfollowed := true, recurses := true, apart := false, narrowed := true }
def EvensMatchUptoSaid : Prop := evensMatchUptoRow.holds Try.pinned (OpenSpec.upto evensMatchSpec)

/-- 'drawlaw1.TidiesMatch', WHERE WHAT IT READS IS OF BULK AT MOST 1048576: true; the input reads as it did. -/
def tidiesMatchUptoRow : OpenClaim := { program := "ytakkmmhjohadaaa", sum := "afc02d7684859612612ed6cc62beabc81b5311c0a1968d9683df392f84002333", func := "drawboard/drawlaw1.TidiesMatch", spec := "tidiesMatch", unfollowed := true, recurses := true, apart := false, narrowed := true }
def TidiesMatchUptoSaid : Prop := tidiesMatchUptoRow.holds Try.pinned (OpenSpec.upto tidiesMatchSpec)

/-- 'drawlaw1.TidiesAreTidy', WHERE WHAT IT READS IS OF BULK AT MOST 1048576: true; the input reads as it did. -/
def tidiesAreTidyUptoRow : OpenClaim := { program := "ytakkmmhjohadaaa", sum := "afc02d7684859612612ed6cc62beabc81b5311c0a1968d9683df392f84002333", func := "drawboard/drawlaw1.TidiesAreTidy", spec := "tidiesAreTidy", unfollowed := true, recurses := true, apart := false, narrowed := true }
def TidiesAreTidyUptoSaid : Prop := tidiesAreTidyUptoRow.holds Try.pinned (OpenSpec.upto tidiesAreTidySpec)

/-- 'drawtop.TopTrees', WHERE WHAT IT READS IS OF BULK AT MOST 1048576: true; the input reads as it did. -/
def topTreesUptoRow : OpenClaim := { program := "ytakkmmhjohadaaa", sum := "afc02d7684859612612ed6cc62beabc81b5311c0a1968d9683df392f84002333", func := "drawboard/drawtop.TopTrees", spec := "topTrees", unfollowed := true, recurses := true, apart := false, narrowed := true }
def TopTreesUptoSaid : Prop := topTreesUptoRow.holds Try.pinned (OpenSpec.upto topTreesSpec)

/-- 'drawlaw1.TreesMatch', WHERE WHAT IT READS IS OF BULK AT MOST 1048576: true; the input reads as it did. -/
def treesMatchUptoRow : OpenClaim := { program := "ytakkmmhjohadaaa", sum := "afc02d7684859612612ed6cc62beabc81b5311c0a1968d9683df392f84002333", func := "drawboard/drawlaw1.TreesMatch", spec := "treesMatch", unfollowed := true, recurses := true, apart := false, narrowed := true }
def TreesMatchUptoSaid : Prop := treesMatchUptoRow.holds Try.pinned (OpenSpec.upto treesMatchSpec)

end Rows
end Go.Proofs.Ytakkmmhjohadaaa
