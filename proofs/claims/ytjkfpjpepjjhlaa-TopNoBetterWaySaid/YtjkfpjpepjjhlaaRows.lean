/-
  No cell of these rows narrows 'for every input' (looked for: loops, veiled, ifaces, maps, wideKeys, modest, calm, conditions, laid).
  DERIVED. THE GIVEN ROWS OF THIS SEAT. 3 by the template 'for every input the law returns true; each argument reads behind the call as it read before'; 0 by the template 'total and deterministic' (their statements: YtjkfpjpepjjhlaaTotals.lean).
  GIVEN WITH THE SEED: the statements are not yours to turn. If you find one false, say at which input.
  Laid BY PROGRAM, IN A SANDBOX (cutbox-rows.mjs): the forced cells as the released guide's own fill.sh prints them over the translation ff41356e5405cf13… (all of the seat's roots in one cut). By AI agents, Wed Nov 11 2026. No macro, syntax, notation, axiom, sorry.
-/
import Derived.Test.YtjkfpjpepjjhlaaChecked
import GoSem.Claim
import GoSem.ClaimJoined
import GoSem.ClaimMapViews
import Derived.JoinedTies
import Derived.KernelRfl
namespace Go.Proofs.Ytjkfpjpepjjhlaa
/- THE CELL 'sum', in the pinned program and in every row, IS THE sha256 OF THE DUMP (.gsa) THAT YtjkfpjpepjjhlaaProg.lean LOADS. Nothing in Lean hashes anything: it is a label: what it is worth is what the hold of that sum in a sandbox is worth. -/
noncomputable def Try.pinned : Pinned := { name := "ytjkfpjpepjjhlaa", sum := "ff41356e5405cf13fbc9f8f8aa38920508f40e00f5d6416553b852df56060c2f", checked := Try.checked }
namespace Rows
def none {H : Type} : Left H := { results := [], args := [] }

/-- 'drawtop.TopNoBetterWay': WHATEVER THE INPUT: true; the input reads as it did. -/
def topNoBetterWaySpec : ChangeSpec := { name := "topNoBetterWay", fn := fun _ => fun
  | [d1, d2] => { results := [.lit (.bool true)], args := [d1, d2] }
  | _ => none }
def topNoBetterWayRow : OpenClaim := { program := "ytjkfpjpepjjhlaa", sum := "ff41356e5405cf13fbc9f8f8aa38920508f40e00f5d6416553b852df56060c2f", func := "drawboard/drawtop.TopNoBetterWay", spec := "topNoBetterWay", unfollowed := true, recurses := true, plainKeys := false, apart := false }
def TopNoBetterWaySaid : Prop := topNoBetterWayRow.holds Try.pinned (OpenSpec.ofChange topNoBetterWaySpec)

/-- ITS FALSE NEIGHBOUR: 'it returns false'. Refute it at one input. -/
def topNoBetterWayWrong : ChangeSpec := { name := "topNoBetterWay", fn := fun _ => fun
  | [d1, d2] => { results := [.lit (.bool false)], args := [d1, d2] }
  | _ => none }
def TopNoBetterWayWrongFalsely : Prop := topNoBetterWayRow.holds Try.pinned (OpenSpec.ofChange topNoBetterWayWrong)

/-- 'drawlaw1.RoutesAreBest': WHATEVER THE INPUT: true; the input reads as it did. -/
def routesAreBestSpec : ChangeSpec := { name := "routesAreBest", fn := fun _ => fun
  | [d1, d2] => { results := [.lit (.bool true)], args := [d1, d2] }
  | _ => none }
def routesAreBestRow : OpenClaim := { program := "ytjkfpjpepjjhlaa", sum := "ff41356e5405cf13fbc9f8f8aa38920508f40e00f5d6416553b852df56060c2f", func := "drawboard/drawlaw1.RoutesAreBest", spec := "routesAreBest", unfollowed := true, recurses := true, plainKeys := false, apart := false }
def RoutesAreBestSaid : Prop := routesAreBestRow.holds Try.pinned (OpenSpec.ofChange routesAreBestSpec)

/-- ITS FALSE NEIGHBOUR: 'it returns false'. Refute it at one input. -/
def routesAreBestWrong : ChangeSpec := { name := "routesAreBest", fn := fun _ => fun
  | [d1, d2] => { results := [.lit (.bool false)], args := [d1, d2] }
  | _ => none }
def RoutesAreBestWrongFalsely : Prop := routesAreBestRow.holds Try.pinned (OpenSpec.ofChange routesAreBestWrong)

/-- 'drawlaw1.LinesAreTidy': WHATEVER THE INPUT: true; the input reads as it did. -/
def linesAreTidySpec : ChangeSpec := { name := "linesAreTidy", fn := fun _ => fun
  | [d] => { results := [.lit (.bool true)], args := [d] }
  | _ => none }
def linesAreTidyRow : OpenClaim := { program := "ytjkfpjpepjjhlaa", sum := "ff41356e5405cf13fbc9f8f8aa38920508f40e00f5d6416553b852df56060c2f", func := "drawboard/drawlaw1.LinesAreTidy", spec := "linesAreTidy", unfollowed := true, recurses := true, plainKeys := false, apart := false }
def LinesAreTidySaid : Prop := linesAreTidyRow.holds Try.pinned (OpenSpec.ofChange linesAreTidySpec)

/-- ITS FALSE NEIGHBOUR: 'it returns false'. Refute it at one input. -/
def linesAreTidyWrong : ChangeSpec := { name := "linesAreTidy", fn := fun _ => fun
  | [d] => { results := [.lit (.bool false)], args := [d] }
  | _ => none }
def LinesAreTidyWrongFalsely : Prop := linesAreTidyRow.holds Try.pinned (OpenSpec.ofChange linesAreTidyWrong)

/- THE SECOND FORM. 'bulk': how many values and letters a reading holds, each counted each time it is reached (what is shared counts as often as it is met; a slice's spare places count too). A statement '..UptoSaid' is the law's where the arguments, and the package variables that the reading takes, are together of bulk at most 1048576: NARROWER than '..Said'. Prove '..Said' where nothing that the law and all that it calls make is longer than what came in: it says more and counts as full. Else prove '..UptoSaid'. A law counts once. -/
mutual
def uptoBulk {H : Type} : DataW H → Nat
  | .lit (.string bytes) => bytes.length + 1
  | .lit _ => 1
  | .nil => 1
  | .ptr d => uptoBulk d + 1
  | .slice elems spare => uptoBulkAll elems + uptoBulkAll spare + 1
  | .agg parts => uptoBulkAll parts + 1
  | .iface _ d => uptoBulk d + 1
  | .map entries => uptoBulkEntries entries + 1
  | .held _ => 1
def uptoBulkAll {H : Type} : List (DataW H) → Nat
  | [] => 0
  | d :: r => uptoBulk d + uptoBulkAll r
def uptoBulkEntries {H : Type} : List (Lit × DataW H) → Nat
  | [] => 0
  | x :: r => uptoBulkEntry x + uptoBulkEntries r
def uptoBulkEntry {H : Type} : Lit × DataW H → Nat
  | (.string bytes, d) => bytes.length + uptoBulk d + 1
  | (_, d) => uptoBulk d + 1
 end
def uptoSmall : (H : Type) → List (DataW H) → Bool := fun _ ds => decide (uptoBulkAll ds ≤ 1048576)
def OpenSpec.upto (s : _root_.Go.ChangeSpec) : _root_.Go.OpenSpec := { _root_.Go.OpenSpec.ofChange s with cond := some uptoSmall }

/-- 'drawtop.TopNoBetterWay', WHERE WHAT IT READS IS OF BULK AT MOST 1048576: true; the input reads as it did. -/
def topNoBetterWayUptoRow : OpenClaim := { program := "ytjkfpjpepjjhlaa", sum := "ff41356e5405cf13fbc9f8f8aa38920508f40e00f5d6416553b852df56060c2f", func := "drawboard/drawtop.TopNoBetterWay", spec := "topNoBetterWay", unfollowed := true, recurses := true, plainKeys := false, apart := false, narrowed := true }
def TopNoBetterWayUptoSaid : Prop := topNoBetterWayUptoRow.holds Try.pinned (OpenSpec.upto topNoBetterWaySpec)

/-- 'drawlaw1.RoutesAreBest', WHERE WHAT IT READS IS OF BULK AT MOST 1048576: true; the input reads as it did. -/
def routesAreBestUptoRow : OpenClaim := { program := "ytjkfpjpepjjhlaa", sum := "ff41356e5405cf13fbc9f8f8aa38920508f40e00f5d6416553b852df56060c2f", func := "drawboard/drawlaw1.RoutesAreBest", spec := "routesAreBest", unfollowed := true, recurses := true, plainKeys := false, apart := false, narrowed := true }
def RoutesAreBestUptoSaid : Prop := routesAreBestUptoRow.holds Try.pinned (OpenSpec.upto routesAreBestSpec)

/-- 'drawlaw1.LinesAreTidy', WHERE WHAT IT READS IS OF BULK AT MOST 1048576: true; the input reads as it did. -/
def linesAreTidyUptoRow : OpenClaim := { program := "ytjkfpjpepjjhlaa", sum := "ff41356e5405cf13fbc9f8f8aa38920508f40e00f5d6416553b852df56060c2f", func := "drawboard/drawlaw1.LinesAreTidy", spec := "linesAreTidy", unfollowed := true, recurses := true, plainKeys := false, apart := false, narrowed := true }
def LinesAreTidyUptoSaid : Prop := linesAreTidyUptoRow.holds Try.pinned (OpenSpec.upto linesAreTidySpec)

end Rows
end Go.Proofs.Ytjkfpjpepjjhlaa
