/-
  No cell of these rows narrows 'for every input' (looked for: loops, veiled, ifaces, maps, wideKeys, modest, calm, conditions, laid).
  DERIVED. THE GIVEN ROWS OF THIS SEAT. 7 by the template 'for every input the law returns true; each argument reads behind the call as it read before'; 0 by the template 'total and deterministic' (their statements: YtbahnfkccdlpnaaTotals.lean).
  GIVEN WITH THE SEED: the statements are not yours to turn. If you find one false, say at which input.
  Laid BY PROGRAM, IN A SANDBOX (cutbox-rows.mjs): the forced cells as the released guide's own fill.sh prints them over the translation b0709604511caeda… (all of the seat's roots in one cut). By AI agents, Wed Nov 11 2026. No macro, syntax, notation, axiom, sorry.
-/
import Derived.Test.YtbahnfkccdlpnaaChecked
import GoSem.Claim
import GoSem.ClaimJoined
import GoSem.ClaimMapViews
import Derived.JoinedTies
import Derived.KernelRfl
namespace Go.Proofs.Ytbahnfkccdlpnaa
/- THE CELL 'sum', in the pinned program and in every row, IS THE sha256 OF THE DUMP (.gsa) THAT YtbahnfkccdlpnaaProg.lean LOADS. Nothing in Lean hashes anything: it is a label: what it is worth is what the hold of that sum in a sandbox is worth. -/
noncomputable def Try.pinned : Pinned := { name := "ytbahnfkccdlpnaa", sum := "b0709604511caeda2d9d6d87a96fd1a89d565ea429ff4de5e1c8ee6403868b92", checked := Try.checked }
namespace Rows
def none {H : Type} : Left H := { results := [], args := [] }

/-- 'drawlaw1.SweepsMatch': WHATEVER THE INPUT: true; the input reads as it did. -/
def sweepsMatchSpec : ChangeSpec := { name := "sweepsMatch", fn := fun _ => fun
  | [d1, d2, d3] => { results := [.lit (.bool true)], args := [d1, d2, d3] }
  | _ => none }
def sweepsMatchRow : OpenClaim := { program := "ytbahnfkccdlpnaa", sum := "b0709604511caeda2d9d6d87a96fd1a89d565ea429ff4de5e1c8ee6403868b92", func := "drawboard/drawlaw1.SweepsMatch", spec := "sweepsMatch", unfollowed := true, recurses := true, apart := false }
def SweepsMatchSaid : Prop := sweepsMatchRow.holds Try.pinned (OpenSpec.ofChange sweepsMatchSpec)

/-- ITS FALSE NEIGHBOUR: 'it returns false'. Refute it at one input. -/
def sweepsMatchWrong : ChangeSpec := { name := "sweepsMatch", fn := fun _ => fun
  | [d1, d2, d3] => { results := [.lit (.bool false)], args := [d1, d2, d3] }
  | _ => none }
def SweepsMatchWrongFalsely : Prop := sweepsMatchRow.holds Try.pinned (OpenSpec.ofChange sweepsMatchWrong)

/-- 'drawlaw1.TurnsOfLinks': WHATEVER THE INPUT: true; the input reads as it did. -/
def turnsOfLinksSpec : ChangeSpec := { name := "turnsOfLinks", fn := fun _ => fun
  | [d1, d2] => { results := [.lit (.bool true)], args := [d1, d2] }
  | _ => none }
def turnsOfLinksRow : OpenClaim := { program := "ytbahnfkccdlpnaa", sum := "b0709604511caeda2d9d6d87a96fd1a89d565ea429ff4de5e1c8ee6403868b92", func := "drawboard/drawlaw1.TurnsOfLinks", spec := "turnsOfLinks", unfollowed := true, recurses := true, apart := false }
def TurnsOfLinksSaid : Prop := turnsOfLinksRow.holds Try.pinned (OpenSpec.ofChange turnsOfLinksSpec)

/-- ITS FALSE NEIGHBOUR: 'it returns false'. Refute it at one input. -/
def turnsOfLinksWrong : ChangeSpec := { name := "turnsOfLinks", fn := fun _ => fun
  | [d1, d2] => { results := [.lit (.bool false)], args := [d1, d2] }
  | _ => none }
def TurnsOfLinksWrongFalsely : Prop := turnsOfLinksRow.holds Try.pinned (OpenSpec.ofChange turnsOfLinksWrong)

/-- 'drawlaw1.NearsMatch': WHATEVER THE INPUT: true; the input reads as it did. -/
def nearsMatchSpec : ChangeSpec := { name := "nearsMatch", fn := fun _ => fun
  | [d1, d2, d3, d4, d5] => { results := [.lit (.bool true)], args := [d1, d2, d3, d4, d5] }
  | _ => none }
def nearsMatchRow : OpenClaim := { program := "ytbahnfkccdlpnaa", sum := "b0709604511caeda2d9d6d87a96fd1a89d565ea429ff4de5e1c8ee6403868b92", func := "drawboard/drawlaw1.NearsMatch", spec := "nearsMatch", unfollowed := true, recurses := true, apart := false }
def NearsMatchSaid : Prop := nearsMatchRow.holds Try.pinned (OpenSpec.ofChange nearsMatchSpec)

/-- ITS FALSE NEIGHBOUR: 'it returns false'. Refute it at one input. -/
def nearsMatchWrong : ChangeSpec := { name := "nearsMatch", fn := fun _ => fun
  | [d1, d2, d3, d4, d5] => { results := [.lit (.bool false)], args := [d1, d2, d3, d4, d5] }
  | _ => none }
def NearsMatchWrongFalsely : Prop := nearsMatchRow.holds Try.pinned (OpenSpec.ofChange nearsMatchWrong)

/-- 'drawlaw1.RanksAreLeast': WHATEVER THE INPUT: true; the input reads as it did. -/
def ranksAreLeastSpec : ChangeSpec := { name := "ranksAreLeast", fn := fun _ => fun
  | [d1, d2, d3] => { results := [.lit (.bool true)], args := [d1, d2, d3] }
  | _ => none }
def ranksAreLeastRow : OpenClaim := { program := "ytbahnfkccdlpnaa", sum := "b0709604511caeda2d9d6d87a96fd1a89d565ea429ff4de5e1c8ee6403868b92", func := "drawboard/drawlaw1.RanksAreLeast", spec := "ranksAreLeast", unfollowed := true, recurses := true, apart := false }
def RanksAreLeastSaid : Prop := ranksAreLeastRow.holds Try.pinned (OpenSpec.ofChange ranksAreLeastSpec)

/-- ITS FALSE NEIGHBOUR: 'it returns false'. Refute it at one input. -/
def ranksAreLeastWrong : ChangeSpec := { name := "ranksAreLeast", fn := fun _ => fun
  | [d1, d2, d3] => { results := [.lit (.bool false)], args := [d1, d2, d3] }
  | _ => none }
def RanksAreLeastWrongFalsely : Prop := ranksAreLeastRow.holds Try.pinned (OpenSpec.ofChange ranksAreLeastWrong)

/-- 'drawlaw1.OrdersMatch': WHATEVER THE INPUT: true; the input reads as it did. -/
def ordersMatchSpec : ChangeSpec := { name := "ordersMatch", fn := fun _ => fun
  | [d1, d2, d3, d4] => { results := [.lit (.bool true)], args := [d1, d2, d3, d4] }
  | _ => none }
def ordersMatchRow : OpenClaim := { program := "ytbahnfkccdlpnaa", sum := "b0709604511caeda2d9d6d87a96fd1a89d565ea429ff4de5e1c8ee6403868b92", func := "drawboard/drawlaw1.OrdersMatch", spec := "ordersMatch", unfollowed := true, recurses := true, apart := false }
def OrdersMatchSaid : Prop := ordersMatchRow.holds Try.pinned (OpenSpec.ofChange ordersMatchSpec)

/-- ITS FALSE NEIGHBOUR: 'it returns false'. Refute it at one input. -/
def ordersMatchWrong : ChangeSpec := { name := "ordersMatch", fn := fun _ => fun
  | [d1, d2, d3, d4] => { results := [.lit (.bool false)], args := [d1, d2, d3, d4] }
  | _ => none }
def OrdersMatchWrongFalsely : Prop := ordersMatchRow.holds Try.pinned (OpenSpec.ofChange ordersMatchWrong)

/-- 'drawlaw1.DrawsAreRight': WHATEVER THE INPUT: true; the input reads as it did. -/
def drawsAreRightSpec : ChangeSpec := { name := "drawsAreRight", fn := fun _ => fun
  | [d1, d2, d3, d4] => { results := [.lit (.bool true)], args := [d1, d2, d3, d4] }
  | _ => none }
def drawsAreRightRow : OpenClaim := { program := "ytbahnfkccdlpnaa", sum := "b0709604511caeda2d9d6d87a96fd1a89d565ea429ff4de5e1c8ee6403868b92", func := "drawboard/drawlaw1.DrawsAreRight", spec := "drawsAreRight", unfollowed := true, recurses := true, apart := false }
def DrawsAreRightSaid : Prop := drawsAreRightRow.holds Try.pinned (OpenSpec.ofChange drawsAreRightSpec)

/-- ITS FALSE NEIGHBOUR: 'it returns false'. Refute it at one input. -/
def drawsAreRightWrong : ChangeSpec := { name := "drawsAreRight", fn := fun _ => fun
  | [d1, d2, d3, d4] => { results := [.lit (.bool false)], args := [d1, d2, d3, d4] }
  | _ => none }
def DrawsAreRightWrongFalsely : Prop := drawsAreRightRow.holds Try.pinned (OpenSpec.ofChange drawsAreRightWrong)

/-- 'drawtop.TopLayersAreLeast': WHATEVER THE INPUT: true; the input reads as it did. -/
def topLayersAreLeastSpec : ChangeSpec := { name := "topLayersAreLeast", fn := fun _ => fun
  | [d1, d2, d3, d4, d5] => { results := [.lit (.bool true)], args := [d1, d2, d3, d4, d5] }
  | _ => none }
def topLayersAreLeastRow : OpenClaim := { program := "ytbahnfkccdlpnaa", sum := "b0709604511caeda2d9d6d87a96fd1a89d565ea429ff4de5e1c8ee6403868b92", func := "drawboard/drawtop.TopLayersAreLeast", spec := "topLayersAreLeast", unfollowed := true, recurses := true, apart := false }
def TopLayersAreLeastSaid : Prop := topLayersAreLeastRow.holds Try.pinned (OpenSpec.ofChange topLayersAreLeastSpec)

/-- ITS FALSE NEIGHBOUR: 'it returns false'. Refute it at one input. -/
def topLayersAreLeastWrong : ChangeSpec := { name := "topLayersAreLeast", fn := fun _ => fun
  | [d1, d2, d3, d4, d5] => { results := [.lit (.bool false)], args := [d1, d2, d3, d4, d5] }
  | _ => none }
def TopLayersAreLeastWrongFalsely : Prop := topLayersAreLeastRow.holds Try.pinned (OpenSpec.ofChange topLayersAreLeastWrong)

/- THE SECOND FORM. 'bulk': how many values and letters a reading holds, each counted each time it is reached (what is shared counts as often as it is met; a slice's spare places count too). A statement '..UptoSaid' is the law's where the arguments, and the package variables that the reading takes, are together of bulk at most 1048576: NARROWER than '..Said'. Prove '..Said' where nothing that the law and all that it calls make is longer than what came in: it says more and counts as full. Else prove '..UptoSaid'. A law counts once. -/
mutual
def uptoBulk {H : Type} : DataW H → Nat
  | .lit (.string bytes) => bytes.length + 1
  | .lit _ => 1
  | .nil => 1
  | .ptr d => uptoBulk d + 1
  | .slice elems spare => uptoBulkAll elems + uptoBulkAll spare + 1
  | .agg parts => uptoBulkAll parts + 1
  | .iface _ d => uptoBulk d + 1
  | .map entries => uptoBulkEntries entries + 1
  | .held _ => 1
def uptoBulkAll {H : Type} : List (DataW H) → Nat
  | [] => 0
  | d :: r => uptoBulk d + uptoBulkAll r
def uptoBulkEntries {H : Type} : List (Lit × DataW H) → Nat
  | [] => 0
  | x :: r => uptoBulkEntry x + uptoBulkEntries r
def uptoBulkEntry {H : Type} : Lit × DataW H → Nat
  | (.string bytes, d) => bytes.length + uptoBulk d + 1
  | (_, d) => uptoBulk d + 1
 end
def uptoSmall : (H : Type) → List (DataW H) → Bool := fun _ ds => decide (uptoBulkAll ds ≤ 1048576)
def OpenSpec.upto (s : _root_.Go.ChangeSpec) : _root_.Go.OpenSpec := { _root_.Go.OpenSpec.ofChange s with cond := some uptoSmall }

/-- 'drawlaw1.SweepsMatch', WHERE WHAT IT READS IS OF BULK AT MOST 1048576: true; the input reads as it did. -/
def sweepsMatchUptoRow : OpenClaim := { program := "ytbahnfkccdlpnaa", sum := "b0709604511caeda2d9d6d87a96fd1a89d565ea429ff4de5e1c8ee6403868b92", func := "drawboard/drawlaw1.SweepsMatch", spec := "sweepsMatch", unfollowed := true, recurses := true, apart := false, narrowed := true }
def SweepsMatchUptoSaid : Prop := sweepsMatchUptoRow.holds Try.pinned (OpenSpec.upto sweepsMatchSpec)

/-- 'drawlaw1.TurnsOfLinks', WHERE WHAT IT READS IS OF BULK AT MOST 1048576: true; the input reads as it did. -/
def turnsOfLinksUptoRow : OpenClaim := { program := "ytbahnfkccdlpnaa", sum := "b0709604511caeda2d9d6d87a96fd1a89d565ea429ff4de5e1c8ee6403868b92", func := "drawboard/drawlaw1.TurnsOfLinks", spec := "turnsOfLinks", unfollowed := true, recurses := true, apart := false, narrowed := true }
def TurnsOfLinksUptoSaid : Prop := turnsOfLinksUptoRow.holds Try.pinned (OpenSpec.upto turnsOfLinksSpec)

/-- 'drawlaw1.NearsMatch', WHERE WHAT IT READS IS OF BULK AT MOST 1048576: true; the input reads as it did. -/
def nearsMatchUptoRow : OpenClaim := { program := "ytbahnfkccdlpnaa", sum := "b0709604511caeda2d9d6d87a96fd1a89d565ea429ff4de5e1c8ee6403868b92", func := "drawboard/drawlaw1.NearsMatch", spec := "nearsMatch", unfollowed := true, recurses := true, apart := false, narrowed := true }
def NearsMatchUptoSaid : Prop := nearsMatchUptoRow.holds Try.pinned (OpenSpec.upto nearsMatchSpec)

/-- 'drawlaw1.RanksAreLeast', WHERE WHAT IT READS IS OF BULK AT MOST 1048576: true; the input reads as it did. -/
def ranksAreLeastUptoRow : OpenClaim := { program := "ytbahnfkccdlpnaa", sum := "b0709604511caeda2d9d6d87a96fd1a89d565ea429ff4de5e1c8ee6403868b92", func := "drawboard/drawlaw1.RanksAreLeast", spec := "ranksAreLeast", unfollowed := true, recurses := true, apart := false, narrowed := true }
def RanksAreLeastUptoSaid : Prop := ranksAreLeastUptoRow.holds Try.pinned (OpenSpec.upto ranksAreLeastSpec)

/-- 'drawlaw1.OrdersMatch', WHERE WHAT IT READS IS OF BULK AT MOST 1048576: true; the input reads as it did. -/
def ordersMatchUptoRow : OpenClaim := { program := "ytbahnfkccdlpnaa", sum := "b0709604511caeda2d9d6d87a96fd1a89d565ea429ff4de5e1c8ee6403868b92", func := "drawboard/drawlaw1.OrdersMatch", spec := "ordersMatch", unfollowed := true, recurses := true, apart := false, narrowed := true }
def OrdersMatchUptoSaid : Prop := ordersMatchUptoRow.holds Try.pinned (OpenSpec.upto ordersMatchSpec)

/-- 'drawlaw1.DrawsAreRight', WHERE WHAT IT READS IS OF BULK AT MOST 1048576: true; the input reads as it did. -/
def drawsAreRightUptoRow : OpenClaim := { program := "ytbahnfkccdlpnaa", sum := "b0709604511caeda2d9d6d87a96fd1a89d565ea429ff4de5e1c8ee6403868b92", func := "drawboard/drawlaw1.DrawsAreRight", spec := "drawsAreRight", unfollowed := true, recurses := true, apart := false, narrowed := true }
def DrawsAreRightUptoSaid : Prop := drawsAreRightUptoRow.holds Try.pinned (OpenSpec.upto drawsAreRightSpec)

/-- 'drawtop.TopLayersAreLeast', WHERE WHAT IT READS IS OF BULK AT MOST 1048576: true; the input reads as it did. -/
def topLayersAreLeastUptoRow : OpenClaim := { program := "ytbahnfkccdlpnaa", sum := "b0709604511caeda2d9d6d87a96fd1a89d565ea429ff4de5e1c8ee6403868b92", func := "drawboard/drawtop.TopLayersAreLeast", spec := "topLayersAreLeast", unfollowed := true, recurses := true, apart := false, narrowed := true }
def TopLayersAreLeastUptoSaid : Prop := topLayersAreLeastUptoRow.holds Try.pinned (OpenSpec.upto topLayersAreLeastSpec)

end Rows
end Go.Proofs.Ytbahnfkccdlpnaa
