/-
  No cell of these rows narrows 'for every input' (looked for: loops, veiled, ifaces, maps, wideKeys, modest, calm, conditions, laid).
  DERIVED. THE GIVEN ROWS OF THIS SEAT. 6 by the template 'for every input the law returns true; each argument reads behind the call as it read before'; 0 by the template 'total and deterministic' (their statements: YtieepiblancbpaaTotals.lean).
  GIVEN WITH THE SEED: the statements are not yours to turn. If you find one false, say at which input.
  Laid BY PROGRAM, IN A SANDBOX (cutbox-rows.mjs): the forced cells as the released guide's own fill.sh prints them over the translation 0be10f18d9b035e8… (all of the seat's roots in one cut). By AI agents, Wed Nov 11 2026. No macro, syntax, notation, axiom, sorry.
-/
import Derived.Test.YtieepiblancbpaaChecked
import GoSem.Claim
import GoSem.ClaimJoined
import GoSem.ClaimMapViews
import Derived.JoinedTies
import Derived.KernelRfl
namespace Go.Proofs.Ytieepiblancbpaa
/- THE CELL 'sum', in the pinned program and in every row, IS THE sha256 OF THE DUMP (.gsa) THAT YtieepiblancbpaaProg.lean LOADS. Nothing in Lean hashes anything: it is a label: what it is worth is what the hold of that sum in a sandbox is worth. -/
noncomputable def Try.pinned : Pinned := { name := "ytieepiblancbpaa", sum := "0be10f18d9b035e817de340ae41e4f601693cd981f0f1e1a477b53a4bd276a2c", checked := Try.checked }
namespace Rows
def none {H : Type} : Left H := { results := [], args := [] }

/-- 'drawlaw1.StretchesMatch': WHATEVER THE INPUT: true; the input reads as it did. -/
def stretchesMatchSpec : ChangeSpec := { name := "stretchesMatch", fn := fun _ => fun
  | [d1, d2, d3, d4] => { results := [.lit (.bool true)], args := [d1, d2, d3, d4] }
  | _ => none }
def stretchesMatchRow : OpenClaim := { program := "ytieepiblancbpaa", sum := "0be10f18d9b035e817de340ae41e4f601693cd981f0f1e1a477b53a4bd276a2c", func := "drawboard/drawlaw1.StretchesMatch", spec := "stretchesMatch", unfollowed := true, recurses := true, apart := false }
def StretchesMatchSaid : Prop := stretchesMatchRow.holds Try.pinned (OpenSpec.ofChange stretchesMatchSpec)

/-- ITS FALSE NEIGHBOUR: 'it returns false'. Refute it at one input. -/
def stretchesMatchWrong : ChangeSpec := { name := "stretchesMatch", fn := fun _ => fun
  | [d1, d2, d3, d4] => { results := [.lit (.bool false)], args := [d1, d2, d3, d4] }
  | _ => none }
def StretchesMatchWrongFalsely : Prop := stretchesMatchRow.holds Try.pinned (OpenSpec.ofChange stretchesMatchWrong)

/-- 'drawlaw1.TurnsMatch': WHATEVER THE INPUT: true; the input reads as it did. -/
def turnsMatchSpec : ChangeSpec := { name := "turnsMatch", fn := fun _ => fun
  | [d1, d2, d3, d4] => { results := [.lit (.bool true)], args := [d1, d2, d3, d4] }
  | _ => none }
def turnsMatchRow : OpenClaim := { program := "ytieepiblancbpaa", sum := "0be10f18d9b035e817de340ae41e4f601693cd981f0f1e1a477b53a4bd276a2c", func := "drawboard/drawlaw1.TurnsMatch", spec := "turnsMatch", unfollowed := true, recurses := true, apart := false }
def TurnsMatchSaid : Prop := turnsMatchRow.holds Try.pinned (OpenSpec.ofChange turnsMatchSpec)

/-- ITS FALSE NEIGHBOUR: 'it returns false'. Refute it at one input. -/
def turnsMatchWrong : ChangeSpec := { name := "turnsMatch", fn := fun _ => fun
  | [d1, d2, d3, d4] => { results := [.lit (.bool false)], args := [d1, d2, d3, d4] }
  | _ => none }
def TurnsMatchWrongFalsely : Prop := turnsMatchRow.holds Try.pinned (OpenSpec.ofChange turnsMatchWrong)

/-- 'drawlaw1.BoxesMatch': WHATEVER THE INPUT: true; the input reads as it did. -/
def boxesMatchSpec : ChangeSpec := { name := "boxesMatch", fn := fun _ => fun
  | [d1, d2, d3, d4, d5] => { results := [.lit (.bool true)], args := [d1, d2, d3, d4, d5] }
  | _ => none }
def boxesMatchRow : OpenClaim := { program := "ytieepiblancbpaa", sum := "0be10f18d9b035e817de340ae41e4f601693cd981f0f1e1a477b53a4bd276a2c", func := "drawboard/drawlaw1.BoxesMatch", spec := "boxesMatch", unfollowed := true, recurses := true, apart := false }
def BoxesMatchSaid : Prop := boxesMatchRow.holds Try.pinned (OpenSpec.ofChange boxesMatchSpec)

/-- ITS FALSE NEIGHBOUR: 'it returns false'. Refute it at one input. -/
def boxesMatchWrong : ChangeSpec := { name := "boxesMatch", fn := fun _ => fun
  | [d1, d2, d3, d4, d5] => { results := [.lit (.bool false)], args := [d1, d2, d3, d4, d5] }
  | _ => none }
def BoxesMatchWrongFalsely : Prop := boxesMatchRow.holds Try.pinned (OpenSpec.ofChange boxesMatchWrong)

/-- 'drawlaw1.PathsMatch': WHATEVER THE INPUT: true; the input reads as it did. -/
def pathsMatchSpec : ChangeSpec := { name := "pathsMatch", fn := fun _ => fun
  | [d1, d2, d3] => { results := [.lit (.bool true)], args := [d1, d2, d3] }
  | _ => none }
def pathsMatchRow : OpenClaim := { program := "ytieepiblancbpaa", sum := "0be10f18d9b035e817de340ae41e4f601693cd981f0f1e1a477b53a4bd276a2c", func := "drawboard/drawlaw1.PathsMatch", spec := "pathsMatch", unfollowed := true, recurses := true, apart := false }
def PathsMatchSaid : Prop := pathsMatchRow.holds Try.pinned (OpenSpec.ofChange pathsMatchSpec)

/-- ITS FALSE NEIGHBOUR: 'it returns false'. Refute it at one input. -/
def pathsMatchWrong : ChangeSpec := { name := "pathsMatch", fn := fun _ => fun
  | [d1, d2, d3] => { results := [.lit (.bool false)], args := [d1, d2, d3] }
  | _ => none }
def PathsMatchWrongFalsely : Prop := pathsMatchRow.holds Try.pinned (OpenSpec.ofChange pathsMatchWrong)

/-- 'drawlaw1.AreasMatch': WHATEVER THE INPUT: true; the input reads as it did. -/
def areasMatchSpec : ChangeSpec := { name := "areasMatch", fn := fun _ => fun
  | [d1, d2] => { results := [.lit (.bool true)], args := [d1, d2] }
  | _ => none }
def areasMatchRow : OpenClaim := { program := "ytieepiblancbpaa", sum := "0be10f18d9b035e817de340ae41e4f601693cd981f0f1e1a477b53a4bd276a2c", func := "drawboard/drawlaw1.AreasMatch", spec := "areasMatch", unfollowed := true, recurses := true, apart := false }
def AreasMatchSaid : Prop := areasMatchRow.holds Try.pinned (OpenSpec.ofChange areasMatchSpec)

/-- ITS FALSE NEIGHBOUR: 'it returns false'. Refute it at one input. -/
def areasMatchWrong : ChangeSpec := { name := "areasMatch", fn := fun _ => fun
  | [d1, d2] => { results := [.lit (.bool false)], args := [d1, d2] }
  | _ => none }
def AreasMatchWrongFalsely : Prop := areasMatchRow.holds Try.pinned (OpenSpec.ofChange areasMatchWrong)

/-- 'drawlaw1.JumpsMatch': WHATEVER THE INPUT: true; the input reads as it did. -/
def jumpsMatchSpec : ChangeSpec := { name := "jumpsMatch", fn := fun _ => fun
  | [d] => { results := [.lit (.bool true)], args := [d] }
  | _ => none }
def jumpsMatchRow : OpenClaim := { program := "ytieepiblancbpaa", sum := "0be10f18d9b035e817de340ae41e4f601693cd981f0f1e1a477b53a4bd276a2c", func := "drawboard/drawlaw1.JumpsMatch", spec := "jumpsMatch", unfollowed := true, recurses := true, apart := false }
def JumpsMatchSaid : Prop := jumpsMatchRow.holds Try.pinned (OpenSpec.ofChange jumpsMatchSpec)

/-- ITS FALSE NEIGHBOUR: 'it returns false'. Refute it at one input. -/
def jumpsMatchWrong : ChangeSpec := { name := "jumpsMatch", fn := fun _ => fun
  | [d] => { results := [.lit (.bool false)], args := [d] }
  | _ => none }
def JumpsMatchWrongFalsely : Prop := jumpsMatchRow.holds Try.pinned (OpenSpec.ofChange jumpsMatchWrong)

/- THE SECOND FORM. 'bulk': how many values and letters a reading holds, each counted each time it is reached (what is shared counts as often as it is met; a slice's spare places count too). A statement '..UptoSaid' is the law's where the arguments, and the package variables that the reading takes, are together of bulk at most 1048576: NARROWER than '..Said'. Prove '..Said' where nothing that the law and all that it calls make is longer than what came in: it says more and counts as full. Else prove '..UptoSaid'. A law counts once. -/
mutual
def uptoBulk {H : Type} : DataW H → Nat
  | .lit (.string bytes) => bytes.length + 1
  | .lit _ => 1
  | .nil => 1
  | .ptr d => uptoBulk d + 1
  | .slice elems spare => uptoBulkAll elems + uptoBulkAll spare + 1
  | .agg parts => uptoBulkAll parts + 1
  | .iface _ d => uptoBulk d + 1
  | .map entries => uptoBulkEntries entries + 1
  | .held _ => 1
def uptoBulkAll {H : Type} : List (DataW H) → Nat
  | [] => 0
  | d :: r => uptoBulk d + uptoBulkAll r
def uptoBulkEntries {H : Type} : List (Lit × DataW H) → Nat
  | [] => 0
  | x :: r => uptoBulkEntry x + uptoBulkEntries r
def uptoBulkEntry {H : Type} : Lit × DataW H → Nat
  | (.string bytes, d) => bytes.length + uptoBulk d + 1
  | (_, d) => uptoBulk d + 1
 end
def uptoSmall : (H : Type) → List (DataW H) → Bool := fun _ ds => decide (uptoBulkAll ds ≤ 1048576)
def OpenSpec.upto (s : _root_.Go.ChangeSpec) : _root_.Go.OpenSpec := { _root_.Go.OpenSpec.ofChange s with cond := some uptoSmall }

/-- 'drawlaw1.StretchesMatch', WHERE WHAT IT READS IS OF BULK AT MOST 1048576: true; the input reads as it did. -/
def stretchesMatchUptoRow : OpenClaim := { program := "ytieepiblancbpaa", sum := "0be10f18d9b035e817de340ae41e4f601693cd981f0f1e1a477b53a4bd276a2c", func := "drawboard/drawlaw1.StretchesMatch", spec := "stretchesMatch", unfollowed := true, recurses := true, apart := false, narrowed := true }
def StretchesMatchUptoSaid : Prop := stretchesMatchUptoRow.holds Try.pinned (OpenSpec.upto stretchesMatchSpec)

/-- 'drawlaw1.TurnsMatch', WHERE WHAT IT READS IS OF BULK AT MOST 1048576: true; the input reads as it did. -/
def turnsMatchUptoRow : OpenClaim := { program := "ytieepiblancbpaa", sum := "0be10f18d9b035e817de340ae41e4f601693cd981f0f1e1a477b53a4bd276a2c", func := "drawboard/drawlaw1.TurnsMatch", spec := "turnsMatch", unfollowed := true, recurses := true, apart := false, narrowed := true }
def TurnsMatchUptoSaid : Prop := turnsMatchUptoRow.holds Try.pinned (OpenSpec.upto turnsMatchSpec)

/-- 'drawlaw1.BoxesMatch', WHERE WHAT IT READS IS OF BULK AT MOST 1048576: true; the input reads as it did. -/
def boxesMatchUptoRow : OpenClaim := { program := "ytieepiblancbpaa", sum := "0be10f18d9b035e817de340ae41e4f601693cd981f0f1e1a477b53a4bd276a2c", func := "drawboard/drawlaw1.BoxesMatch", spec := "boxesMatch", unfollowed := true, recurses := true, apart := false, narrowed := true }
def BoxesMatchUptoSaid : Prop := boxesMatchUptoRow.holds Try.pinned (OpenSpec.upto boxesMatchSpec)

/-- 'drawlaw1.PathsMatch', WHERE WHAT IT READS IS OF BULK AT MOST 1048576: true; the input reads as it did. -/
def pathsMatchUptoRow : OpenClaim := { program := "ytieepiblancbpaa", sum := "0be10f18d9b035e817de340ae41e4f601693cd981f0f1e1a477b53a4bd276a2c", func := "drawboard/drawlaw1.PathsMatch", spec := "pathsMatch", unfollowed := true, recurses := true, apart := false, narrowed := true }
def PathsMatchUptoSaid : Prop := pathsMatchUptoRow.holds Try.pinned (OpenSpec.upto pathsMatchSpec)

/-- 'drawlaw1.AreasMatch', WHERE WHAT IT READS IS OF BULK AT MOST 1048576: true; the input reads as it did. -/
def areasMatchUptoRow : OpenClaim := { program := "ytieepiblancbpaa", sum := "0be10f18d9b035e817de340ae41e4f601693cd981f0f1e1a477b53a4bd276a2c", func := "drawboard/drawlaw1.AreasMatch", spec := "areasMatch", unfollowed := true, recurses := true, apart := false, narrowed := true }
def AreasMatchUptoSaid : Prop := areasMatchUptoRow.holds Try.pinned (OpenSpec.upto areasMatchSpec)

/-- 'drawlaw1.JumpsMatch', WHERE WHAT IT READS IS OF BULK AT MOST 1048576: true; the input reads as it did. -/
def jumpsMatchUptoRow : OpenClaim := { program := "ytieepiblancbpaa", sum := "0be10f18d9b035e817de340ae41e4f601693cd981f0f1e1a477b53a4bd276a2c", func := "drawboard/drawlaw1.JumpsMatch", spec := "jumpsMatch", unfollowed := true, recurses := true, apart := false, narrowed := true }
def JumpsMatchUptoSaid : Prop := jumpsMatchUptoRow.holds Try.pinned (OpenSpec.upto jumpsMatchSpec)

end Rows
end Go.Proofs.Ytieepiblancbpaa
