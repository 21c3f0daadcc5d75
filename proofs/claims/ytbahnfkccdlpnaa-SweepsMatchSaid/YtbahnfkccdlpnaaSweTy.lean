/-
  The program's structs.
-/
import Derived.Test.YtbahnfkccdlpnaaCore39
import Derived.Test.YtbahnfkccdlpnaaExSort
import Derived.Test.YtbahnfkccdlpnaaExSorted
import Derived.Test.YtbahnfkccdlpnaaExClone
set_option maxRecDepth 100000
set_option linter.unusedSimpArgs false
set_option linter.unusedVariables false
namespace Go.DB
open Go Go.RowKit

structure Link where
  From : Int
  To : Int
  deriving Inhabited, DecidableEq
instance : Rep Link := Rep.via (fun x => (x.From, x.To))
instance : Flat Link := Flat.via _
instance : Fits Link := ⟨fun x => fits x.From ∧ fits x.To⟩
instance : FitsRep Link := ⟨fun h => FitsRep.of (α := Int × Int) h⟩

structure Layer_mean where
  sum : Int
  many : Int
  deriving Inhabited, DecidableEq
instance : Rep Layer_mean := Rep.via (fun x => (x.sum, x.many))
instance : Flat Layer_mean := Flat.via _
instance : Fits Layer_mean := ⟨fun x => fits x.sum ∧ fits x.many⟩
instance : FitsRep Layer_mean := ⟨fun h => FitsRep.of (α := Int × Int) h⟩

structure Ref_mean where
  node : Int
  num : Int
  den : Int
  deriving Inhabited, DecidableEq
instance : Rep Ref_mean := Rep.via (fun x => (x.node, x.num, x.den))
instance : Flat Ref_mean := Flat.via _
instance : Fits Ref_mean := ⟨fun x => fits x.node ∧ fits x.num ∧ fits x.den⟩
instance : FitsRep Ref_mean := ⟨fun h => FitsRep.of (α := Int × Int × Int) h⟩

end Go.DB
