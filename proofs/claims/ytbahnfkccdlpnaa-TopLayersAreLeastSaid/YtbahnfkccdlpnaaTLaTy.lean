/-
  The program's structs.
-/
import Derived.Test.YtbahnfkccdlpnaaCore37
import Derived.Test.YtbahnfkccdlpnaaExSort
import Derived.Test.YtbahnfkccdlpnaaExCompact
import Derived.Test.YtbahnfkccdlpnaaExSorted
import Derived.Test.YtbahnfkccdlpnaaExClone
set_option maxRecDepth 100000
set_option linter.unusedSimpArgs false
set_option linter.unusedVariables false
namespace Go.DB
open Go Go.RowKit

instance : Rep SeqI := Rep.seq 95

structure Point where
  X : Int
  Y : Int
  deriving Inhabited, DecidableEq
instance : Rep Point := Rep.via (fun x => (x.X, x.Y))
instance : Flat Point := Flat.via _
instance : Fits Point := ⟨fun x => fits x.X ∧ fits x.Y⟩
instance : FitsRep Point := ⟨fun h => FitsRep.of (α := Int × Int) h⟩

structure Link where
  From : Int
  To : Int
  deriving Inhabited, DecidableEq
instance : Rep Link := Rep.via (fun x => (x.From, x.To))
instance : Flat Link := Flat.via _
instance : Fits Link := ⟨fun x => fits x.From ∧ fits x.To⟩
instance : FitsRep Link := ⟨fun h => FitsRep.of (α := Int × Int) h⟩

structure Layer_arc where
  from_ : Int
  to_ : Int
  link : Int
  gain : Int
  deriving Inhabited, DecidableEq
instance : Rep Layer_arc := Rep.via (fun x => (x.from_, x.to_, x.link, x.gain))
instance : Flat Layer_arc := Flat.via _
instance : Fits Layer_arc := ⟨fun x => fits x.from_ ∧ fits x.to_ ∧ fits x.link ∧ fits x.gain⟩
instance : FitsRep Layer_arc := ⟨fun h => FitsRep.of (α := Int × Int × Int × Int) h⟩

structure Layer_mean where
  sum : Int
  many : Int
  deriving Inhabited, DecidableEq
instance : Rep Layer_mean := Rep.via (fun x => (x.sum, x.many))
instance : Flat Layer_mean := Flat.via _
instance : Fits Layer_mean := ⟨fun x => fits x.sum ∧ fits x.many⟩
instance : FitsRep Layer_mean := ⟨fun h => FitsRep.of (α := Int × Int) h⟩

end Go.DB
