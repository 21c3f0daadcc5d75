/-
  The program's structs.
-/
import Derived.Test.YtbahnfkccdlpnaaCore35
import Derived.Test.YtbahnfkccdlpnaaExSort
import Derived.Test.YtbahnfkccdlpnaaExSorted
set_option maxRecDepth 100000
set_option linter.unusedSimpArgs false
set_option linter.unusedVariables false
namespace Go.DB
open Go Go.RowKit

instance : Rep SeqI := Rep.seq 95

structure Link where
  From : Int
  To : Int
  deriving Inhabited, DecidableEq
instance : Rep Link := Rep.via (fun x => (x.From, x.To))
instance : Flat Link := Flat.via _
instance : Fits Link := ⟨fun x => fits x.From ∧ fits x.To⟩
instance : FitsRep Link := ⟨fun h => FitsRep.of (α := Int × Int) h⟩

end Go.DB
