/-
  The program's structs.
-/
import Derived.Test.YtbahnfkccdlpnaaCore36
import Derived.Test.YtbahnfkccdlpnaaExSort
set_option maxRecDepth 100000
set_option linter.unusedSimpArgs false
set_option linter.unusedVariables false
namespace Go.DB
open Go Go.RowKit

structure Link where
  From : Int
  To : Int
  deriving Inhabited, DecidableEq
instance : Rep Link := Rep.via (fun x => (x.From, x.To))
instance : Flat Link := Flat.via _
instance : Fits Link := ⟨fun x => fits x.From ∧ fits x.To⟩
instance : FitsRep Link := ⟨fun h => FitsRep.of (α := Int × Int) h⟩

structure Layer_arc where
  from_ : Int
  to_ : Int
  link : Int
  gain : Int
  deriving Inhabited, DecidableEq
instance : Rep Layer_arc := Rep.via (fun x => (x.from_, x.to_, x.link, x.gain))
instance : Flat Layer_arc := Flat.via _
instance : Fits Layer_arc := ⟨fun x => fits x.from_ ∧ fits x.to_ ∧ fits x.link ∧ fits x.gain⟩
instance : FitsRep Layer_arc := ⟨fun h => FitsRep.of (α := Int × Int × Int × Int) h⟩

end Go.DB
