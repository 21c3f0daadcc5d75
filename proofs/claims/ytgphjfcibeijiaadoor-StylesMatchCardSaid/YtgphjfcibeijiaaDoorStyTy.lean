/-
  The program's structs.
-/
import Derived.Test.YtgphjfcibeijiaaDoorCore38
import Derived.Test.YtgphjfcibeijiaaDoorExTrim
import Derived.Test.YtgphjfcibeijiaaDoorExSortFunc
import Derived.Test.YtgphjfcibeijiaaDoorExCmp
set_option maxRecDepth 100000
set_option linter.unusedSimpArgs false
set_option linter.unusedVariables false
namespace Go.DB
open Go Go.RowKit

structure Rule where
  Class : Str
  Prop_ : Str
  Value : Str
  deriving Inhabited, DecidableEq
instance : Rep Rule := Rep.via (fun x => (x.Class, x.Prop_, x.Value))
instance : Flat Rule := Flat.via _
instance : Fits Rule := ⟨fun x => fits x.Class ∧ fits x.Prop_ ∧ fits x.Value⟩
instance : FitsRep Rule := ⟨fun h => FitsRep.of (α := Str × Str × Str) h⟩

structure Attr where
  Field : Str
  Value : Str
  deriving Inhabited, DecidableEq
instance : Rep Attr := Rep.via (fun x => (x.Field, x.Value))
instance : Flat Attr := Flat.via _
instance : Fits Attr := ⟨fun x => fits x.Field ∧ fits x.Value⟩
instance : FitsRep Attr := ⟨fun h => FitsRep.of (α := Str × Str) h⟩

end Go.DB
