/-
  The program's structs.
-/
import Derived.Test.YtieepiblancbpaaCore34
import Derived.Test.YtieepiblancbpaaExCompact
import Derived.Test.YtieepiblancbpaaExSort
import Derived.Test.YtieepiblancbpaaExSortFunc
set_option maxRecDepth 100000
set_option linter.unusedSimpArgs false
set_option linter.unusedVariables false
namespace Go.DB
open Go Go.RowKit

structure Geom_rail where
  at_ : Int
  from_ : Int
  to_ : Int
  along : Int
  back : Bool
  deriving Inhabited, DecidableEq
instance : Rep Geom_rail := Rep.via (fun x => (x.at_, x.from_, x.to_, x.along, x.back))
instance : Flat Geom_rail := Flat.via _
instance : Fits Geom_rail := ⟨fun x => fits x.at_ ∧ fits x.from_ ∧ fits x.to_ ∧ fits x.along ∧ fits x.back⟩
instance : FitsRep Geom_rail := ⟨fun h => FitsRep.of (α := Int × Int × Int × Int × Bool) h⟩

structure Point where
  X : Int
  Y : Int
  deriving Inhabited, DecidableEq
instance : Rep Point := Rep.via (fun x => (x.X, x.Y))
instance : Flat Point := Flat.via _
instance : Fits Point := ⟨fun x => fits x.X ∧ fits x.Y⟩
instance : FitsRep Point := ⟨fun h => FitsRep.of (α := Int × Int) h⟩

end Go.DB
