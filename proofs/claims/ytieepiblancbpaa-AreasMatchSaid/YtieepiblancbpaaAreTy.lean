/-
  The program's structs.
-/
import Derived.Test.YtieepiblancbpaaCore40
import Derived.Test.YtieepiblancbpaaExSortFunc
set_option maxRecDepth 100000
set_option linter.unusedSimpArgs false
set_option linter.unusedVariables false
namespace Go.DB
open Go Go.RowKit

structure Point where
  X : Int
  Y : Int
  deriving Inhabited, DecidableEq
instance : Rep Point := Rep.via (fun x => (x.X, x.Y))
instance : Flat Point := Flat.via _
instance : Fits Point := ⟨fun x => fits x.X ∧ fits x.Y⟩
instance : FitsRep Point := ⟨fun h => FitsRep.of (α := Int × Int) h⟩

end Go.DB
