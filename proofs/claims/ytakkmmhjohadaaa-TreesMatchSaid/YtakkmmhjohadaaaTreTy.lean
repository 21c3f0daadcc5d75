/-
  The program's structs.
-/
import Derived.Test.YtakkmmhjohadaaaCore13
import Derived.Test.YtakkmmhjohadaaaExSort
set_option maxRecDepth 100000
set_option linter.unusedSimpArgs false
set_option linter.unusedVariables false
namespace Go.DB
open Go Go.RowKit

structure Branch where
  W_ : Int
  H : Int
  Kids : (List Int)
  deriving Inhabited, DecidableEq
instance : Rep Branch := Rep.via (fun x => (x.W_, x.H, x.Kids))
instance : Fits Branch := ⟨fun x => fits x.W_ ∧ fits x.H ∧ fits x.Kids⟩
instance : FitsRep Branch := ⟨fun h => FitsRep.of (α := Int × Int × (List Int)) h⟩

end Go.DB
