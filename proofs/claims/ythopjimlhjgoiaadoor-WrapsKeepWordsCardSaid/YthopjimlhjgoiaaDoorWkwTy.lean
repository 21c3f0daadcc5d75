/-
  The program's structs.
-/
import Derived.Test.YthopjimlhjgoiaaDoorCore45
import Derived.Test.YthopjimlhjgoiaaDoorExJoin
import Derived.Test.YthopjimlhjgoiaaDoorExReplace
import Derived.Test.YthopjimlhjgoiaaDoorExSplit
import Derived.Test.YthopjimlhjgoiaaDoorExFields
import Derived.Test.YthopjimlhjgoiaaDoorExIndexByte
import Derived.Test.YthopjimlhjgoiaaDoorExContains
import Derived.Test.YthopjimlhjgoiaaDoorExValid
import Derived.Test.YthopjimlhjgoiaaDoorExRunes
set_option maxRecDepth 100000
set_option linter.unusedSimpArgs false
set_option linter.unusedVariables false
namespace Go.DB
open Go Go.RowKit

structure Font where
  Line : Int
  Narrow : Int
  Normal : Int
  Wide : Int
  deriving Inhabited, DecidableEq
instance : Rep Font := Rep.via (fun x => (x.Line, x.Narrow, x.Normal, x.Wide))
instance : Flat Font := Flat.via _
instance : Fits Font := ⟨fun x => fits x.Line ∧ fits x.Narrow ∧ fits x.Normal ∧ fits x.Wide⟩
instance : FitsRep Font := ⟨fun h => FitsRep.of (α := Int × Int × Int × Int) h⟩

end Go.DB
