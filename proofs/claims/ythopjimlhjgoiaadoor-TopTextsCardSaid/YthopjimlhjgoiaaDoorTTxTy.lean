/-
  The program's structs.
-/
import Derived.Test.YthopjimlhjgoiaaDoorCoreD
import Derived.Test.YthopjimlhjgoiaaDoorExIndexByte
import Derived.Test.YthopjimlhjgoiaaDoorExRunes
import Derived.Test.YthopjimlhjgoiaaDoorExSplit
import Derived.Test.YthopjimlhjgoiaaDoorExValid
import Derived.Test.YthopjimlhjgoiaaDoorExCount
set_option maxRecDepth 100000
set_option linter.unusedSimpArgs false
set_option linter.unusedVariables false
namespace Go.DB
open Go Go.RowKit

structure Font where
  Line : Int
  Narrow : Int
  Normal : Int
  Wide : Int
  deriving Inhabited, DecidableEq
instance : Rep Font := Rep.via (fun x => (x.Line, x.Narrow, x.Normal, x.Wide))
instance : Flat Font := Flat.via _
instance : Fits Font := ⟨fun x => fits x.Line ∧ fits x.Narrow ∧ fits x.Normal ∧ fits x.Wide⟩
instance : FitsRep Font := ⟨fun h => FitsRep.of (α := Int × Int × Int × Int) h⟩

structure Box where
  X : Int
  Y : Int
  W_ : Int
  H : Int
  deriving Inhabited, DecidableEq
instance : Rep Box := Rep.via (fun x => (x.X, x.Y, x.W_, x.H))
instance : Flat Box := Flat.via _
instance : Fits Box := ⟨fun x => fits x.X ∧ fits x.Y ∧ fits x.W_ ∧ fits x.H⟩
instance : FitsRep Box := ⟨fun h => FitsRep.of (α := Int × Int × Int × Int) h⟩

structure Placed where
  Text : Str
  Box : Box
  deriving Inhabited, DecidableEq
instance : Rep Placed := Rep.via (fun x => (x.Text, x.Box))
instance : Flat Placed := Flat.via _
instance : Fits Placed := ⟨fun x => fits x.Text ∧ fits x.Box⟩
instance : FitsRep Placed := ⟨fun h => FitsRep.of (α := Str × Box) h⟩

end Go.DB
