/-
  The program's structs.
-/
import Derived.Test.YtjnglmeiifcgjaaGreatDoorCore51
import Derived.Test.YtjnglmeiifcgjaaGreatDoorExCount
import Derived.Test.YtjnglmeiifcgjaaGreatDoorExItoa
import Derived.Test.YtjnglmeiifcgjaaGreatDoorExQuote
import Derived.Test.YtjnglmeiifcgjaaGreatDoorExJoin
import Derived.Test.YtjnglmeiifcgjaaGreatDoorExValid
import Derived.Test.YtjnglmeiifcgjaaGreatDoorExSortFunc
import Derived.Test.YtjnglmeiifcgjaaGreatDoorExCmp
import Derived.Test.YtjnglmeiifcgjaaGreatDoorExCompare
import Derived.Test.YtjnglmeiifcgjaaGreatDoorExTrim
import Derived.Test.YtjnglmeiifcgjaaGreatDoorExIndexByte
import Derived.Test.YtjnglmeiifcgjaaGreatDoorExAtoi
import Derived.Test.YtjnglmeiifcgjaaGreatDoorExSplit
import Derived.Test.YtjnglmeiifcgjaaGreatDoorExSplitN
import Derived.Test.YtjnglmeiifcgjaaGreatDoorExCut
import Derived.Test.YtjnglmeiifcgjaaGreatDoorExBuilder
set_option maxRecDepth 100000
set_option linter.unusedSimpArgs false
set_option linter.unusedVariables false
namespace Go.DB
open Go Go.RowKit

structure Stamp where
  Time : Int
  Site : Str
  No : Int
  deriving Inhabited, DecidableEq
instance : Rep Stamp := Rep.via (fun x => (x.Time, x.Site, x.No))
instance : Flat Stamp := Flat.via _
instance : Fits Stamp := ⟨fun x => fits x.Time ∧ fits x.Site ∧ fits x.No⟩
instance : FitsRep Stamp := ⟨fun h => FitsRep.of (α := Int × Str × Int) h⟩

structure DOp where
  Stamp : Stamp
  Kind : Int
  Id : Str
  Field : Str
  Value : Str
  Of : Int
  deriving Inhabited, DecidableEq
instance : Rep DOp := Rep.via (fun x => (x.Stamp, x.Kind, x.Id, x.Field, x.Value, x.Of))
instance : Flat DOp := Flat.via _
instance : Fits DOp := ⟨fun x => fits x.Stamp ∧ fits x.Kind ∧ fits x.Id ∧ fits x.Field ∧ fits x.Value ∧ fits x.Of⟩
instance : FitsRep DOp := ⟨fun h => FitsRep.of (α := Stamp × Int × Str × Str × Str × Int) h⟩

end Go.DB
