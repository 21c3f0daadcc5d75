/-
  The program's structs.
-/
import Derived.Test.YtchnjieebkkhnaaGreatDoorCore47
import Derived.Test.YtchnjieebkkhnaaGreatDoorExValid
import Derived.Test.YtchnjieebkkhnaaGreatDoorExTrim
import Derived.Test.YtchnjieebkkhnaaGreatDoorExSortFunc
import Derived.Test.YtchnjieebkkhnaaGreatDoorExCmp
import Derived.Test.YtchnjieebkkhnaaGreatDoorExCompare
import Derived.Test.YtchnjieebkkhnaaGreatDoorExSortS
import Derived.Test.YtchnjieebkkhnaaGreatDoorExGrow
import Derived.Test.YtchnjieebkkhnaaGreatDoorExKeys
import Derived.Test.YtchnjieebkkhnaaGreatDoorExSortU
set_option maxRecDepth 100000
set_option linter.unusedSimpArgs false
set_option linter.unusedVariables false
namespace Go.DB
open Go Go.RowKit

structure Attr where
  Field : Str
  Value : Str
  deriving Inhabited, DecidableEq
instance : Rep Attr := Rep.via (fun x => (x.Field, x.Value))
instance : Flat Attr := Flat.via _
instance : Fits Attr := ⟨fun x => fits x.Field ∧ fits x.Value⟩
instance : FitsRep Attr := ⟨fun h => FitsRep.of (α := Str × Str) h⟩

structure Thing where
  Id : Str
  Attrs : (List Attr)
  deriving Inhabited, DecidableEq
instance : Rep Thing := Rep.via (fun x => (x.Id, x.Attrs))
instance : Fits Thing := ⟨fun x => fits x.Id ∧ fits x.Attrs⟩
instance : FitsRep Thing := ⟨fun h => FitsRep.of (α := Str × (List Attr)) h⟩

structure Stamp where
  Time : Int
  Site : Str
  No : Int
  deriving Inhabited, DecidableEq
instance : Rep Stamp := Rep.via (fun x => (x.Time, x.Site, x.No))
instance : Flat Stamp := Flat.via _
instance : Fits Stamp := ⟨fun x => fits x.Time ∧ fits x.Site ∧ fits x.No⟩
instance : FitsRep Stamp := ⟨fun h => FitsRep.of (α := Int × Str × Int) h⟩

structure DOp where
  Stamp : Stamp
  Kind : Int
  Id : Str
  Field : Str
  Value : Str
  Of : Int
  deriving Inhabited, DecidableEq
instance : Rep DOp := Rep.via (fun x => (x.Stamp, x.Kind, x.Id, x.Field, x.Value, x.Of))
instance : Flat DOp := Flat.via _
instance : Fits DOp := ⟨fun x => fits x.Stamp ∧ fits x.Kind ∧ fits x.Id ∧ fits x.Field ∧ fits x.Value ∧ fits x.Of⟩
instance : FitsRep DOp := ⟨fun h => FitsRep.of (α := Stamp × Int × Str × Str × Str × Int) h⟩

structure Thing_o1 where
  Id : Str
  Attrs : Raw
  deriving Inhabited
instance : Rep Thing_o1 := Rep.via (fun x => (x.Id, x.Attrs))

end Go.DB
