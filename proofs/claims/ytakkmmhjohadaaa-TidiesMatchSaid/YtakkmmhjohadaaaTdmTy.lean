/-
  The program's structs.
-/
import Derived.Test.YtakkmmhjohadaaaCoreE
set_option maxRecDepth 100000
set_option linter.unusedSimpArgs false
set_option linter.unusedVariables false
namespace Go.DB
open Go Go.RowKit

structure Branch where
  W_ : Int
  H : Int
  Kids : (List Int)
  deriving Inhabited, DecidableEq
instance : Rep Branch := Rep.via (fun x => (x.W_, x.H, x.Kids))
instance : Fits Branch := ⟨fun x => fits x.W_ ∧ fits x.H ∧ fits x.Kids⟩
instance : FitsRep Branch := ⟨fun h => FitsRep.of (α := Int × Int × (List Int)) h⟩

structure Point where
  X : Int
  Y : Int
  deriving Inhabited, DecidableEq
instance : Rep Point := Rep.via (fun x => (x.X, x.Y))
instance : Flat Point := Flat.via _
instance : Fits Point := ⟨fun x => fits x.X ∧ fits x.Y⟩
instance : FitsRep Point := ⟨fun h => FitsRep.of (α := Int × Int) h⟩

structure Tree_drawer where
  t : (List Branch)
  gap : Int
  x : (List Int)
  moved : (List Int)
  deriving Inhabited, DecidableEq
instance : Rep Tree_drawer := Rep.via (fun x => (x.t, x.gap, x.x, x.moved))
instance : Fits Tree_drawer := ⟨fun x => fits x.t ∧ fits x.gap ∧ fits x.x ∧ fits x.moved⟩
instance : FitsRep Tree_drawer := ⟨fun h => FitsRep.of (α := (List Branch) × Int × (List Int) × (List Int)) h⟩

structure Tree_drawer_o23 where
  t : (List Branch)
  gap : Int
  x : Raw
  moved : Raw
instance : Rep Tree_drawer_o23 := Rep.via (fun x => (x.t, x.gap, x.x, x.moved))

structure Tree_stretch where
  from_ : Int
  to_ : Int
  deriving Inhabited, DecidableEq
instance : Rep Tree_stretch := Rep.via (fun x => (x.from_, x.to_))
instance : Flat Tree_stretch := Flat.via _
instance : Fits Tree_stretch := ⟨fun x => fits x.from_ ∧ fits x.to_⟩
instance : FitsRep Tree_stretch := ⟨fun h => FitsRep.of (α := Int × Int) h⟩

structure Ref_drawn where
  x : (GMap Int Int)
  level : (GMap Int Int)
  deriving Inhabited
instance : Rep Ref_drawn := Rep.via (fun x => (x.x, x.level))
instance : Fits Ref_drawn := ⟨fun x => fits x.x ∧ fits x.level⟩
instance : FitsRep Ref_drawn := ⟨fun h => FitsRep.of (α := (GMap Int Int) × (GMap Int Int)) h⟩

structure Ref_drawn_o01 where
  x : Raw
  level : Raw
instance : Rep Ref_drawn_o01 := Rep.via (fun x => (x.x, x.level))

end Go.DB
