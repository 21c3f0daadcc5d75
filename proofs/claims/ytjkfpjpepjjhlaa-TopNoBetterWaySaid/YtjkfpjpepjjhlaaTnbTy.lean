/-
  The program's structs.
-/
import Derived.Test.YtjkfpjpepjjhlaaCore48
import Derived.Test.YtjkfpjpepjjhlaaExCompact
import Derived.Test.YtjkfpjpepjjhlaaExSort
set_option maxRecDepth 100000
set_option linter.unusedSimpArgs false
set_option linter.unusedVariables false
namespace Go.DB
open Go Go.RowKit

structure Point where
  X : Int
  Y : Int
  deriving Inhabited, DecidableEq
instance : Rep Point := Rep.via (fun x => (x.X, x.Y))
instance : Flat Point := Flat.via _
instance : Fits Point := ⟨fun x => fits x.X ∧ fits x.Y⟩
instance : FitsRep Point := ⟨fun h => FitsRep.of (α := Int × Int) h⟩

structure Box where
  X : Int
  Y : Int
  W_ : Int
  H : Int
  deriving Inhabited, DecidableEq
instance : Rep Box := Rep.via (fun x => (x.X, x.Y, x.W_, x.H))
instance : Flat Box := Flat.via _
instance : Fits Box := ⟨fun x => fits x.X ∧ fits x.Y ∧ fits x.W_ ∧ fits x.H⟩
instance : FitsRep Box := ⟨fun h => FitsRep.of (α := Int × Int × Int × Int) h⟩

structure Task where
  From : Point
  FromSide : Int
  To : Point
  ToSide : Int
  Walls : (List Box)
  Clear : Int
  deriving Inhabited, DecidableEq
instance : Rep Task := Rep.via (fun x => (x.From, x.FromSide, x.To, x.ToSide, x.Walls, x.Clear))
instance : Fits Task := ⟨fun x => fits x.From ∧ fits x.FromSide ∧ fits x.To ∧ fits x.ToSide ∧ fits x.Walls ∧ fits x.Clear⟩
instance : FitsRep Task := ⟨fun h => FitsRep.of (α := Point × Int × Point × Int × (List Box) × Int) h⟩

structure Anon_p_side where
  p : Point
  side : Int
  deriving Inhabited, DecidableEq
instance : Rep Anon_p_side := Rep.via (fun x => (x.p, x.side))
instance : Flat Anon_p_side := Flat.via _
instance : Fits Anon_p_side := ⟨fun x => fits x.p ∧ fits x.side⟩
instance : FitsRep Anon_p_side := ⟨fun h => FitsRep.of (α := Point × Int) h⟩

structure Route_zone where
  left : Int
  top : Int
  right : Int
  bottom : Int
  deriving Inhabited, DecidableEq
instance : Rep Route_zone := Rep.via (fun x => (x.left, x.top, x.right, x.bottom))
instance : Flat Route_zone := Flat.via _
instance : Fits Route_zone := ⟨fun x => fits x.left ∧ fits x.top ∧ fits x.right ∧ fits x.bottom⟩
instance : FitsRep Route_zone := ⟨fun h => FitsRep.of (α := Int × Int × Int × Int) h⟩

structure Route_search where
  xs : (List Int)
  ys : (List Int)
  across : (List Bool)
  down : (List Bool)
  deriving Inhabited, DecidableEq
instance : Rep Route_search := Rep.via (fun x => (x.xs, x.ys, x.across, x.down))
instance : Fits Route_search := ⟨fun x => fits x.xs ∧ fits x.ys ∧ fits x.across ∧ fits x.down⟩
instance : FitsRep Route_search := ⟨fun h => FitsRep.of (α := (List Int) × (List Int) × (List Bool) × (List Bool)) h⟩

structure Route_search_o2 where
  xs : (List Int)
  ys : (List Int)
  across : Raw
  down : (List Bool)
  deriving Inhabited
instance : Rep Route_search_o2 := Rep.via (fun x => (x.xs, x.ys, x.across, x.down))

structure Route_search_o23 where
  xs : (List Int)
  ys : (List Int)
  across : Raw
  down : Raw
  deriving Inhabited
instance : Rep Route_search_o23 := Rep.via (fun x => (x.xs, x.ys, x.across, x.down))

structure Route_spot where
  x : Int
  y : Int
  side : Int
  deriving Inhabited, DecidableEq
instance : Rep Route_spot := Rep.via (fun x => (x.x, x.y, x.side))
instance : Flat Route_spot := Flat.via _
instance : Fits Route_spot := ⟨fun x => fits x.x ∧ fits x.y ∧ fits x.side⟩
instance : FitsRep Route_spot := ⟨fun h => FitsRep.of (α := Int × Int × Int) h⟩

structure Route_reached where
  spot : Route_spot
  bends : Int
  long : Int
  deriving Inhabited, DecidableEq
instance : Rep Route_reached := Rep.via (fun x => (x.spot, x.bends, x.long))
instance : Flat Route_reached := Flat.via _
instance : Fits Route_reached := ⟨fun x => fits x.spot ∧ fits x.bends ∧ fits x.long⟩
instance : FitsRep Route_reached := ⟨fun h => FitsRep.of (α := Route_spot × Int × Int) h⟩

end Go.DB
