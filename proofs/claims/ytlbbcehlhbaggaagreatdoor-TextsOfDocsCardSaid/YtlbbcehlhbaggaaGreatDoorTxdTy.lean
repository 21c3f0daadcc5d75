/-
  The program's structs.
-/
import Derived.Test.YtlbbcehlhbaggaaGreatDoorCore52
import Derived.Test.YtlbbcehlhbaggaaGreatDoorExCount
import Derived.Test.YtlbbcehlhbaggaaGreatDoorExQuote
import Derived.Test.YtlbbcehlhbaggaaGreatDoorExItoa
import Derived.Test.YtlbbcehlhbaggaaGreatDoorExSplit
import Derived.Test.YtlbbcehlhbaggaaGreatDoorExFields
import Derived.Test.YtlbbcehlhbaggaaGreatDoorExValid
import Derived.Test.YtlbbcehlhbaggaaGreatDoorExTrim
import Derived.Test.YtlbbcehlhbaggaaGreatDoorExAtoi
import Derived.Test.YtlbbcehlhbaggaaGreatDoorExIndexByte
import Derived.Test.YtlbbcehlhbaggaaGreatDoorExCut
import Derived.Test.YtlbbcehlhbaggaaGreatDoorExBuilder
import Derived.Test.YtlbbcehlhbaggaaGreatDoorExJoin
set_option maxRecDepth 100000
set_option linter.unusedSimpArgs false
set_option linter.unusedVariables false
namespace Go.DB
open Go Go.RowKit

structure Box where
  X : Int
  Y : Int
  W_ : Int
  H : Int
  deriving Inhabited, DecidableEq
instance : Rep Box := Rep.via (fun x => (x.X, x.Y, x.W_, x.H))
instance : Flat Box := Flat.via _
instance : Fits Box := ⟨fun x => fits x.X ∧ fits x.Y ∧ fits x.W_ ∧ fits x.H⟩
instance : FitsRep Box := ⟨fun h => FitsRep.of (α := Int × Int × Int × Int) h⟩

structure DNode where
  Id : Str
  Kind : Int
  Box : Box
  Text : Str
  Class : Str
  Parent : Str
  Locked : Bool
  deriving Inhabited, DecidableEq
instance : Rep DNode := Rep.via (fun x => (x.Id, x.Kind, x.Box, x.Text, x.Class, x.Parent, x.Locked))
instance : Flat DNode := Flat.via _
instance : Fits DNode := ⟨fun x => fits x.Id ∧ fits x.Kind ∧ fits x.Box ∧ fits x.Text ∧ fits x.Class ∧ fits x.Parent ∧ fits x.Locked⟩
instance : FitsRep DNode := ⟨fun h => FitsRep.of (α := Str × Int × Box × Str × Str × Str × Bool) h⟩

structure DEnd where
  Node : Str
  Side : Int
  At : Int
  deriving Inhabited, DecidableEq
instance : Rep DEnd := Rep.via (fun x => (x.Node, x.Side, x.At))
instance : Flat DEnd := Flat.via _
instance : Fits DEnd := ⟨fun x => fits x.Node ∧ fits x.Side ∧ fits x.At⟩
instance : FitsRep DEnd := ⟨fun h => FitsRep.of (α := Str × Int × Int) h⟩

structure Point where
  X : Int
  Y : Int
  deriving Inhabited, DecidableEq
instance : Rep Point := Rep.via (fun x => (x.X, x.Y))
instance : Flat Point := Flat.via _
instance : Fits Point := ⟨fun x => fits x.X ∧ fits x.Y⟩
instance : FitsRep Point := ⟨fun h => FitsRep.of (α := Int × Int) h⟩

structure DEdge where
  Id : Str
  From : DEnd
  To : DEnd
  Bends : (List Point)
  Text : Str
  Class : Str
  deriving Inhabited, DecidableEq
instance : Rep DEdge := Rep.via (fun x => (x.Id, x.From, x.To, x.Bends, x.Text, x.Class))
instance : Fits DEdge := ⟨fun x => fits x.Id ∧ fits x.From ∧ fits x.To ∧ fits x.Bends ∧ fits x.Text ∧ fits x.Class⟩
instance : FitsRep DEdge := ⟨fun h => FitsRep.of (α := Str × DEnd × DEnd × (List Point) × Str × Str) h⟩

structure Doc where
  Nodes : (List DNode)
  Edges : (List DEdge)
  deriving Inhabited, DecidableEq
instance : Rep Doc := Rep.via (fun x => (x.Nodes, x.Edges))
instance : Fits Doc := ⟨fun x => fits x.Nodes ∧ fits x.Edges⟩
instance : FitsRep Doc := ⟨fun h => FitsRep.of (α := (List DNode) × (List DEdge)) h⟩

structure Rule where
  Class : Str
  Prop_ : Str
  Value : Str
  deriving Inhabited, DecidableEq
instance : Rep Rule := Rep.via (fun x => (x.Class, x.Prop_, x.Value))
instance : Flat Rule := Flat.via _
instance : Fits Rule := ⟨fun x => fits x.Class ∧ fits x.Prop_ ∧ fits x.Value⟩
instance : FitsRep Rule := ⟨fun h => FitsRep.of (α := Str × Str × Str) h⟩

structure Page_view where
  d : Doc
  number : (GMap Str Int)
  members : (GMap Str (List Int))
  deriving Inhabited
instance : Rep Page_view := Rep.via (fun x => (x.d, x.number, x.members))
instance : Fits Page_view := ⟨fun x => fits x.d ∧ fits x.number ∧ fits x.members⟩
instance : FitsRep Page_view := ⟨fun h => FitsRep.of (α := Doc × (GMap Str Int) × (GMap Str (List Int))) h⟩

structure Page_view_o12 where
  d : Doc
  number : Raw
  members : Raw
  deriving Inhabited
instance : Rep Page_view_o12 := Rep.via (fun x => (x.d, x.number, x.members))

structure Doc_o01 where
  Nodes : Raw
  Edges : Raw
  deriving Inhabited
instance : Rep Doc_o01 := Rep.via (fun x => (x.Nodes, x.Edges))

structure Desk_words where
  l : (List Str)
  deriving Inhabited, DecidableEq
instance : Rep Desk_words := Rep.via (fun x => (x.l))
instance : Fits Desk_words := ⟨fun x => fits x.l⟩
instance : FitsRep Desk_words := ⟨fun h => FitsRep.of (α := (List Str)) h⟩

end Go.DB
