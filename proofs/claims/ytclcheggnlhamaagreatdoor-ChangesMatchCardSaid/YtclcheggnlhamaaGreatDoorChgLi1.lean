/-
  What the functions compute, as plain functions (printed by a program of one's own).
-/
import Derived.Test.YtclcheggnlhamaaGreatDoorChgTy
set_option maxRecDepth 100000
set_option linter.unusedSimpArgs false
set_option linter.unusedVariables false
namespace Go.DB
open Go Go.RowKit

/-- unicode/utf8.ValidString -/
noncomputable def utf8_ValidString (s : Str) : Option Bool := some (validS s)

/-- slices.Insert[[]drawboard/api.Node,drawboard/api.Node] -/
noncomputable def slices_Insert_Node (l : List DNode) (i : Int) (v : List DNode) : Option (List DNode) := need (0 ≤ i ∧ i ≤ l.length ∧ (l.length : Int) + v.length ≤ 1073741824) (some (l.take i.toNat ++ v ++ l.drop i.toNat))

/-- strings.Trim -/
noncomputable def strings_Trim (s cs : Str) : Option Str := need ((cs.b.length : Int) < 4294967281 ∧ cs.b.all (fun b => decide (b.toNat < 128)) = true) (some (trimS s cs))

/-- slices.Grow[[]drawboard/api.Node,drawboard/api.Node] (of nil) -/
noncomputable def slices_Grow_Node (n : Int) : Option (List DNode) := need (0 ≤ n ∧ n ≤ 1073741824) (some [])

/-- drawref1.nodeError$1 -/
noncomputable def ref_nodeError_1 (m1 : DNode) (c0_1 : DNode) : Option Bool :=
 some (decide (m1.Id = c0_1.Id))

noncomputable def slices_IndexFunc_Node_L1 (f1 : (DNode → Option Bool)) (s1 : (List DNode)) (i : Int) (s : Unit) : Option (Res Unit (Res Unit Int)) :=
 need (inR s1 i) <|
 Option.bind (f1 (gx s1 i)) fun r1 =>
 bif r1 then (
  some (Res.ab (Res.ab i)))
 else (
  some (Res.nx ()))

/-- slices.IndexFunc[[]api.Node,api.Node] -/
noncomputable def slices_IndexFunc_Node (s1 : (List DNode)) (f1 : (DNode → Option Bool)) : Option Int :=
 bindR (σ := Unit) (ρ := Int) (
  rforE (s1.length : Int) (slices_IndexFunc_Node_L1 f1 s1) (fun s => Res.nx s) ()) fun j_1 =>
 some (-1)

/-- slices.ContainsFunc[[]api.Node,api.Node] -/
noncomputable def slices_ContainsFunc_Node (s1 : (List DNode)) (f1 : (DNode → Option Bool)) : Option Bool :=
 Option.bind (slices_IndexFunc_Node s1 f1) fun r1 =>
 some (decide (0 ≤ r1))

noncomputable def ref_NameOf_L1 (s1 : Str) (i : Int) (s : Unit) : Option (Res Unit (Res Unit Bool)) :=
 need (inR s1.b i) <|
 bnd ((⟨((gx s1.b i).toNat : Int)⟩ : KI .u8)) fun c1 =>
 bif (!((decide ((⟨97⟩ : KI .u8).n ≤ c1.n)) && (decide (c1.n ≤ (⟨122⟩ : KI .u8).n)))) && ((decide (i = 0)) || ((!((decide ((⟨48⟩ : KI .u8).n ≤ c1.n)) && (decide (c1.n ≤ (⟨57⟩ : KI .u8).n)))) && (!decide (c1.n = (⟨45⟩ : KI .u8).n)))) then (
  some (Res.ab (Res.ab false)))
 else (
  some (Res.nx ()))

/-- drawref1.NameOf -/
noncomputable def ref_NameOf (s1 : Str) : Option Bool :=
 bindR (σ := Unit) (ρ := Bool) (
  rforE (s1.b.length : Int) (ref_NameOf_L1 s1) (fun s => Res.nx s) ()) fun j_1 =>
 some ((!decide (s1 = Str.nil)) && (decide ((s1.b.length : Int) ≤ 40)))

/-- drawref1.When -/
noncomputable def ref_When (is1 : Bool) (e1 : Int) : Option Int :=
 bif is1 then (
  some e1)
 else (
  some 0)

/-- drawref1.In -/
noncomputable def ref_In (n1 : Int) (low1 : Int) (high1 : Int) : Option Bool :=
 some ((decide (low1 ≤ n1)) && (decide (n1 ≤ high1)))

noncomputable def ref_First_L1 (l1 : (List Int)) (i : Int) (s : Unit) : Option (Res Unit (Res Unit Int)) :=
 need (inR l1 i) <|
 bnd (gx l1 i) fun e1 =>
 bif !decide (e1 = 0) then (
  some (Res.ab (Res.ab e1)))
 else (
  some (Res.nx ()))

/-- drawref1.First -/
noncomputable def ref_First (l1 : (List Int)) : Option Int :=
 bindR (σ := Unit) (ρ := Int) (
  rforE (l1.length : Int) (ref_First_L1 l1) (fun s => Res.nx s) ()) fun j_1 =>
 some 0

/-- drawref1.PointError -/
noncomputable def ref_PointError (p1 : Point) : Option Int :=
 Option.bind (ref_In p1.X (-1000000) 1000000) fun r1 =>
 Option.bind (gd (!(!r1)) (ref_In p1.Y (-1000000) 1000000)) fun r2 =>
 Option.bind (ref_When ((!r1) || (!r2)) 3) fun r3 =>
 some r3

/-- drawref1.BoxError -/
noncomputable def ref_BoxError (b1 : Box) : Option Int :=
 Option.bind (ref_PointError (⟨b1.X, b1.Y⟩ : Point)) fun r1 =>
 Option.bind (ref_In b1.W_ 1 20000) fun r2 =>
 Option.bind (gd (!(!r2)) (ref_In b1.H 1 20000)) fun r3 =>
 Option.bind (ref_When ((!r2) || (!r3)) 3) fun r4 =>
 Option.bind (ref_First [r1, r4]) fun r5 =>
 some r5

noncomputable def ref_TextError_L1 (s1 : Str) (i : Int) (s : Bool) : Option Bool :=
 need (s = false → inR s1.b i) <|
 need (s = false → (decide ((⟨((gx s1.b i).toNat : Int)⟩ : KI .u8).n < (⟨32⟩ : KI .u8).n)) = true → inR s1.b i) <|
 need ((s || ((decide ((⟨((gx s1.b i).toNat : Int)⟩ : KI .u8).n < (⟨32⟩ : KI .u8).n)) && (!decide ((⟨((gx s1.b i).toNat : Int)⟩ : KI .u8).n = (⟨10⟩ : KI .u8).n)))) = false → inR s1.b i) <|
 bnd ((s || ((decide ((⟨((gx s1.b i).toNat : Int)⟩ : KI .u8).n < (⟨32⟩ : KI .u8).n)) && (!decide ((⟨((gx s1.b i).toNat : Int)⟩ : KI .u8).n = (⟨10⟩ : KI .u8).n)))) || (decide ((⟨((gx s1.b i).toNat : Int)⟩ : KI .u8).n = (⟨127⟩ : KI .u8).n))) fun bad2 =>
 some bad2

/-- drawref1.TextError -/
noncomputable def ref_TextError (s1 : Str) : Option Int :=
 Option.bind (utf8_ValidString s1) fun r1 =>
 bnd (!r1) fun bad1 =>
 Option.bind (α := Bool) (
  rfor (s1.b.length : Int) (ref_TextError_L1 s1) bad1) fun j_3 =>
 Option.bind (ref_When (decide (1000 < (s1.b.length : Int))) 4) fun r2 =>
 Option.bind (ref_When j_3 2) fun r3 =>
 Option.bind (ref_First [r2, r3]) fun r4 =>
 some r4

/-- drawref1.classError -/
noncomputable def ref_classError (s1 : Str) : Option Int :=
 Option.bind (gd ((!decide (s1 = Str.nil))) (ref_NameOf s1)) fun r1 =>
 Option.bind (ref_When ((!decide (s1 = Str.nil)) && (!r1)) 5) fun r2 =>
 some r2

/-- drawref1.nodeError -/
noncomputable def ref_nodeError (d1 : Doc) (i1 : Int) : Option Int :=
 need (inR d1.Nodes i1) <|
 bnd (gx d1.Nodes i1) fun v1 =>
 need (segR d1.Nodes.length 0 i1) <|
 Option.bind (slices_ContainsFunc_Node (seg d1.Nodes 0 i1) (fun x0 => ref_nodeError_1 x0 v1)) fun twice1 =>
 Option.bind (ref_NameOf v1.Id) fun r1 =>
 Option.bind (ref_When (!r1) 5) fun r2 =>
 Option.bind (ref_When twice1 6) fun r3 =>
 Option.bind (ref_In v1.Kind 1 6) fun r4 =>
 Option.bind (ref_When (!r4) 1) fun r5 =>
 Option.bind (ref_First [r2, r3, r5]) fun e1 =>
 bif !decide (e1 = 0) then (
  some e1)
 else (
  Option.bind (ref_When (!decide (v1.Box = (⟨(0 : Int), (0 : Int), (0 : Int), (0 : Int)⟩ : Box))) 2) fun box1 =>
  Option.bind (α := Int) (
   bif !decide (v1.Kind = 6) then (
    Option.bind (ref_BoxError v1.Box) fun box2 =>
    some box2)
   else (
    some box1)) fun j_13 =>
  Option.bind (ref_TextError v1.Text) fun r6 =>
  Option.bind (ref_classError v1.Class) fun r7 =>
  Option.bind (ref_First [j_13, r6, r7]) fun r8 =>
  some r8)

/-- drawref1.NodeAt$1 -/
noncomputable def ref_NodeAt_1 (n1 : DNode) (c0_1 : Str) : Option Bool :=
 some (decide (n1.Id = c0_1))

/-- drawref1.NodeAt -/
noncomputable def ref_NodeAt (d1 : Doc) (id1 : Str) : Option Int :=
 Option.bind (slices_IndexFunc_Node d1.Nodes (fun x0 => ref_NodeAt_1 x0 id1)) fun r1 =>
 some r1

noncomputable def ref_above_L1 (d1 : Doc) (n1 : DNode) (s2_ : (Int × Str)) : Option (Step (Int × Str) (Res Int (Int × Bool))) :=
 bif !decide (s2_.2 = Str.nil) then (
  bnd (W (s2_.1 + 1)) fun many1 =>
  bif (decide (s2_.2 = n1.Id)) || (decide ((d1.Nodes.length : Int) < many1)) then (
   some (Step.done (Res.ab (many1, decide (s2_.2 = n1.Id)))))
  else (
   Option.bind (ref_NodeAt d1 s2_.2) fun r1 =>
   need (inR d1.Nodes r1) <|
   bnd ((gx d1.Nodes r1).Parent) fun id1 =>
   some (Step.again (many1, id1))))
 else (
  some (Step.done (Res.nx s2_.1)))

/-- drawref1.above -/
noncomputable def ref_above (d1 : Doc) (n1 : DNode) : Option (Int × Bool) :=
 bindR (σ := Int) (ρ := (Int × Bool)) (
  loop (ref_above_L1 d1 n1) (0, n1.Parent)) fun j_1 =>
 some (j_1, false)

noncomputable def ref_members_L1 (d1 : Doc) (id1 : Str) (i : Int) (s : (List DNode)) : Option (List DNode) :=
 need (inR d1.Nodes i) <|
 bnd (gx d1.Nodes i) fun v1 =>
 bif decide (v1.Parent = id1) then (
  need (room (s.length + [v1].length)) <|
  some (s ++ [v1]))
 else (
  some s)

/-- drawref1.members -/
noncomputable def ref_members (d1 : Doc) (id1 : Str) : Option (List DNode) :=
 Option.bind (α := (List DNode)) (
  rfor (d1.Nodes.length : Int) (ref_members_L1 d1 id1) ([] : List DNode)) fun j_1 =>
 some j_1

noncomputable def ref_treeError_L1 (d1 : Doc) (i : Int) (s : Unit) : Option (Res Unit (Res Unit Int)) :=
 need (inR d1.Nodes i) <|
 bnd (gx d1.Nodes i) fun v1 =>
 Option.bind (ref_NodeAt d1 v1.Parent) fun k1 =>
 need ((!decide (v1.Parent = Str.nil)) = true → (decide (k1 < 0)) = false → inR d1.Nodes k1) <|
 bif (!decide (v1.Parent = Str.nil)) && ((decide (k1 < 0)) || (!decide (((gx d1.Nodes k1).Kind) = 6))) then (
  some (Res.ab (Res.ab 10)))
 else (
  some (Res.nx ()))

noncomputable def ref_treeError_L2 (d1 : Doc) (i : Int) (s : Unit) : Option (Res Unit (Res Unit Int)) :=
 need (inR d1.Nodes i) <|
 bnd (gx d1.Nodes i) fun v2 =>
 Option.bind (ref_above d1 v2) fun r1 =>
 bif r1.2 then (
  some (Res.ab (Res.ab 13)))
 else (
  some (Res.nx ()))

noncomputable def ref_treeError_L3 (d1 : Doc) (i : Int) (s : Unit) : Option (Res Unit (Res Unit Int)) :=
 need (inR d1.Nodes i) <|
 bnd (gx d1.Nodes i) fun v3 =>
 Option.bind (ref_above d1 v3) fun r2 =>
 bif decide (8 < r2.1) then (
  some (Res.ab (Res.ab 4)))
 else (
  some (Res.nx ()))

noncomputable def ref_treeError_L4 (d1 : Doc) (i : Int) (s : Unit) : Option (Res Unit (Res Unit Int)) :=
 need (inR d1.Nodes i) <|
 bnd (gx d1.Nodes i) fun v4 =>
 Option.bind (gd ((decide (v4.Kind = 6))) (ref_members d1 v4.Id)) fun r3 =>
 bif (decide (v4.Kind = 6)) && (decide ((r3.length : Int) = 0)) then (
  some (Res.ab (Res.ab 9)))
 else (
  some (Res.nx ()))

/-- drawref1.treeError -/
noncomputable def ref_treeError (d1 : Doc) : Option Int :=
 bindR (σ := Unit) (ρ := Int) (
  rforE (d1.Nodes.length : Int) (ref_treeError_L1 d1) (fun s => Res.nx s) ()) fun j_1 =>
 bindR (σ := Unit) (ρ := Int) (
  rforE (d1.Nodes.length : Int) (ref_treeError_L2 d1) (fun s => Res.nx s) ()) fun j_10 =>
 bindR (σ := Unit) (ρ := Int) (
  rforE (d1.Nodes.length : Int) (ref_treeError_L3 d1) (fun s => Res.nx s) ()) fun j_18 =>
 bindR (σ := Unit) (ρ := Int) (
  rforE (d1.Nodes.length : Int) (ref_treeError_L4 d1) (fun s => Res.nx s) ()) fun j_26 =>
 some 0

/-- drawref1.edgeError$1 -/
noncomputable def ref_edgeError_1 (y1 : DEdge) (c0_1 : DEdge) : Option Bool :=
 some (decide (y1.Id = c0_1.Id))

noncomputable def slices_IndexFunc_Edge_L1 (f1 : (DEdge → Option Bool)) (s1 : (List DEdge)) (i : Int) (s : Unit) : Option (Res Unit (Res Unit Int)) :=
 need (inR s1 i) <|
 Option.bind (f1 (gx s1 i)) fun r1 =>
 bif r1 then (
  some (Res.ab (Res.ab i)))
 else (
  some (Res.nx ()))

/-- slices.IndexFunc[[]api.Edge,api.Edge] -/
noncomputable def slices_IndexFunc_Edge (s1 : (List DEdge)) (f1 : (DEdge → Option Bool)) : Option Int :=
 bindR (σ := Unit) (ρ := Int) (
  rforE (s1.length : Int) (slices_IndexFunc_Edge_L1 f1 s1) (fun s => Res.nx s) ()) fun j_1 =>
 some (-1)

/-- slices.ContainsFunc[[]api.Edge,api.Edge] -/
noncomputable def slices_ContainsFunc_Edge (s1 : (List DEdge)) (f1 : (DEdge → Option Bool)) : Option Bool :=
 Option.bind (slices_IndexFunc_Edge s1 f1) fun r1 =>
 some (decide (0 ≤ r1))

/-- drawref1.PortError -/
noncomputable def ref_PortError (side1 : Int) (at1 : Int) : Option Int :=
 Option.bind (ref_In side1 1 4) fun r1 =>
 Option.bind (gd (!(!r1)) (ref_In at1 0 1000)) fun r2 =>
 Option.bind (ref_When ((!r1) || (!r2)) 3) fun r3 =>
 some r3

noncomputable def ref_PointsError_L1 (l1 : (List Point)) (i : Int) (s : Unit) : Option (Res Unit (Res Unit Int)) :=
 need (inR l1 i) <|
 bnd (gx l1 i) fun v1 =>
 Option.bind (ref_PointError v1) fun e1 =>
 bif !decide (e1 = 0) then (
  some (Res.ab (Res.ab e1)))
 else (
  some (Res.nx ()))

/-- drawref1.PointsError -/
noncomputable def ref_PointsError (l1 : (List Point)) : Option Int :=
 bif decide (1000 < (l1.length : Int)) then (
  some 4)
 else (
  bindR (σ := Unit) (ρ := Int) (
   rforE (l1.length : Int) (ref_PointsError_L1 l1) (fun s => Res.nx s) ()) fun j_2 =>
  some 0)

noncomputable def ref_edgeError_L1 (d1 : Doc) (v2 : (List DEnd)) (i : Int) (s : Unit) : Option (Res Unit (Res Unit Int)) :=
 need (inR v2 i) <|
 bnd (gx v2 i) fun v3 =>
 Option.bind (ref_NodeAt d1 v3.Node) fun k1 =>
 bif decide (k1 < 0) then (
  some (Res.ab (Res.ab 10)))
 else (
  need (inR d1.Nodes k1) <|
  Option.bind (ref_When (decide (((gx d1.Nodes k1).Kind) = 6)) 1) fun r6 =>
  Option.bind (ref_PortError v3.Side v3.At) fun r7 =>
  Option.bind (ref_First [r6, r7]) fun e2 =>
  bif !decide (e2 = 0) then (
   some (Res.ab (Res.ab e2)))
  else (
   some (Res.nx ())))

/-- drawref1.edgeError -/
noncomputable def ref_edgeError (d1 : Doc) (i1 : Int) : Option Int :=
 need (inR d1.Edges i1) <|
 bnd (gx d1.Edges i1) fun v1 =>
 Option.bind (ref_NodeAt d1 v1.Id) fun r1 =>
 need ((decide (0 ≤ r1)) = false → segR d1.Edges.length 0 i1) <|
 Option.bind (gd (!(decide (0 ≤ r1))) (slices_ContainsFunc_Edge (seg d1.Edges 0 i1) (fun x0 => ref_edgeError_1 x0 v1))) fun r2 =>
 Option.bind (ref_NameOf v1.Id) fun r3 =>
 Option.bind (ref_When (!r3) 5) fun r4 =>
 Option.bind (ref_When ((decide (0 ≤ r1)) || r2) 6) fun r5 =>
 Option.bind (ref_First [r4, r5]) fun e1 =>
 bif !decide (e1 = 0) then (
  some e1)
 else (
  bnd ([v1.From, v1.To]) fun v2 =>
  bindR (σ := Unit) (ρ := Int) (
   rforE (v2.length : Int) (ref_edgeError_L1 d1 v2) (fun s => Res.nx s) ()) fun j_12 =>
  bif decide (50 < (v1.Bends.length : Int)) then (
   some 4)
  else (
   Option.bind (ref_PointsError v1.Bends) fun r8 =>
   Option.bind (ref_TextError v1.Text) fun r9 =>
   Option.bind (ref_classError v1.Class) fun r10 =>
   Option.bind (ref_First [r8, r9, r10]) fun r11 =>
   some r11))

noncomputable def ref_HullOf_L1 (l1 : (List Box)) (i : Int) (s : (Int × Int × Int × Int)) : Option (Int × Int × Int × Int) :=
 need (inR l1 i) <|
 bnd (gx l1 i) fun v3 =>
 bnd (min s.1 v3.X) fun x2 =>
 bnd (min s.2.1 v3.Y) fun y2 =>
 bnd (max s.2.2.1 (W (v3.X + v3.W_))) fun r2 =>
 bnd (max s.2.2.2 (W (v3.Y + v3.H))) fun d2 =>
 some (x2, y2, r2, d2)

/-- drawref1.HullOf -/
noncomputable def ref_HullOf (l1 : (List Box)) : Option (Box × Int) :=
 bnd ((⟨(0 : Int), (0 : Int), (0 : Int), (0 : Int)⟩ : Box)) fun v1 =>
 bif decide ((l1.length : Int) = 0) then (
  bnd ((⟨(0 : Int), (0 : Int), (0 : Int), (0 : Int)⟩ : Box)) fun v2 =>
  some (v2, 9))
 else (
  need (inR l1 0) <|
  need (inR l1 0) <|
  need (inR l1 0) <|
  need (inR l1 0) <|
  bnd ((gx l1 0).X) fun x1 =>
  bnd ((gx l1 0).Y) fun y1 =>
  bnd ((gx l1 0).X) fun r1 =>
  bnd ((gx l1 0).Y) fun d1 =>
  Option.bind (α := (Int × Int × Int × Int)) (
   rfor (l1.length : Int) (ref_HullOf_L1 l1) (x1, y1, r1, d1)) fun j_12 =>
  bif (decide (20000 < (W (j_12.2.2.1 - j_12.1)))) || (decide (20000 < (W (j_12.2.2.2 - j_12.2.1)))) then (
   bnd ((⟨(0 : Int), (0 : Int), (0 : Int), (0 : Int)⟩ : Box)) fun v4 =>
   some (v4, 4))
  else (
   bnd ((⟨j_12.1, j_12.2.1, W (j_12.2.2.1 - j_12.1), W (j_12.2.2.2 - j_12.2.1)⟩ : Box)) fun v5 =>
   some (v5, 0)))

noncomputable def ref_BoxOfNode_L1 (self : (Doc × Str) → Option (Box × Int)) (x : (Doc × Str)) (r2 : (List DNode)) (i : Int) (s : (List Box)) : Option (Res (List Box) (Res (List Box) (Box × Int))) :=
 need (inR r2 i) <|
 bnd (gx r2 i) fun v3 =>
 Option.bind (self (x.1, v3.Id)) fun r3 =>
 bif !decide (r3.2 = 0) then (
  bnd ((⟨(0 : Int), (0 : Int), (0 : Int), (0 : Int)⟩ : Box)) fun v4 =>
  some (Res.ab (Res.ab (v4, r3.2))))
 else (
  need (room (s.length + [r3.1].length)) <|
  some (Res.nx (s ++ [r3.1])))

/-- drawref1.BoxOfNode -/
noncomputable def ref_BoxOfNode_body (self : (Doc × Str) → Option (Box × Int)) (x : (Doc × Str)) : Option (Box × Int) :=
 bnd ((⟨(0 : Int), (0 : Int), (0 : Int), (0 : Int)⟩ : Box)) fun v1 =>
 Option.bind (ref_NodeAt x.1 x.2) fun r1 =>
 need (inR x.1.Nodes r1) <|
 bnd (gx x.1.Nodes r1) fun v2 =>
 bif !decide (v2.Kind = 6) then (
  some (v2.Box, 0))
 else (
  Option.bind (ref_members x.1 x.2) fun r2 =>
  bindR (σ := (List Box)) (ρ := (Box × Int)) (
   rforE (r2.length : Int) (ref_BoxOfNode_L1 self x r2) (fun s => Res.nx s) ([] : List Box)) fun j_7 =>
  Option.bind (ref_HullOf j_7) fun r4 =>
  bif !decide (r4.2 = 0) then (
   bnd ((⟨(0 : Int), (0 : Int), (0 : Int), (0 : Int)⟩ : Box)) fun v5 =>
   some (v5, r4.2))
  else (
   bnd ((⟨W (r4.1.X - 10), W (r4.1.Y - 10), W (r4.1.W_ + 20), W (r4.1.H + 20)⟩ : Box)) fun v6 =>
   Option.bind (ref_BoxError v6) fun r5 =>
   some (v6, r5)))

noncomputable def ref_BoxOfNode (d1 : Doc) (id1 : Str) : Option (Box × Int) := fixp ref_BoxOfNode_body (d1, id1)

noncomputable def ref_DocError_L1 (d1 : Doc) (i : Int) (s : Unit) : Option (Res Unit (Res Unit Int)) :=
 Option.bind (ref_nodeError d1 i) fun e1 =>
 bif !decide (e1 = 0) then (
  some (Res.ab (Res.ab e1)))
 else (
  some (Res.nx ()))

noncomputable def ref_DocError_L2 (d1 : Doc) (i : Int) (s : Unit) : Option (Res Unit (Res Unit Int)) :=
 Option.bind (ref_edgeError d1 i) fun e3 =>
 bif !decide (e3 = 0) then (
  some (Res.ab (Res.ab e3)))
 else (
  some (Res.nx ()))

noncomputable def ref_DocError_L3 (d1 : Doc) (i : Int) (s : Unit) : Option (Res Unit (Res Unit Int)) :=
 need (inR d1.Nodes i) <|
 bnd (gx d1.Nodes i) fun v1 =>
 Option.bind (ref_BoxOfNode d1 v1.Id) fun r1 =>
 bif !decide (r1.2 = 0) then (
  some (Res.ab (Res.ab r1.2)))
 else (
  some (Res.nx ()))

/-- drawref1.DocError -/
noncomputable def ref_DocError (d1 : Doc) : Option Int :=
 bif (decide (500 < (d1.Nodes.length : Int))) || (decide (1000 < (d1.Edges.length : Int))) then (
  some 4)
 else (
  bindR (σ := Unit) (ρ := Int) (
   rforE (d1.Nodes.length : Int) (ref_DocError_L1 d1) (fun s => Res.nx s) ()) fun j_2 =>
  Option.bind (ref_treeError d1) fun e2 =>
  bif !decide (e2 = 0) then (
   some e2)
  else (
   bindR (σ := Unit) (ρ := Int) (
    rforE (d1.Edges.length : Int) (ref_DocError_L2 d1) (fun s => Res.nx s) ()) fun j_10 =>
   bindR (σ := Unit) (ρ := Int) (
    rforE (d1.Nodes.length : Int) (ref_DocError_L3 d1) (fun s => Res.nx s) ()) fun j_16 =>
   some 0))

noncomputable def slices_Index_string_L1 (s1 : (List Str)) (v1 : Str) (i : Int) (s : Unit) : Option (Res Unit (Res Unit Int)) :=
 need (inR s1 i) <|
 bif decide (v1 = (gx s1 i)) then (
  some (Res.ab (Res.ab i)))
 else (
  some (Res.nx ()))

/-- slices.Index[[]string,string] -/
noncomputable def slices_Index_string (s1 : (List Str)) (v1 : Str) : Option Int :=
 bindR (σ := Unit) (ρ := Int) (
  rforE (s1.length : Int) (slices_Index_string_L1 s1 v1) (fun s => Res.nx s) ()) fun j_1 =>
 some (-1)

/-- slices.Contains[[]string,string] -/
noncomputable def slices_Contains_string (s1 : (List Str)) (v1 : Str) : Option Bool :=
 Option.bind (slices_Index_string s1 v1) fun r1 =>
 some (decide (0 ≤ r1))

noncomputable def ref_SelectionError_L1 (d1 : Doc) (ids1 : (List Str)) (i : Int) (s : Unit) : Option (Res Unit (Res Unit Int)) :=
 need (inR ids1 i) <|
 bnd (gx ids1 i) fun id1 =>
 Option.bind (ref_NodeAt d1 id1) fun r1 =>
 Option.bind (ref_When (decide (r1 < 0)) 10) fun r2 =>
 need (segR ids1.length 0 i) <|
 Option.bind (slices_Contains_string (seg ids1 0 i) id1) fun r3 =>
 Option.bind (ref_When r3 6) fun r4 =>
 Option.bind (ref_First [r2, r4]) fun e1 =>
 bif !decide (e1 = 0) then (
  some (Res.ab (Res.ab e1)))
 else (
  some (Res.nx ()))

/-- drawref1.SelectionError -/
noncomputable def ref_SelectionError (d1 : Doc) (ids1 : (List Str)) : Option Int :=
 bindR (σ := Unit) (ρ := Int) (
  rforE (ids1.length : Int) (ref_SelectionError_L1 d1 ids1) (fun s => Res.nx s) ()) fun j_1 =>
 some 0

/-- drawlaw1.selected -/
noncomputable def law_selected (d1 : Doc) (ids1 : (List Str)) : Option Int :=
 Option.bind (ref_DocError d1) fun e1 =>
 bif !decide (e1 = 0) then (
  some e1)
 else (
  Option.bind (ref_SelectionError d1 ids1) fun r1 =>
  some r1)

/-- page.isName -/
noncomputable def page_isName (s1 : Str) : Option Bool :=
 need (((!decide (s1 = Str.nil)) && (decide ((s1.b.length : Int) ≤ 40))) = true → inR s1.b 0) <|
 need (((!decide (s1 = Str.nil)) && (decide ((s1.b.length : Int) ≤ 40))) = true → (decide ((⟨97⟩ : KI .u8).n ≤ (⟨((gx s1.b 0).toNat : Int)⟩ : KI .u8).n)) = true → inR s1.b 0) <|
 Option.bind (gd ((((!decide (s1 = Str.nil)) && (decide ((s1.b.length : Int) ≤ 40))) && ((decide ((⟨97⟩ : KI .u8).n ≤ (⟨((gx s1.b 0).toNat : Int)⟩ : KI .u8).n)) && (decide ((⟨((gx s1.b 0).toNat : Int)⟩ : KI .u8).n ≤ (⟨122⟩ : KI .u8).n))))) (strings_Trim s1 (⟨[97, 98, 99, 100, 101, 102, 103, 104, 105, 106, 107, 108, 109, 110, 111, 112, 113, 114, 115, 116, 117, 118, 119, 120, 121, 122, 48, 49, 50, 51, 52, 53, 54, 55, 56, 57, 45]⟩ : Str))) fun r1 =>
 some ((((!decide (s1 = Str.nil)) && (decide ((s1.b.length : Int) ≤ 40))) && ((decide ((⟨97⟩ : KI .u8).n ≤ (⟨((gx s1.b 0).toNat : Int)⟩ : KI .u8).n)) && (decide ((⟨((gx s1.b 0).toNat : Int)⟩ : KI .u8).n ≤ (⟨122⟩ : KI .u8).n)))) && (decide (r1 = Str.nil)))

/-- geom.out -/
noncomputable def geom_out (n1 : Int) : Option Bool :=
 some ((decide (n1 < (-1000000))) || (decide (1000000 < n1)))

/-- geom.CheckBox -/
noncomputable def geom_CheckBox (b1 : Box) : Option Int :=
 Option.bind (geom_out b1.X) fun r1 =>
 Option.bind (gd (!r1) (geom_out b1.Y)) fun r2 =>
 bif ((((r1 || r2) || (decide (b1.W_ < 1))) || (decide (20000 < b1.W_))) || (decide (b1.H < 1))) || (decide (20000 < b1.H)) then (
  some 3)
 else (
  some 0)

noncomputable def shape_CheckText_L1 (s1 : Str) (i : Int) (s : Unit) : Option (Res Unit (Res Unit Int)) :=
 need (inR s1.b i) <|
 need ((decide ((⟨((gx s1.b i).toNat : Int)⟩ : KI .u8).n < (⟨32⟩ : KI .u8).n)) = true → inR s1.b i) <|
 need (((decide ((⟨((gx s1.b i).toNat : Int)⟩ : KI .u8).n < (⟨32⟩ : KI .u8).n)) && (!decide ((⟨((gx s1.b i).toNat : Int)⟩ : KI .u8).n = (⟨10⟩ : KI .u8).n))) = false → inR s1.b i) <|
 bif ((decide ((⟨((gx s1.b i).toNat : Int)⟩ : KI .u8).n < (⟨32⟩ : KI .u8).n)) && (!decide ((⟨((gx s1.b i).toNat : Int)⟩ : KI .u8).n = (⟨10⟩ : KI .u8).n))) || (decide ((⟨((gx s1.b i).toNat : Int)⟩ : KI .u8).n = (⟨127⟩ : KI .u8).n)) then (
  some (Res.ab (Res.ab 2)))
 else (
  some (Res.nx ()))

/-- shape.CheckText -/
noncomputable def shape_CheckText (s1 : Str) : Option Int :=
 bif decide (1000 < (s1.b.length : Int)) then (
  some 4)
 else (
  Option.bind (utf8_ValidString s1) fun r1 =>
  bif !r1 then (
   some 2)
  else (
   bindR (σ := Unit) (ρ := Int) (
    rforE (s1.b.length : Int) (shape_CheckText_L1 s1) (fun s => Res.nx s) ()) fun j_4 =>
   some 0))

/-- page.checkNode -/
noncomputable def page_checkNode (n1 : DNode) (twice1 : Bool) : Option Int :=
 Option.bind (page_isName n1.Id) fun r1 =>
 bif !r1 then (
  some 5)
 else (
  bif twice1 then (
   some 6)
  else (
   bif (decide (n1.Kind < 1)) || (decide (6 < n1.Kind)) then (
    some 1)
   else (
    bif (decide (n1.Kind = 6)) && (!decide (n1.Box = (⟨(0 : Int), (0 : Int), (0 : Int), (0 : Int)⟩ : Box))) then (
     some 2)
    else (
     bindR (σ := Unit) (ρ := Int) (
      bif !decide (n1.Kind = 6) then (
       Option.bind (geom_CheckBox n1.Box) fun e1 =>
       bif !decide (e1 = 0) then (
        some (Res.ab e1))
       else (
        some (Res.nx ())))
      else (
       some (Res.nx ()))) fun j_6 =>
     Option.bind (shape_CheckText n1.Text) fun e2 =>
     bif !decide (e2 = 0) then (
      some e2)
     else (
      Option.bind (gd ((!decide (n1.Class = Str.nil))) (page_isName n1.Class)) fun r2 =>
      bif (!decide (n1.Class = Str.nil)) && (!r2) then (
       some 5)
      else (
       some 0))))))

noncomputable def page_viewOf_L1 (d1 : Doc) (i : Int) (s : ((GMap Str Int) × (GMap Str (List Int)))) : Option ((GMap Str Int) × (GMap Str (List Int))) :=
 need (inR d1.Nodes i) <|
 bnd (gx d1.Nodes i) fun v1 =>
 bnd (s.1.set v1.Id i) fun c3 =>
 bif !decide (v1.Parent = Str.nil) then (
  need (room ((s.2.getD v1.Parent ([] : (List Int))).length + [i].length)) <|
  some (c3, s.2.set v1.Parent ((s.2.getD v1.Parent ([] : (List Int))) ++ [i])))
 else (
  some (c3, s.2))

/-- page.viewOf -/
noncomputable def page_viewOf (d1 : Doc) : Option (Option Page_view) :=
 bnd ((GMap.nil : (GMap Str Int))) fun c1 =>
 bnd ((GMap.nil : (GMap Str (List Int)))) fun c2 =>
 Option.bind (α := ((GMap Str Int) × (GMap Str (List Int)))) (
  rfor (d1.Nodes.length : Int) (page_viewOf_L1 d1) (c1, c2)) fun j_3 =>
 some (some (⟨d1, j_3.1, j_3.2⟩ : Page_view))

/-- (*page.view).node -/
noncomputable def page_view_node (v1 : Page_view) (id1 : Str) : Option DNode :=
 bnd ((⟨Str.nil, (0 : Int), (⟨(0 : Int), (0 : Int), (0 : Int), (0 : Int)⟩ : Box), Str.nil, Str.nil, Str.nil, false⟩ : DNode)) fun v2 =>
 need (inR v1.d.Nodes (v1.number.getD id1 (0 : Int))) <|
 bnd (gx v1.d.Nodes (v1.number.getD id1 (0 : Int))) fun v3 =>
 some v3

noncomputable def page_view_above_L1 (n1 : DNode) (v1 : Page_view) (s2_ : (Int × DNode)) : Option (Step (Int × DNode) (Res Int (Int × Bool))) :=
 bif !decide (s2_.2.Parent = Str.nil) then (
  bnd (W (s2_.1 + 1)) fun many1 =>
  bif (decide (s2_.2.Parent = n1.Id)) || (decide ((v1.d.Nodes.length : Int) < many1)) then (
   some (Step.done (Res.ab (many1, !decide (s2_.2.Parent = n1.Id)))))
  else (
   Option.bind (page_view_node v1 s2_.2.Parent) fun r1 =>
   some (Step.again (many1, r1))))
 else (
  some (Step.done (Res.nx s2_.1)))

/-- (*page.view).above -/
noncomputable def page_view_above (v1 : Page_view) (n1 : DNode) : Option (Int × Bool) :=
 bindR (σ := Int) (ρ := (Int × Bool)) (
  loop (page_view_above_L1 n1 v1) (0, n1)) fun j_1 =>
 some (j_1, true)

noncomputable def page_view_checkGroups_L1 (v1 : Page_view) (i : Int) (s : Unit) : Option (Res Unit (Res Unit Int)) :=
 need (inR v1.d.Nodes i) <|
 bnd (gx v1.d.Nodes i) fun v2 =>
 need ((!decide (v2.Parent = Str.nil)) = true → (!(v1.number.has v2.Parent)) = false → inR v1.d.Nodes (v1.number.getD v2.Parent (0 : Int))) <|
 bif (!decide (v2.Parent = Str.nil)) && ((!(v1.number.has v2.Parent)) || (!decide (((gx v1.d.Nodes (v1.number.getD v2.Parent (0 : Int))).Kind) = 6))) then (
  some (Res.ab (Res.ab 10)))
 else (
  some (Res.nx ()))

noncomputable def page_view_checkGroups_L2 (v1 : Page_view) (i : Int) (s : Unit) : Option (Res Unit (Res Unit Int)) :=
 need (inR v1.d.Nodes i) <|
 bnd (gx v1.d.Nodes i) fun v3 =>
 Option.bind (page_view_above v1 v3) fun r1 =>
 bif !r1.2 then (
  some (Res.ab (Res.ab 13)))
 else (
  some (Res.nx ()))

noncomputable def page_view_checkGroups_L3 (v1 : Page_view) (i : Int) (s : Unit) : Option (Res Unit (Res Unit Int)) :=
 need (inR v1.d.Nodes i) <|
 bnd (gx v1.d.Nodes i) fun v4 =>
 Option.bind (page_view_above v1 v4) fun r2 =>
 bif decide (8 < r2.1) then (
  some (Res.ab (Res.ab 4)))
 else (
  some (Res.nx ()))

noncomputable def page_view_checkGroups_L4 (v1 : Page_view) (i : Int) (s : Unit) : Option (Res Unit (Res Unit Int)) :=
 need (inR v1.d.Nodes i) <|
 bnd (gx v1.d.Nodes i) fun v5 =>
 bif (decide (v5.Kind = 6)) && (decide (((v1.members.getD v5.Id ([] : (List Int))).length : Int) = 0)) then (
  some (Res.ab (Res.ab 9)))
 else (
  some (Res.nx ()))

/-- (*page.view).checkGroups -/
noncomputable def page_view_checkGroups (v1 : Page_view) : Option Int :=
 bindR (σ := Unit) (ρ := Int) (
  rforE (v1.d.Nodes.length : Int) (page_view_checkGroups_L1 v1) (fun s => Res.nx s) ()) fun j_1 =>
 bindR (σ := Unit) (ρ := Int) (
  rforE (v1.d.Nodes.length : Int) (page_view_checkGroups_L2 v1) (fun s => Res.nx s) ()) fun j_9 =>
 bindR (σ := Unit) (ρ := Int) (
  rforE (v1.d.Nodes.length : Int) (page_view_checkGroups_L3 v1) (fun s => Res.nx s) ()) fun j_17 =>
 bindR (σ := Unit) (ρ := Int) (
  rforE (v1.d.Nodes.length : Int) (page_view_checkGroups_L4 v1) (fun s => Res.nx s) ()) fun j_25 =>
 some 0

/-- (*page.view).checkEnd -/
noncomputable def page_view_checkEnd (v1 : Page_view) (x1 : DEnd) : Option Int :=
 bif !(v1.number.has x1.Node) then (
  some 10)
 else (
  need (inR v1.d.Nodes (v1.number.getD x1.Node (0 : Int))) <|
  bif decide (((gx v1.d.Nodes (v1.number.getD x1.Node (0 : Int))).Kind) = 6) then (
   some 1)
  else (
   bif (((decide (x1.Side < 1)) || (decide (4 < x1.Side))) || (decide (x1.At < 0))) || (decide (1000 < x1.At)) then (
    some 3)
   else (
    some 0)))

/-- geom.CheckPoint -/
noncomputable def geom_CheckPoint (p1 : Point) : Option Int :=
 Option.bind (geom_out p1.X) fun r1 =>
 Option.bind (gd (!r1) (geom_out p1.Y)) fun r2 =>
 bif r1 || r2 then (
  some 3)
 else (
  some 0)

noncomputable def geom_points_L1 (l1 : (List Point)) (i : Int) (s : Unit) : Option (Res Unit (Res Unit Int)) :=
 need (inR l1 i) <|
 bnd (gx l1 i) fun v1 =>
 Option.bind (geom_CheckPoint v1) fun e1 =>
 bif !decide (e1 = 0) then (
  some (Res.ab (Res.ab e1)))
 else (
  some (Res.nx ()))

/-- geom.points -/
noncomputable def geom_points (l1 : (List Point)) : Option Int :=
 bindR (σ := Unit) (ρ := Int) (
  rforE (l1.length : Int) (geom_points_L1 l1) (fun s => Res.nx s) ()) fun j_1 =>
 some 0

/-- geom.CheckPoints -/
noncomputable def geom_CheckPoints (l1 : (List Point)) : Option Int :=
 bif decide (1000 < (l1.length : Int)) then (
  some 4)
 else (
  Option.bind (geom_points l1) fun r1 =>
  some r1)

noncomputable def page_view_checkEdge_L1 (v1 : Page_view) (v2 : (List DEnd)) (i : Int) (s : Unit) : Option (Res Unit (Res Unit Int)) :=
 need (inR v2 i) <|
 bnd (gx v2 i) fun v3 =>
 Option.bind (page_view_checkEnd v1 v3) fun e1 =>
 bif !decide (e1 = 0) then (
  some (Res.ab (Res.ab e1)))
 else (
  some (Res.nx ()))

/-- (*page.view).checkEdge -/
noncomputable def page_view_checkEdge (v1 : Page_view) (x1 : DEdge) (twice1 : Bool) : Option Int :=
 Option.bind (page_isName x1.Id) fun r1 =>
 bif !r1 then (
  some 5)
 else (
  bif twice1 then (
   some 6)
  else (
   bnd ([x1.From, x1.To]) fun v2 =>
   bindR (σ := Unit) (ρ := Int) (
    rforE (v2.length : Int) (page_view_checkEdge_L1 v1 v2) (fun s => Res.nx s) ()) fun j_5 =>
   bif decide (50 < (x1.Bends.length : Int)) then (
    some 4)
   else (
    Option.bind (geom_CheckPoints x1.Bends) fun e2 =>
    bif !decide (e2 = 0) then (
     some e2)
    else (
     Option.bind (shape_CheckText x1.Text) fun e3 =>
     bif !decide (e3 = 0) then (
      some e3)
     else (
      Option.bind (gd ((!decide (x1.Class = Str.nil))) (page_isName x1.Class)) fun r2 =>
      bif (!decide (x1.Class = Str.nil)) && (!r2) then (
       some 5)
      else (
       some 0))))))

noncomputable def geom_boxes_L1 (l1 : (List Box)) (i : Int) (s : Unit) : Option (Res Unit (Res Unit Int)) :=
 need (inR l1 i) <|
 bnd (gx l1 i) fun v1 =>
 Option.bind (geom_CheckBox v1) fun e1 =>
 bif !decide (e1 = 0) then (
  some (Res.ab (Res.ab e1)))
 else (
  some (Res.nx ()))

/-- geom.boxes -/
noncomputable def geom_boxes (l1 : (List Box)) : Option Int :=
 bindR (σ := Unit) (ρ := Int) (
  rforE (l1.length : Int) (geom_boxes_L1 l1) (fun s => Res.nx s) ()) fun j_1 =>
 some 0

noncomputable def geom_Hull_L1 (l1 : (List Box)) (i : Int) (s : Box) : Option Box :=
 need (inR l1 i) <|
 bnd (gx l1 i) fun v6 =>
 bnd (min s.X v6.X) fun x1 =>
 bnd (min s.Y v6.Y) fun y1 =>
 bnd ((⟨x1, y1, W ((max (W (s.X + s.W_)) (W (v6.X + v6.W_))) - x1), W ((max (W (s.Y + s.H)) (W (v6.Y + v6.H))) - y1)⟩ : Box)) fun v7 =>
 some v7

/-- geom.Hull -/
noncomputable def geom_Hull (l1 : (List Box)) : Option (Box × Int) :=
 bnd ((⟨(0 : Int), (0 : Int), (0 : Int), (0 : Int)⟩ : Box)) fun v1 =>
 bif decide (1000 < (l1.length : Int)) then (
  bnd ((⟨(0 : Int), (0 : Int), (0 : Int), (0 : Int)⟩ : Box)) fun v2 =>
  some (v2, 4))
 else (
  Option.bind (geom_boxes l1) fun e1 =>
  bif !decide (e1 = 0) then (
   bnd ((⟨(0 : Int), (0 : Int), (0 : Int), (0 : Int)⟩ : Box)) fun v3 =>
   some (v3, e1))
  else (
   bif decide ((l1.length : Int) = 0) then (
    bnd ((⟨(0 : Int), (0 : Int), (0 : Int), (0 : Int)⟩ : Box)) fun v4 =>
    some (v4, 9))
   else (
    need (inR l1 0) <|
    bnd (gx l1 0) fun v5 =>
    Option.bind (α := Box) (
     rfor (l1.length : Int) (geom_Hull_L1 l1) v5) fun j_11 =>
    bif (decide (20000 < j_11.W_)) || (decide (20000 < j_11.H)) then (
     bnd ((⟨(0 : Int), (0 : Int), (0 : Int), (0 : Int)⟩ : Box)) fun v8 =>
     some (v8, 4))
    else (
     some (j_11, 0)))))

/-- geom.Grow -/
noncomputable def geom_Grow (b1 : Box) (n1 : Int) : Option (Box × Int) :=
 bnd ((⟨(0 : Int), (0 : Int), (0 : Int), (0 : Int)⟩ : Box)) fun v1 =>
 Option.bind (geom_CheckBox b1) fun e1 =>
 bif !decide (e1 = 0) then (
  bnd ((⟨(0 : Int), (0 : Int), (0 : Int), (0 : Int)⟩ : Box)) fun v2 =>
  some (v2, e1))
 else (
  bif (decide (n1 < (-20000))) || (decide (20000 < n1)) then (
   bnd ((⟨(0 : Int), (0 : Int), (0 : Int), (0 : Int)⟩ : Box)) fun v3 =>
   some (v3, 3))
  else (
   bnd ((⟨W (b1.X - n1), W (b1.Y - n1), W (b1.W_ + (W (2 * n1))), W (b1.H + (W (2 * n1)))⟩ : Box)) fun v4 =>
   bif (decide (v4.W_ < 1)) || (decide (v4.H < 1)) then (
    bnd ((⟨(0 : Int), (0 : Int), (0 : Int), (0 : Int)⟩ : Box)) fun v5 =>
    some (v5, 9))
   else (
    Option.bind (geom_CheckBox v4) fun e2 =>
    bif !decide (e2 = 0) then (
     bnd ((⟨(0 : Int), (0 : Int), (0 : Int), (0 : Int)⟩ : Box)) fun v6 =>
     some (v6, e2))
    else (
     some (v4, 0)))))

noncomputable def page_view_boxOf_L1 (self : (Page_view × Int) → Option (Box × Int)) (x : (Page_view × Int)) (v4 : (List Int)) (i : Int) (s : (List Box)) : Option (Res (List Box) (Res (List Box) (Box × Int))) :=
 need (inR v4 i) <|
 Option.bind (self (x.1, (gx v4 i))) fun r1 =>
 bif !decide (r1.2 = 0) then (
  bnd ((⟨(0 : Int), (0 : Int), (0 : Int), (0 : Int)⟩ : Box)) fun v5 =>
  some (Res.ab (Res.ab (v5, r1.2))))
 else (
  need (room (s.length + [r1.1].length)) <|
  some (Res.nx (s ++ [r1.1])))

/-- (*page.view).boxOf -/
noncomputable def page_view_boxOf_body (self : (Page_view × Int) → Option (Box × Int)) (x : (Page_view × Int)) : Option (Box × Int) :=
 bnd ((⟨(0 : Int), (0 : Int), (0 : Int), (0 : Int)⟩ : Box)) fun v2 =>
 need (inR x.1.d.Nodes x.2) <|
 bnd (gx x.1.d.Nodes x.2) fun v3 =>
 bif !decide (v3.Kind = 6) then (
  some (v3.Box, 0))
 else (
  bnd (x.1.members.getD v3.Id ([] : (List Int))) fun v4 =>
  bindR (σ := (List Box)) (ρ := (Box × Int)) (
   rforE (v4.length : Int) (page_view_boxOf_L1 self x v4) (fun s => Res.nx s) ([] : List Box)) fun j_6 =>
  Option.bind (geom_Hull j_6) fun r2 =>
  bif !decide (r2.2 = 0) then (
   bnd ((⟨(0 : Int), (0 : Int), (0 : Int), (0 : Int)⟩ : Box)) fun v6 =>
   some (v6, r2.2))
  else (
   Option.bind (geom_Grow r2.1 10) fun r3 =>
   some (r3.1, r3.2)))

noncomputable def page_view_boxOf (v1 : Page_view) (i1 : Int) : Option (Box × Int) := fixp page_view_boxOf_body (v1, i1)

noncomputable def page_Check_L1 (d1 : Doc) (i : Int) (s : (GMap Str Bool)) : Option (Res (GMap Str Bool) (Res (GMap Str Bool) Int)) :=
 need (inR d1.Nodes i) <|
 bnd (gx d1.Nodes i) fun v1 =>
 Option.bind (page_checkNode v1 (s.getD v1.Id false)) fun e1 =>
 bif !decide (e1 = 0) then (
  some (Res.ab (Res.ab e1)))
 else (
  some (Res.nx (s.set v1.Id true)))

noncomputable def page_Check_L2 (d1 : Doc) (p1 : Page_view) (i : Int) (s : (GMap Str Bool)) : Option (Res (GMap Str Bool) (Res (GMap Str Bool) Int)) :=
 need (inR d1.Edges i) <|
 bnd (gx d1.Edges i) fun v3 =>
 Option.bind (page_view_checkEdge p1 v3 (s.getD v3.Id false)) fun e3 =>
 bif !decide (e3 = 0) then (
  some (Res.ab (Res.ab e3)))
 else (
  some (Res.nx (s.set v3.Id true)))

noncomputable def page_Check_L3 (p1 : Page_view) (i : Int) (s : Unit) : Option (Res Unit (Res Unit Int)) :=
 Option.bind (page_view_boxOf p1 i) fun r1 =>
 bif !decide (r1.2 = 0) then (
  some (Res.ab (Res.ab r1.2)))
 else (
  some (Res.nx ()))

/-- page.Check -/
noncomputable def page_Check (d1 : Doc) : Option Int :=
 bif (decide (500 < (d1.Nodes.length : Int))) || (decide (1000 < (d1.Edges.length : Int))) then (
  some 4)
 else (
  bnd ((GMap.nil : (GMap Str Bool))) fun known1 =>
  bindR (σ := (GMap Str Bool)) (ρ := Int) (
   rforE (d1.Nodes.length : Int) (page_Check_L1 d1) (fun s => Res.nx s) known1) fun j_3 =>
  Option.bind (page_viewOf d1) fun v2 =>
  Option.bind v2 fun p1 =>
  Option.bind (page_view_checkGroups p1) fun e2 =>
  bif !decide (e2 = 0) then (
   some e2)
  else (
   bindR (σ := (GMap Str Bool)) (ρ := Int) (
    rforE (d1.Edges.length : Int) (page_Check_L2 d1 p1) (fun s => Res.nx s) j_3) fun j_15 =>
   bindR (σ := Unit) (ρ := Int) (
    rforE (d1.Nodes.length : Int) (page_Check_L3 p1) (fun s => Res.nx s) ()) fun j_23 =>
   some 0))

/-- page.look -/
noncomputable def page_look (d1 : Doc) : Option ((Option Page_view) × Int) :=
 Option.bind (page_Check d1) fun e1 =>
 bif !decide (e1 = 0) then (
  some ((none : (Option Page_view)), e1))
 else (
  Option.bind (page_viewOf d1) fun r1 =>
  Option.bind r1 fun p1 =>
  some ((some p1), 0))

noncomputable def page_selected_L1 (v2 : Page_view) (ids1 : (List Str)) (i : Int) (s : (List Bool)) : Option (Res (List Bool) (Res (List Bool) ((Option Page_view) × (List Int) × Int))) :=
 need (inR ids1 i) <|
 bnd (v2.number.getD (gx ids1 i) (0 : Int)) fun k1 =>
 bif !(v2.number.has (gx ids1 i)) then (
  some (Res.ab (Res.ab ((none : (Option Page_view)), ([] : (List Int)), 10))))
 else (
  need (inR s k1) <|
  bif gx s k1 then (
   some (Res.ab (Res.ab ((none : (Option Page_view)), ([] : (List Int)), 6))))
  else (
   need (inR s k1) <|
   some (Res.nx (s.set k1.toNat true))))

noncomputable def page_selected_L3 (d1 : Doc) (v2 : Page_view) (j_7 : (List Bool)) (s24_ : (Bool × DNode)) : Option (Step (Bool × DNode) Bool) :=
 bif !decide (s24_.2.Parent = Str.nil) then (
  bnd (v2.number.getD s24_.2.Parent (0 : Int)) fun k2 =>
  need (s24_.1 = false → inR j_7 k2) <|
  bnd (s24_.1 || (gx j_7 k2)) fun under1 =>
  need (inR d1.Nodes k2) <|
  bnd (gx d1.Nodes k2) fun v4 =>
  some (Step.again (under1, v4)))
 else (
  some (Step.done s24_.1))

noncomputable def page_selected_L2 (d1 : Doc) (v2 : Page_view) (j_7 : (List Bool)) (i : Int) (s : (List Int)) : Option (List Int) :=
 need (inR d1.Nodes i) <|
 bnd (gx d1.Nodes i) fun v3 =>
 Option.bind (α := Bool) (
  loop (page_selected_L3 d1 v2 j_7) (false, v3)) fun j_23 =>
 need (inR j_7 i) <|
 bif (gx j_7 i) && (!j_23) then (
  need (room (s.length + [i].length)) <|
  some (s ++ [i]))
 else (
  some s)

/-- page.selected -/
noncomputable def page_selected (d1 : Doc) (ids1 : (List Str)) : Option ((Option Page_view) × (List Int) × Int) :=
 Option.bind (page_look d1) fun r1 =>
 bif !decide (r1.2 = 0) then (
  some ((none : (Option Page_view)), ([] : (List Int)), r1.2))
 else (
  bnd ((d1.Nodes.length : Int)) fun v1 =>
  need (0 ≤ v1 ∧ v1 ≤ v1 ∧ v1 ≤ 1073741824) <|
  bnd (List.replicate v1.toNat false) fun chosen1 =>
  Option.bind r1.1 fun v2 =>
  bindR (σ := (List Bool)) (ρ := ((Option Page_view) × (List Int) × Int)) (
   rforE (ids1.length : Int) (page_selected_L1 v2 ids1) (fun s => Res.nx s) chosen1) fun j_7 =>
  Option.bind (α := (List Int)) (
   rfor (d1.Nodes.length : Int) (page_selected_L2 d1 v2 j_7) ([] : List Int)) fun j_17 =>
  some ((some v2), j_17, 0))

/-- slices.Clone[[]api.Node,api.Node] -/
noncomputable def slices_Clone_Node (s1 : (List DNode)) : Option (List DNode) :=
 nilc s1 (
  some ([] : List DNode)) (
  need (room (([] : (List DNode)).length + s1.length)) <|
  bnd (([] : (List DNode)) ++ s1) fun v1 =>
  some v1)

/-- slices.Clone[[]api.Edge,api.Edge] -/
noncomputable def slices_Clone_Edge (s1 : (List DEdge)) : Option (List DEdge) :=
 nilc s1 (
  some ([] : List DEdge)) (
  need (room (([] : (List DEdge)).length + s1.length)) <|
  bnd (([] : (List DEdge)) ++ s1) fun v1 =>
  some v1)

/-- slices.Clone[[]api.Point,api.Point] -/
noncomputable def slices_Clone_Point (s1 : (List Point)) : Option (List Point) :=
 nilc s1 (
  some ([] : List Point)) (
  need (room (([] : (List Point)).length + s1.length)) <|
  bnd (([] : (List Point)) ++ s1) fun v1 =>
  some v1)

noncomputable def page_cloned_L1  (i : Int) (s : (List DEdge)) : Option (List DEdge) :=
 need (inR s i) <|
 Option.bind (slices_Clone_Point ((gx s i).Bends)) fun r3 =>
 need (inR s i) <|
 some (s.set i.toNat { gx s i with Bends := r3 })

/-- page.cloned -/
noncomputable def page_cloned (d1 : Doc) : Option Doc :=
 bnd ((⟨([] : (List DNode)), ([] : (List DEdge))⟩ : Doc)) fun v1 =>
 Option.bind (slices_Clone_Node d1.Nodes) fun r1 =>
 Option.bind (slices_Clone_Edge d1.Edges) fun r2 =>
 Option.bind (α := (List DEdge)) (
  rfor (r2.length : Int) page_cloned_L1 r2) fun j_4 =>
 some ({ d1 with Nodes := r1, Edges := j_4 })

noncomputable def slices_Index_int_L1 (s1 : (List Int)) (v1 : Int) (i : Int) (s : Unit) : Option (Res Unit (Res Unit Int)) :=
 need (inR s1 i) <|
 bif decide (v1 = (gx s1 i)) then (
  some (Res.ab (Res.ab i)))
 else (
  some (Res.nx ()))

/-- slices.Index[[]int,int] -/
noncomputable def slices_Index_int (s1 : (List Int)) (v1 : Int) : Option Int :=
 bindR (σ := Unit) (ρ := Int) (
  rforE (s1.length : Int) (slices_Index_int_L1 s1 v1) (fun s => Res.nx s) ()) fun j_1 =>
 some (-1)

/-- slices.Contains[[]int,int] -/
noncomputable def slices_Contains_int (s1 : (List Int)) (v1 : Int) : Option Bool :=
 Option.bind (slices_Index_int s1 v1) fun r1 =>
 some (decide (0 ≤ r1))

noncomputable def slices_Concat_Node_L1 (slices1 : (List (List DNode))) (i : Int) (s : Int) : Option Int :=
 need (inR slices1 i) <|
 bnd (W (s + ((gx slices1 i).length : Int))) fun size1 =>
 bif decide (size1 < 0) then (
  none)
 else (
  some size1)

noncomputable def slices_Concat_Node_L2 (slices1 : (List (List DNode))) (i : Int) (s : (List DNode)) : Option (List DNode) :=
 need (inR slices1 i) <|
 need (room (s.length + (gx slices1 i).length)) <|
 some (s ++ (gx slices1 i))

/-- slices.Concat[[]api.Node,api.Node] -/
noncomputable def slices_Concat_Node (slices1 : (List (List DNode))) : Option (List DNode) :=
 Option.bind (α := Int) (
  rfor (slices1.length : Int) (slices_Concat_Node_L1 slices1) 0) fun j_1 =>
 Option.bind (slices_Grow_Node j_1) fun newslice1 =>
 Option.bind (α := (List DNode)) (
  rfor (slices1.length : Int) (slices_Concat_Node_L2 slices1) newslice1) fun j_9 =>
 some j_9

noncomputable def page_Front_L1 (r1 : ((Option Page_view) × (List Int) × Int)) (r2 : Doc) (i : Int) (s : ((List DNode) × (List DNode))) : Option ((List DNode) × (List DNode)) :=
 need (inR r2.Nodes i) <|
 bnd (gx r2.Nodes i) fun v3 =>
 Option.bind (slices_Contains_int r1.2.1 i) fun r3 =>
 bif r3 then (
  need (room (s.1.length + [v3].length)) <|
  some (s.1 ++ [v3], s.2))
 else (
  need (room (s.2.length + [v3].length)) <|
  some (s.1, s.2 ++ [v3]))

/-- page.Front -/
noncomputable def page_Front (d1 : Doc) (ids1 : (List Str)) (back1 : Bool) : Option (Doc × Int) :=
 bnd ((⟨([] : (List DNode)), ([] : (List DEdge))⟩ : Doc)) fun v1 =>
 Option.bind (page_selected d1 ids1) fun r1 =>
 bif !decide (r1.2.2 = 0) then (
  bnd ((⟨([] : (List DNode)), ([] : (List DEdge))⟩ : Doc)) fun v2 =>
  some (v2, r1.2.2))
 else (
  Option.bind (page_cloned d1) fun r2 =>
  Option.bind (α := ((List DNode) × (List DNode))) (
   rfor (r2.Nodes.length : Int) (page_Front_L1 r1 r2) (([] : List DNode), ([] : List DNode))) fun j_6 =>
  Option.bind (slices_Concat_Node [j_6.2, j_6.1]) fun r4 =>
  Option.bind (α := Doc) (
   bif back1 then (
    Option.bind (slices_Concat_Node [j_6.1, j_6.2]) fun r5 =>
    some ({ r2 with Nodes := r5 }))
   else (
    some ({ r2 with Nodes := r4 }))) fun j_17 =>
  bnd ({ j_17 with Nodes := j_17.Nodes }) fun v4 =>
  some (v4, 0))

/-- page.Group$1 -/
noncomputable def page_Group_1 (n1 : DNode) (c0_1 : Str) : Option Bool :=
 some (decide (n1.Id = c0_1))

/-- page.Group$2 -/
noncomputable def page_Group_2 (x1 : DEdge) (c0_1 : Str) : Option Bool :=
 some (decide (x1.Id = c0_1))

noncomputable def page_Group_L1 (d1 : Doc) (r1 : ((Option Page_view) × (List Int) × Int)) (parent1 : Str) (i : Int) (s : Unit) : Option (Res Unit (Res Unit (Doc × Int))) :=
 need (inR r1.2.1 i) <|
 need (inR d1.Nodes (gx r1.2.1 i)) <|
 bif !decide (((gx d1.Nodes (gx r1.2.1 i)).Parent) = parent1) then (
  bnd ((⟨([] : (List DNode)), ([] : (List DEdge))⟩ : Doc)) fun v4 =>
  some (Res.ab (Res.ab (v4, 11))))
 else (
  some (Res.nx ()))

noncomputable def page_Group_L2 (r1 : ((Option Page_view) × (List Int) × Int)) (id1 : Str) (i : Int) (s : (List DNode)) : Option (List DNode) :=
 need (inR r1.2.1 i) <|
 need (inR s (gx r1.2.1 i)) <|
 some (s.set (gx r1.2.1 i).toNat { gx s (gx r1.2.1 i) with Parent := id1 })

/-- page.Group -/
noncomputable def page_Group (d1 : Doc) (ids1 : (List Str)) (id1 : Str) : Option (Doc × Int) :=
 bnd ((⟨([] : (List DNode)), ([] : (List DEdge))⟩ : Doc)) fun v1 =>
 Option.bind (page_selected d1 ids1) fun r1 =>
 bif !decide (r1.2.2 = 0) then (
  bnd ((⟨([] : (List DNode)), ([] : (List DEdge))⟩ : Doc)) fun v2 =>
  some (v2, r1.2.2))
 else (
  bif decide ((r1.2.1.length : Int) = 0) then (
   bnd ((⟨([] : (List DNode)), ([] : (List DEdge))⟩ : Doc)) fun v3 =>
   some (v3, 9))
  else (
   need (inR r1.2.1 0) <|
   need (inR d1.Nodes (gx r1.2.1 0)) <|
   bnd ((gx d1.Nodes (gx r1.2.1 0)).Parent) fun parent1 =>
   bindR (σ := Unit) (ρ := (Doc × Int)) (
    rforE (r1.2.1.length : Int) (page_Group_L1 d1 r1 parent1) (fun s => Res.nx s) ()) fun j_10 =>
   Option.bind (page_isName id1) fun r2 =>
   bif !r2 then (
    bnd ((⟨([] : (List DNode)), ([] : (List DEdge))⟩ : Doc)) fun v5 =>
    some (v5, 5))
   else (
    Option.bind (slices_ContainsFunc_Node d1.Nodes (fun x0 => page_Group_1 x0 id1)) fun r3 =>
    Option.bind (gd (!r3) (slices_ContainsFunc_Edge d1.Edges (fun x0 => page_Group_2 x0 id1))) fun r4 =>
    bif r3 || r4 then (
     bnd ((⟨([] : (List DNode)), ([] : (List DEdge))⟩ : Doc)) fun v6 =>
     some (v6, 6))
    else (
     Option.bind (page_cloned d1) fun r5 =>
     Option.bind (α := (List DNode)) (
      rfor (r1.2.1.length : Int) (page_Group_L2 r1 id1) r5.Nodes) fun j_26 =>
     need (inR r1.2.1 (W ((r1.2.1.length : Int) - 1))) <|
     Option.bind (slices_Insert_Node j_26 (W ((gx r1.2.1 (W ((r1.2.1.length : Int) - 1))) + 1)) [(⟨id1, 6, (⟨(0 : Int), (0 : Int), (0 : Int), (0 : Int)⟩ : Box), Str.nil, Str.nil, parent1, false⟩ : DNode)]) fun r6 =>
     Option.bind (page_Check ({ r5 with Nodes := r6, Edges := r5.Edges })) fun e1 =>
     bif !decide (e1 = 0) then (
      bnd ((⟨([] : (List DNode)), ([] : (List DEdge))⟩ : Doc)) fun v7 =>
      some (v7, e1))
     else (
      bnd ({ r5 with Nodes := r6, Edges := r5.Edges }) fun v8 =>
      some (v8, 0))))))

noncomputable def page_view_below_L1 (self : (Page_view × Int × (List Bool)) → Option (List Bool)) (x : (Page_view × Int × (List Bool))) (v2 : (List Int)) (i : Int) (s : (List Bool)) : Option (List Bool) :=
 need (inR v2 i) <|
 Option.bind (self (x.1, (gx v2 i), s)) fun r1 =>
 some r1

/-- (*page.view).below -/
noncomputable def page_view_below_body (self : (Page_view × Int × (List Bool)) → Option (List Bool)) (x : (Page_view × Int × (List Bool))) : Option (List Bool) :=
 need (inR x.2.2 x.2.1) <|
 bnd (x.2.2.set x.2.1.toNat true) fun marks2 =>
 need (inR x.1.d.Nodes x.2.1) <|
 bnd (x.1.members.getD ((gx x.1.d.Nodes x.2.1).Id) ([] : (List Int))) fun v2 =>
 Option.bind (α := (List Bool)) (
  rfor (v2.length : Int) (page_view_below_L1 self x v2) marks2) fun j_5 =>
 some j_5

noncomputable def page_view_below (v1 : Page_view) (k1 : Int) (marks1 : (List Bool)) : Option (List Bool) := fixp page_view_below_body (v1, k1, marks1)

noncomputable def slices_IndexFunc_int_L1 (f1 : (Int → Option Bool)) (s1 : (List Int)) (i : Int) (s : Unit) : Option (Res Unit (Res Unit Int)) :=
 need (inR s1 i) <|
 Option.bind (f1 (gx s1 i)) fun r1 =>
 bif r1 then (
  some (Res.ab (Res.ab i)))
 else (
  some (Res.nx ()))

/-- slices.IndexFunc[[]int,int] -/
noncomputable def slices_IndexFunc_int (s1 : (List Int)) (f1 : (Int → Option Bool)) : Option Int :=
 bindR (σ := Unit) (ρ := Int) (
  rforE (s1.length : Int) (slices_IndexFunc_int_L1 f1 s1) (fun s => Res.nx s) ()) fun j_1 =>
 some (-1)

/-- slices.ContainsFunc[[]int,int] -/
noncomputable def slices_ContainsFunc_int (s1 : (List Int)) (f1 : (Int → Option Bool)) : Option Bool :=
 Option.bind (slices_IndexFunc_int s1 f1) fun r1 =>
 some (decide (0 ≤ r1))

/-- page.Delete$1 -/
noncomputable def page_Delete_1 (m1 : Int) (c0_1 : (List Bool)) : Option Bool :=
 need (inR c0_1 m1) <|
 some (!(gx c0_1 m1))

noncomputable def page_Delete_L1 (r1 : ((Option Page_view) × (List Int) × Int)) (v4 : Page_view) (i : Int) (s : (List Bool)) : Option (List Bool) :=
 need (inR r1.2.1 i) <|
 Option.bind (page_view_below v4 (gx r1.2.1 i) s) fun r2 =>
 some r2

noncomputable def page_Delete_L2 (d1 : Doc) (j_9 : (List Bool)) (i : Int) (s : Unit) : Option (Res Unit (Res Unit (Doc × Int))) :=
 need (inR d1.Nodes i) <|
 bnd (gx d1.Nodes i) fun v5 =>
 need (inR j_9 i) <|
 bif (gx j_9 i) && v5.Locked then (
  bnd ((⟨([] : (List DNode)), ([] : (List DEdge))⟩ : Doc)) fun v6 =>
  some (Res.ab (Res.ab (v6, 12))))
 else (
  some (Res.nx ()))

noncomputable def page_Delete_L4 (d1 : Doc) (v4 : Page_view) (i : Int) (s : (Bool × (List Bool))) : Option (Bool × (List Bool)) :=
 need (inR d1.Nodes i) <|
 bnd (gx d1.Nodes i) fun v7 =>
 Option.bind (slices_ContainsFunc_int (v4.members.getD v7.Id ([] : (List Int))) (fun x0 => page_Delete_1 x0 s.2)) fun left1 =>
 need (inR s.2 i) <|
 bif ((!(gx s.2 i)) && (decide (v7.Kind = 6))) && (!left1) then (
  need (inR s.2 i) <|
  some (true, s.2.set i.toNat true))
 else (
  some (s.1, s.2))

noncomputable def page_Delete_L3 (d1 : Doc) (v4 : Page_view) (s25_ : (Bool × (List Bool))) : Option (Step (Bool × (List Bool)) (List Bool)) :=
 bif s25_.1 then (
  Option.bind (α := (Bool × (List Bool))) (
   rfor (d1.Nodes.length : Int) (page_Delete_L4 d1 v4) (false, s25_.2)) fun j_27 =>
  some (Step.again (j_27.1, j_27.2)))
 else (
  some (Step.done s25_.2))

noncomputable def page_Delete_L5 (d1 : Doc) (j_24 : (List Bool)) (i : Int) (s : Doc) : Option Doc :=
 need (inR d1.Nodes i) <|
 bnd (gx d1.Nodes i) fun v8 =>
 need (inR j_24 i) <|
 bif !(gx j_24 i) then (
  need (room (s.Nodes.length + [v8].length)) <|
  some ({ s with Nodes := s.Nodes ++ [v8], Edges := s.Edges }))
 else (
  some ({ s with Nodes := s.Nodes, Edges := s.Edges }))

noncomputable def page_Delete_L6 (d1 : Doc) (v4 : Page_view) (j_24 : (List Bool)) (i : Int) (s : Doc) : Option Doc :=
 need (inR d1.Edges i) <|
 bnd (gx d1.Edges i) fun v9 =>
 need (inR j_24 (v4.number.getD v9.From.Node (0 : Int))) <|
 need ((!(gx j_24 (v4.number.getD v9.From.Node (0 : Int)))) = true → inR j_24 (v4.number.getD v9.To.Node (0 : Int))) <|
 bif (!(gx j_24 (v4.number.getD v9.From.Node (0 : Int)))) && (!(gx j_24 (v4.number.getD v9.To.Node (0 : Int)))) then (
  need (room (s.Edges.length + [v9].length)) <|
  some ({ s with Nodes := s.Nodes, Edges := s.Edges ++ [v9] }))
 else (
  some ({ s with Nodes := s.Nodes, Edges := s.Edges }))

/-- page.Delete -/
noncomputable def page_Delete (d1 : Doc) (ids1 : (List Str)) : Option (Doc × Int) :=
 bnd ((⟨([] : (List DNode)), ([] : (List DEdge))⟩ : Doc)) fun v1 =>
 Option.bind (page_selected d1 ids1) fun r1 =>
 bif !decide (r1.2.2 = 0) then (
  bnd ((⟨([] : (List DNode)), ([] : (List DEdge))⟩ : Doc)) fun v2 =>
  some (v2, r1.2.2))
 else (
  bnd ((d1.Nodes.length : Int)) fun v3 =>
  need (0 ≤ v3 ∧ v3 ≤ v3 ∧ v3 ≤ 1073741824) <|
  bnd (List.replicate v3.toNat false) fun c1 =>
  Option.bind r1.1 fun v4 =>
  Option.bind (α := (List Bool)) (
   rfor (r1.2.1.length : Int) (page_Delete_L1 r1 v4) c1) fun j_9 =>
  bindR (σ := Unit) (ρ := (Doc × Int)) (
   rforE (d1.Nodes.length : Int) (page_Delete_L2 d1 j_9) (fun s => Res.nx s) ()) fun j_15 =>
  Option.bind (α := (List Bool)) (
   loop (page_Delete_L3 d1 v4) (true, j_9)) fun j_24 =>
  Option.bind (α := Doc) (
   rfor (d1.Nodes.length : Int) (page_Delete_L5 d1 j_24) (⟨([] : List DNode), ([] : List DEdge)⟩ : Doc)) fun j_37 =>
  Option.bind (α := Doc) (
   rfor (d1.Edges.length : Int) (page_Delete_L6 d1 v4 j_24) ({ j_37 with Nodes := j_37.Nodes, Edges := j_37.Edges })) fun j_46 =>
  Option.bind (page_cloned ({ j_46 with Nodes := j_46.Nodes, Edges := j_46.Edges })) fun r3 =>
  some (r3, 0))

/-- page.far -/
noncomputable def page_far (n1 : Int) : Option Bool :=
 some ((decide (n1 < (-2000000))) || (decide (2000000 < n1)))

noncomputable def page_Copy_L1 (r1 : ((Option Page_view) × (List Int) × Int)) (v5 : Page_view) (i : Int) (s : (List Bool)) : Option (List Bool) :=
 need (inR r1.2.1 i) <|
 Option.bind (page_view_below v5 (gx r1.2.1 i) s) fun r4 =>
 some r4

noncomputable def page_Copy_L2 (d1 : Doc) (v5 : Page_view) (dx1 : Int) (dy1 : Int) (end1 : Str) (j_13 : (List Bool)) (i : Int) (s : Doc) : Option Doc :=
 need (inR d1.Nodes i) <|
 bnd (gx d1.Nodes i) fun v6 =>
 need (inR j_13 i) <|
 bif !(gx j_13 i) then (
  some ({ s with Nodes := s.Nodes, Edges := s.Edges }))
 else (
  need ((v6.Id.b.length : Int) + end1.b.length ≤ 9223372036854775807) <|
  bnd ((⟨v6.Id.b ++ end1.b⟩ : Str)) fun v7 =>
  bnd ({ v6 with Id := v7 }) fun n1 =>
  need (((!decide (n1.Parent = Str.nil)) && (v5.number.has n1.Parent)) = true → inR j_13 (v5.number.getD n1.Parent (0 : Int))) <|
  Option.bind (α := DNode) (
   bif ((!decide (n1.Parent = Str.nil)) && (v5.number.has n1.Parent)) && (gx j_13 (v5.number.getD n1.Parent (0 : Int))) then (
    need ((n1.Parent.b.length : Int) + end1.b.length ≤ 9223372036854775807) <|
    bnd ((⟨n1.Parent.b ++ end1.b⟩ : Str)) fun v8 =>
    some ({ n1 with Parent := v8 }))
   else (
    some n1)) fun j_32 =>
  Option.bind (α := DNode) (
   bif !decide (j_32.Kind = 6) then (
    bnd (W (j_32.Box.X + dx1)) fun v9 =>
    bnd (W (j_32.Box.Y + dy1)) fun v10 =>
    some ({ { j_32 with Box := { j_32.Box with X := v9 } } with Box := { ({ j_32 with Box := { j_32.Box with X := v9 } }).Box with Y := v10 } }))
   else (
    some j_32)) fun j_36 =>
  need (room (s.Nodes.length + [{ j_36 with Locked := false }].length)) <|
  some ({ s with Nodes := s.Nodes ++ [{ j_36 with Locked := false }], Edges := s.Edges }))

noncomputable def page_Copy_L4 (x1 : DEdge) (dx1 : Int) (dy1 : Int) (i : Int) (s : (List Point)) : Option (List Point) :=
 need (inR x1.Bends i) <|
 bnd (gx x1.Bends i) fun v15 =>
 need (room (s.length + [(⟨W (v15.X + dx1), W (v15.Y + dy1)⟩ : Point)].length)) <|
 some (s ++ [(⟨W (v15.X + dx1), W (v15.Y + dy1)⟩ : Point)])

noncomputable def page_Copy_L3 (d1 : Doc) (v5 : Page_view) (dx1 : Int) (dy1 : Int) (end1 : Str) (j_13 : (List Bool)) (i : Int) (s : Doc) : Option Doc :=
 need (inR d1.Edges i) <|
 bnd (gx d1.Edges i) fun v11 =>
 need (inR j_13 (v5.number.getD v11.From.Node (0 : Int))) <|
 need ((!(gx j_13 (v5.number.getD v11.From.Node (0 : Int)))) = false → inR j_13 (v5.number.getD v11.To.Node (0 : Int))) <|
 bif (!(gx j_13 (v5.number.getD v11.From.Node (0 : Int)))) || (!(gx j_13 (v5.number.getD v11.To.Node (0 : Int)))) then (
  some ({ s with Nodes := s.Nodes, Edges := s.Edges }))
 else (
  need ((v11.Id.b.length : Int) + end1.b.length ≤ 9223372036854775807) <|
  bnd ((⟨v11.Id.b ++ end1.b⟩ : Str)) fun v12 =>
  need ((v11.From.Node.b.length : Int) + end1.b.length ≤ 9223372036854775807) <|
  bnd ((⟨v11.From.Node.b ++ end1.b⟩ : Str)) fun v13 =>
  need ((v11.To.Node.b.length : Int) + end1.b.length ≤ 9223372036854775807) <|
  bnd ((⟨v11.To.Node.b ++ end1.b⟩ : Str)) fun v14 =>
  bnd ({ { { v11 with Id := v12 } with From := { ({ v11 with Id := v12 }).From with Node := v13 } } with To := { ({ { v11 with Id := v12 } with From := { ({ v11 with Id := v12 }).From with Node := v13 } }).To with Node := v14 } }) fun x1 =>
  Option.bind (α := (List Point)) (
   rfor (x1.Bends.length : Int) (page_Copy_L4 x1 dx1 dy1) ([] : List Point)) fun j_57 =>
  need (room (s.Edges.length + [{ x1 with Bends := j_57 }].length)) <|
  some ({ s with Nodes := s.Nodes, Edges := s.Edges ++ [{ x1 with Bends := j_57 }] }))

/-- page.Copy -/
noncomputable def page_Copy (d1 : Doc) (ids1 : (List Str)) (end1 : Str) (dx1 : Int) (dy1 : Int) : Option (Doc × Int) :=
 bnd ((⟨([] : (List DNode)), ([] : (List DEdge))⟩ : Doc)) fun v1 =>
 Option.bind (page_selected d1 ids1) fun r1 =>
 bif !decide (r1.2.2 = 0) then (
  bnd ((⟨([] : (List DNode)), ([] : (List DEdge))⟩ : Doc)) fun v2 =>
  some (v2, r1.2.2))
 else (
  Option.bind (page_far dx1) fun r2 =>
  Option.bind (gd (!r2) (page_far dy1)) fun r3 =>
  bif r2 || r3 then (
   bnd ((⟨([] : (List DNode)), ([] : (List DEdge))⟩ : Doc)) fun v3 =>
   some (v3, 3))
  else (
   bnd ((d1.Nodes.length : Int)) fun v4 =>
   need (0 ≤ v4 ∧ v4 ≤ v4 ∧ v4 ≤ 1073741824) <|
   bnd (List.replicate v4.toNat false) fun marks1 =>
   Option.bind r1.1 fun v5 =>
   Option.bind (α := (List Bool)) (
    rfor (r1.2.1.length : Int) (page_Copy_L1 r1 v5) marks1) fun j_13 =>
   Option.bind (page_cloned d1) fun r5 =>
   Option.bind (α := Doc) (
    rfor (d1.Nodes.length : Int) (page_Copy_L2 d1 v5 dx1 dy1 end1 j_13) ({ r5 with Nodes := r5.Nodes, Edges := r5.Edges })) fun j_20 =>
   Option.bind (α := Doc) (
    rfor (d1.Edges.length : Int) (page_Copy_L3 d1 v5 dx1 dy1 end1 j_13) ({ j_20 with Nodes := j_20.Nodes, Edges := j_20.Edges })) fun j_41 =>
   Option.bind (page_Check ({ j_41 with Nodes := j_41.Nodes, Edges := j_41.Edges })) fun e1 =>
   bif !decide (e1 = 0) then (
    bnd ((⟨([] : (List DNode)), ([] : (List DEdge))⟩ : Doc)) fun v16 =>
    some (v16, e1))
   else (
    bnd ({ j_41 with Nodes := j_41.Nodes, Edges := j_41.Edges }) fun v17 =>
    some (v17, 0))))

/-- drawlaw1.pages -/
noncomputable def law_pages  : Option Bool :=
 Option.bind (page_Check (⟨([] : (List DNode)), ([] : (List DEdge))⟩ : Doc)) fun r1 =>
 Option.bind (gd ((decide (r1 = 0))) (page_Check (⟨[(⟨Str.nil, (0 : Int), (⟨(0 : Int), (0 : Int), (0 : Int), (0 : Int)⟩ : Box), Str.nil, Str.nil, Str.nil, false⟩ : DNode)], ([] : (List DEdge))⟩ : Doc))) fun r2 =>
 some ((decide (r1 = 0)) && (decide (r2 = 5)))

noncomputable def slices_Equal_Node_L1 (s1_1 : (List DNode)) (s2_1 : (List DNode)) (i : Int) (s : Unit) : Option (Res Unit (Res Unit Bool)) :=
 need (inR s1_1 i) <|
 need (inR s2_1 i) <|
 bif !decide ((gx s1_1 i) = (gx s2_1 i)) then (
  some (Res.ab (Res.ab false)))
 else (
  some (Res.nx ()))

/-- slices.Equal[[]api.Node,api.Node] -/
noncomputable def slices_Equal_Node (s1_1 : (List DNode)) (s2_1 : (List DNode)) : Option Bool :=
 bif !decide ((s1_1.length : Int) = (s2_1.length : Int)) then (
  some false)
 else (
  bindR (σ := Unit) (ρ := Bool) (
   rforE (s1_1.length : Int) (slices_Equal_Node_L1 s1_1 s2_1) (fun s => Res.nx s) ()) fun j_2 =>
  some true)

noncomputable def slices_EqualFunc_Edge_L1 (eq1 : (DEdge → DEdge → Option Bool)) (s1_1 : (List DEdge)) (s2_1 : (List DEdge)) (i : Int) (s : Unit) : Option (Res Unit (Res Unit Bool)) :=
 need (inR s1_1 i) <|
 bnd (gx s1_1 i) fun v1 =>
 need (inR s2_1 i) <|
 bnd (gx s2_1 i) fun v2 =>
 Option.bind (eq1 v1 v2) fun r1 =>
 bif !r1 then (
  some (Res.ab (Res.ab false)))
 else (
  some (Res.nx ()))

/-- slices.EqualFunc[[]api.Edge,[]api.Edge,api.Edge,api.Edge] -/
noncomputable def slices_EqualFunc_Edge (s1_1 : (List DEdge)) (s2_1 : (List DEdge)) (eq1 : (DEdge → DEdge → Option Bool)) : Option Bool :=
 bif !decide ((s1_1.length : Int) = (s2_1.length : Int)) then (
  some false)
 else (
  bindR (σ := Unit) (ρ := Bool) (
   rforE (s1_1.length : Int) (slices_EqualFunc_Edge_L1 eq1 s1_1 s2_1) (fun s => Res.nx s) ()) fun j_2 =>
  some true)

noncomputable def slices_Equal_Point_L1 (s1_1 : (List Point)) (s2_1 : (List Point)) (i : Int) (s : Unit) : Option (Res Unit (Res Unit Bool)) :=
 need (inR s1_1 i) <|
 need (inR s2_1 i) <|
 bif !decide ((gx s1_1 i) = (gx s2_1 i)) then (
  some (Res.ab (Res.ab false)))
 else (
  some (Res.nx ()))

/-- slices.Equal[[]api.Point,api.Point] -/
noncomputable def slices_Equal_Point (s1_1 : (List Point)) (s2_1 : (List Point)) : Option Bool :=
 bif !decide ((s1_1.length : Int) = (s2_1.length : Int)) then (
  some false)
 else (
  bindR (σ := Unit) (ρ := Bool) (
   rforE (s1_1.length : Int) (slices_Equal_Point_L1 s1_1 s2_1) (fun s => Res.nx s) ()) fun j_2 =>
  some true)

/-- drawref1.SameDoc$1 -/
noncomputable def ref_SameDoc_1 (x1 : DEdge) (y1 : DEdge) : Option Bool :=
 Option.bind (gd ((((decide (x1.Id = y1.Id)) && (decide (x1.From = y1.From))) && (decide (x1.To = y1.To)))) (slices_Equal_Point x1.Bends y1.Bends)) fun r1 =>
 some ((((((decide (x1.Id = y1.Id)) && (decide (x1.From = y1.From))) && (decide (x1.To = y1.To))) && r1) && (decide (x1.Text = y1.Text))) && (decide (x1.Class = y1.Class)))

/-- drawref1.SameDoc -/
noncomputable def ref_SameDoc (a1 : Doc) (b1 : Doc) : Option Bool :=
 Option.bind (slices_Equal_Node a1.Nodes b1.Nodes) fun r1 =>
 Option.bind (gd (r1) (slices_EqualFunc_Edge a1.Edges b1.Edges ref_SameDoc_1)) fun r2 =>
 some (r1 && r2)

/-- drawlaw1.docIs -/
noncomputable def law_docIs (d1 : Doc) (e1 : Int) (want1 : Int) (right1 : Doc) : Option Bool :=
 bif !decide (want1 = 0) then (
  some (((decide ((d1.Nodes.length : Int) = 0)) && (decide ((d1.Edges.length : Int) = 0))) && (decide (e1 = want1))))
 else (
  Option.bind (gd ((decide (e1 = 0))) (ref_SameDoc d1 right1)) fun r1 =>
  some ((decide (e1 = 0)) && r1))

noncomputable def ref_IsBelow_L1 (d1 : Doc) (group1 : Str) (s5_ : Str) : Option (Step Str (Res Unit Bool)) :=
 bif !decide (s5_ = Str.nil) then (
  bif decide (s5_ = group1) then (
   some (Step.done (Res.ab true)))
  else (
   Option.bind (ref_NodeAt d1 s5_) fun r2 =>
   need (inR d1.Nodes r2) <|
   bnd ((gx d1.Nodes r2).Parent) fun p2 =>
   some (Step.again p2)))
 else (
  some (Step.done (Res.nx ())))

/-- drawref1.IsBelow -/
noncomputable def ref_IsBelow (d1 : Doc) (id1 : Str) (group1 : Str) : Option Bool :=
 Option.bind (ref_NodeAt d1 id1) fun r1 =>
 need (inR d1.Nodes r1) <|
 bnd ((gx d1.Nodes r1).Parent) fun p1 =>
 bindR (σ := Unit) (ρ := Bool) (
  loop (ref_IsBelow_L1 d1 group1) p1) fun j_4 =>
 some false

/-- drawref1.RootsOf$1 -/
noncomputable def ref_RootsOf_1 (g1 : Str) (c0_1 : Doc) (c1_1 : DNode) : Option Bool :=
 Option.bind (ref_IsBelow c0_1 c1_1.Id g1) fun r1 =>
 some r1

noncomputable def slices_IndexFunc_string_L1 (f1 : (Str → Option Bool)) (s1 : (List Str)) (i : Int) (s : Unit) : Option (Res Unit (Res Unit Int)) :=
 need (inR s1 i) <|
 Option.bind (f1 (gx s1 i)) fun r1 =>
 bif r1 then (
  some (Res.ab (Res.ab i)))
 else (
  some (Res.nx ()))

/-- slices.IndexFunc[[]string,string] -/
noncomputable def slices_IndexFunc_string (s1 : (List Str)) (f1 : (Str → Option Bool)) : Option Int :=
 bindR (σ := Unit) (ρ := Int) (
  rforE (s1.length : Int) (slices_IndexFunc_string_L1 f1 s1) (fun s => Res.nx s) ()) fun j_1 =>
 some (-1)

/-- slices.ContainsFunc[[]string,string] -/
noncomputable def slices_ContainsFunc_string (s1 : (List Str)) (f1 : (Str → Option Bool)) : Option Bool :=
 Option.bind (slices_IndexFunc_string s1 f1) fun r1 =>
 some (decide (0 ≤ r1))

noncomputable def ref_RootsOf_L1 (d1 : Doc) (ids1 : (List Str)) (i : Int) (s : (List Str)) : Option (List Str) :=
 need (inR d1.Nodes i) <|
 bnd (gx d1.Nodes i) fun v1 =>
 Option.bind (slices_Contains_string ids1 v1.Id) fun r1 =>
 Option.bind (gd (r1) (slices_ContainsFunc_string ids1 (fun x0 => ref_RootsOf_1 x0 d1 v1))) fun r2 =>
 bif r1 && (!r2) then (
  need (room (s.length + [v1.Id].length)) <|
  some (s ++ [v1.Id]))
 else (
  some s)

/-- drawref1.RootsOf -/
noncomputable def ref_RootsOf (d1 : Doc) (ids1 : (List Str)) : Option (List Str) :=
 Option.bind (α := (List Str)) (
  rfor (d1.Nodes.length : Int) (ref_RootsOf_L1 d1 ids1) ([] : List Str)) fun j_1 =>
 some j_1

/-- drawref1.GroupOf$1 -/
noncomputable def ref_GroupOf_1 (r1 : Str) (c0_1 : Doc) (c1_1 : Str) : Option Bool :=
 Option.bind (ref_NodeAt c0_1 r1) fun r2 =>
 need (inR c0_1.Nodes r2) <|
 some (!decide (((gx c0_1.Nodes r2).Parent) = c1_1))

/-- drawref1.EdgeAt$1 -/
noncomputable def ref_EdgeAt_1 (x1 : DEdge) (c0_1 : Str) : Option Bool :=
 some (decide (x1.Id = c0_1))

/-- drawref1.EdgeAt -/
noncomputable def ref_EdgeAt (d1 : Doc) (id1 : Str) : Option Int :=
 Option.bind (slices_IndexFunc_Edge d1.Edges (fun x0 => ref_EdgeAt_1 x0 id1)) fun r1 =>
 some r1

noncomputable def ref_Copied_L1  (i : Int) (s : (List DEdge)) : Option (List DEdge) :=
 need (inR s i) <|
 Option.bind (slices_Clone_Point ((gx s i).Bends)) fun r3 =>
 need (inR s i) <|
 some (s.set i.toNat { gx s i with Bends := r3 })

/-- drawref1.Copied -/
noncomputable def ref_Copied (d1 : Doc) : Option Doc :=
 bnd ((⟨([] : (List DNode)), ([] : (List DEdge))⟩ : Doc)) fun v1 =>
 Option.bind (slices_Clone_Node d1.Nodes) fun r1 =>
 Option.bind (slices_Clone_Edge d1.Edges) fun r2 =>
 Option.bind (α := (List DEdge)) (
  rfor (r2.length : Int) ref_Copied_L1 r2) fun j_4 =>
 some (⟨r1, j_4⟩ : Doc)

noncomputable def ref_GroupOf_L1 (d1 : Doc) (id1 : Str) (roots1 : (List Str)) (i : Int) (s : (List DNode)) : Option (List DNode) :=
 need (inR roots1 i) <|
 Option.bind (ref_NodeAt d1 (gx roots1 i)) fun r9 =>
 need (inR s r9) <|
 some (s.set r9.toNat { gx s r9 with Parent := id1 })

/-- drawref1.GroupOf -/
noncomputable def ref_GroupOf (d1 : Doc) (ids1 : (List Str)) (id1 : Str) : Option (Doc × Int) :=
 bnd ((⟨([] : (List DNode)), ([] : (List DEdge))⟩ : Doc)) fun v1 =>
 Option.bind (ref_RootsOf d1 ids1) fun roots1 =>
 bif decide ((roots1.length : Int) = 0) then (
  bnd ((⟨([] : (List DNode)), ([] : (List DEdge))⟩ : Doc)) fun v2 =>
  some (v2, 9))
 else (
  need (inR roots1 0) <|
  Option.bind (ref_NodeAt d1 (gx roots1 0)) fun r1 =>
  need (inR d1.Nodes r1) <|
  bnd ((gx d1.Nodes r1).Parent) fun v3 =>
  Option.bind (slices_ContainsFunc_string roots1 (fun x0 => ref_GroupOf_1 x0 d1 v3)) fun other1 =>
  Option.bind (ref_When other1 11) fun r2 =>
  Option.bind (ref_NameOf id1) fun r3 =>
  Option.bind (ref_When (!r3) 5) fun r4 =>
  Option.bind (ref_NodeAt d1 id1) fun r5 =>
  Option.bind (gd (!(decide (0 ≤ r5))) (ref_EdgeAt d1 id1)) fun r6 =>
  Option.bind (ref_When ((decide (0 ≤ r5)) || (decide (0 ≤ r6))) 6) fun r7 =>
  Option.bind (ref_First [r2, r4, r7]) fun e1 =>
  bif !decide (e1 = 0) then (
   bnd ((⟨([] : (List DNode)), ([] : (List DEdge))⟩ : Doc)) fun v4 =>
   some (v4, e1))
  else (
   Option.bind (ref_Copied d1) fun r8 =>
   Option.bind (α := (List DNode)) (
    rfor (roots1.length : Int) (ref_GroupOf_L1 d1 id1 roots1) r8.Nodes) fun j_20 =>
   need (inR roots1 (W ((roots1.length : Int) - 1))) <|
   Option.bind (ref_NodeAt d1 (gx roots1 (W ((roots1.length : Int) - 1)))) fun r10 =>
   Option.bind (slices_Insert_Node j_20 (W (r10 + 1)) [(⟨id1, 6, (⟨(0 : Int), (0 : Int), (0 : Int), (0 : Int)⟩ : Box), Str.nil, Str.nil, v3, false⟩ : DNode)]) fun r11 =>
   Option.bind (ref_DocError ({ r8 with Nodes := r11, Edges := r8.Edges })) fun e2 =>
   bif !decide (e2 = 0) then (
    bnd ((⟨([] : (List DNode)), ([] : (List DEdge))⟩ : Doc)) fun v5 =>
    some (v5, e2))
   else (
    bnd ({ r8 with Nodes := r11, Edges := r8.Edges }) fun v6 =>
    some (v6, 0))))

/-- drawref1.Touched$1 -/
noncomputable def ref_Touched_1 (g1 : Str) (c0_1 : DNode) (c1_1 : Doc) : Option Bool :=
 Option.bind (gd (!(decide (c0_1.Id = g1))) (ref_IsBelow c1_1 c0_1.Id g1)) fun r1 =>
 some ((decide (c0_1.Id = g1)) || r1)

noncomputable def ref_Touched_L1 (d1 : Doc) (ids1 : (List Str)) (i : Int) (s : (GMap Str Bool)) : Option (GMap Str Bool) :=
 need (inR d1.Nodes i) <|
 bnd (gx d1.Nodes i) fun v1 =>
 Option.bind (slices_ContainsFunc_string ids1 (fun x0 => ref_Touched_1 x0 v1 d1)) fun r1 =>
 some (s.set v1.Id r1)

/-- drawref1.Touched -/
noncomputable def ref_Touched (d1 : Doc) (ids1 : (List Str)) : Option (GMap Str Bool) :=
 bnd ((GMap.nil : (GMap Str Bool))) fun m1 =>
 Option.bind (α := (GMap Str Bool)) (
  rfor (d1.Nodes.length : Int) (ref_Touched_L1 d1 ids1) m1) fun j_2 =>
 some j_2

noncomputable def slices_DeleteFunc_Node_L1 (del1 : (DNode → Option Bool)) (s5_ : (Int × Int × (List DNode))) : Option (Step (Int × Int × (List DNode)) (Int × (List DNode))) :=
 bif decide (s5_.2.1 < (s5_.2.2.length : Int)) then (
  Option.bind (α := (Int × (List DNode))) (
   need (inR s5_.2.2 s5_.2.1) <|
   bnd (gx s5_.2.2 s5_.2.1) fun v1 =>
   Option.bind (del1 v1) fun r1 =>
   bif !r1 then (
    need (inR s5_.2.2 s5_.1) <|
    bnd (s5_.2.2.set s5_.1.toNat v1) fun s2 =>
    bnd (W (s5_.1 + 1)) fun i2 =>
    some (i2, s2))
   else (
    some (s5_.1, s5_.2.2))) fun j_7 =>
  bnd (W (s5_.2.1 + 1)) fun j2 =>
  some (Step.again (j_7.1, j2, j_7.2)))
 else (
  some (Step.done (s5_.1, s5_.2.2)))

/-- slices.DeleteFunc[[]api.Node,api.Node] -/
noncomputable def slices_DeleteFunc_Node (s1 : (List DNode)) (del1 : (DNode → Option Bool)) : Option (List DNode) :=
 Option.bind (slices_IndexFunc_Node s1 del1) fun i1 =>
 bif decide (i1 = (-1)) then (
  some s1)
 else (
  bnd (W (i1 + 1)) fun j1 =>
  Option.bind (α := (Int × (List DNode))) (
   loop (slices_DeleteFunc_Node_L1 del1) (i1, j1, s1)) fun j_4 =>
  need (segR j_4.2.length j_4.1 (j_4.2.length : Int)) <|
  bnd (j_4.2.take j_4.1.toNat ++ List.replicate (j_4.2.length - j_4.1.toNat) (⟨Str.nil, (0 : Int), (⟨(0 : Int), (0 : Int), (0 : Int), (0 : Int)⟩ : Box), Str.nil, Str.nil, Str.nil, false⟩ : DNode)) fun s3 =>
  need (segR s3.length 0 j_4.1) <|
  bnd (seg s3 0 j_4.1) fun v2 =>
  some v2)

/-- drawref1.DeleteOf$1 -/
noncomputable def ref_DeleteOf_1 (n1 : DNode) (c0_1 : (GMap Str Bool)) : Option Bool :=
 some (c0_1.getD n1.Id false)

/-- drawref1.DeleteOf$2 -/
noncomputable def ref_DeleteOf_2 (n1 : DNode) (c0_1 : (GMap Str Bool)) : Option Bool :=
 some (c0_1.getD n1.Id false)

/-- drawref1.DeleteOf$3 -/
noncomputable def ref_DeleteOf_3 (x1 : DEdge) (c0_1 : (GMap Str Bool)) : Option Bool :=
 some ((c0_1.getD x1.From.Node false) || (c0_1.getD x1.To.Node false))

noncomputable def slices_DeleteFunc_Edge_L1 (del1 : (DEdge → Option Bool)) (s5_ : (Int × Int × (List DEdge))) : Option (Step (Int × Int × (List DEdge)) (Int × (List DEdge))) :=
 bif decide (s5_.2.1 < (s5_.2.2.length : Int)) then (
  Option.bind (α := (Int × (List DEdge))) (
   need (inR s5_.2.2 s5_.2.1) <|
   bnd (gx s5_.2.2 s5_.2.1) fun v1 =>
   Option.bind (del1 v1) fun r1 =>
   bif !r1 then (
    need (inR s5_.2.2 s5_.1) <|
    bnd (s5_.2.2.set s5_.1.toNat v1) fun s2 =>
    bnd (W (s5_.1 + 1)) fun i2 =>
    some (i2, s2))
   else (
    some (s5_.1, s5_.2.2))) fun j_7 =>
  bnd (W (s5_.2.1 + 1)) fun j2 =>
  some (Step.again (j_7.1, j2, j_7.2)))
 else (
  some (Step.done (s5_.1, s5_.2.2)))

/-- slices.DeleteFunc[[]api.Edge,api.Edge] -/
noncomputable def slices_DeleteFunc_Edge (s1 : (List DEdge)) (del1 : (DEdge → Option Bool)) : Option (List DEdge) :=
 Option.bind (slices_IndexFunc_Edge s1 del1) fun i1 =>
 bif decide (i1 = (-1)) then (
  some s1)
 else (
  bnd (W (i1 + 1)) fun j1 =>
  Option.bind (α := (Int × (List DEdge))) (
   loop (slices_DeleteFunc_Edge_L1 del1) (i1, j1, s1)) fun j_4 =>
  need (segR j_4.2.length j_4.1 (j_4.2.length : Int)) <|
  bnd (j_4.2.take j_4.1.toNat ++ List.replicate (j_4.2.length - j_4.1.toNat) (⟨Str.nil, (⟨Str.nil, (0 : Int), (0 : Int)⟩ : DEnd), (⟨Str.nil, (0 : Int), (0 : Int)⟩ : DEnd), ([] : (List Point)), Str.nil, Str.nil⟩ : DEdge)) fun s3 =>
  need (segR s3.length 0 j_4.1) <|
  bnd (seg s3 0 j_4.1) fun v2 =>
  some v2)

noncomputable def ref_DeleteOf_L1 (d1 : Doc) (r1 : (GMap Str Bool)) (i : Int) (s : Unit) : Option (Res Unit (Res Unit (Doc × Int))) :=
 need (inR d1.Nodes i) <|
 bnd (gx d1.Nodes i) fun v2 =>
 bif (r1.getD v2.Id false) && v2.Locked then (
  bnd ((⟨([] : (List DNode)), ([] : (List DEdge))⟩ : Doc)) fun v3 =>
  some (Res.ab (Res.ab (v3, 12))))
 else (
  some (Res.nx ()))

noncomputable def ref_DeleteOf_L3 (r3 : (List DNode)) (s13_ : (Bool × Doc × (GMap Str Bool))) (i : Int) (s : (GMap Str Bool)) : Option (GMap Str Bool) :=
 need (inR r3 i) <|
 bnd (gx r3 i) fun v4 =>
 Option.bind (gd ((decide (v4.Kind = 6))) (ref_members ({ s13_.2.1 with Nodes := r3, Edges := s13_.2.1.Edges }) v4.Id)) fun r4 =>
 bif (decide (v4.Kind = 6)) && (decide ((r4.length : Int) = 0)) then (
  some (s.set v4.Id true))
 else (
  some s)

noncomputable def ref_DeleteOf_L2  (s13_ : (Bool × Doc × (GMap Str Bool))) : Option (Step (Bool × Doc × (GMap Str Bool)) (Doc × (GMap Str Bool))) :=
 bif s13_.1 then (
  Option.bind (slices_DeleteFunc_Node s13_.2.1.Nodes (fun x0 => ref_DeleteOf_1 x0 s13_.2.2)) fun r3 =>
  Option.bind (α := (GMap Str Bool)) (
   rfor (r3.length : Int) (ref_DeleteOf_L3 r3 s13_) s13_.2.2) fun j_16 =>
  Option.bind (gd (!(!decide ((s13_.2.1.Nodes.length : Int) = (r3.length : Int)))) (slices_ContainsFunc_Node r3 (fun x0 => ref_DeleteOf_2 x0 j_16))) fun r5 =>
  some (Step.again ((!decide ((s13_.2.1.Nodes.length : Int) = (r3.length : Int))) || r5, { s13_.2.1 with Nodes := r3, Edges := s13_.2.1.Edges }, j_16)))
 else (
  some (Step.done ({ s13_.2.1 with Nodes := s13_.2.1.Nodes, Edges := s13_.2.1.Edges }, s13_.2.2)))

/-- drawref1.DeleteOf -/
noncomputable def ref_DeleteOf (d1 : Doc) (ids1 : (List Str)) : Option (Doc × Int) :=
 bnd ((⟨([] : (List DNode)), ([] : (List DEdge))⟩ : Doc)) fun v1 =>
 Option.bind (ref_Touched d1 ids1) fun r1 =>
 bindR (σ := Unit) (ρ := (Doc × Int)) (
  rforE (d1.Nodes.length : Int) (ref_DeleteOf_L1 d1 r1) (fun s => Res.nx s) ()) fun j_3 =>
 Option.bind (ref_Copied d1) fun r2 =>
 Option.bind (α := (Doc × (GMap Str Bool))) (
  loop ref_DeleteOf_L2 (true, { r2 with Nodes := r2.Nodes, Edges := r2.Edges }, r1)) fun j_12 =>
 Option.bind (slices_DeleteFunc_Edge j_12.1.Edges (fun x0 => ref_DeleteOf_3 x0 j_12.2)) fun r6 =>
 bnd ({ j_12.1 with Nodes := j_12.1.Nodes, Edges := r6 }) fun v5 =>
 some (v5, 0)

/-- drawref1.StepError -/
noncomputable def ref_StepError (dx1 : Int) (dy1 : Int) : Option Int :=
 Option.bind (ref_In dx1 (-2000000) 2000000) fun r1 =>
 Option.bind (gd (!(!r1)) (ref_In dy1 (-2000000) 2000000)) fun r2 =>
 Option.bind (ref_When ((!r1) || (!r2)) 3) fun r3 =>
 some r3

noncomputable def ref_shifted_L1 (l1 : (List Point)) (dx1 : Int) (dy1 : Int) (i : Int) (s : (List Point)) : Option (List Point) :=
 need (inR l1 i) <|
 bnd (gx l1 i) fun v1 =>
 need (room (s.length + [(⟨W (v1.X + dx1), W (v1.Y + dy1)⟩ : Point)].length)) <|
 some (s ++ [(⟨W (v1.X + dx1), W (v1.Y + dy1)⟩ : Point)])

/-- drawref1.shifted -/
noncomputable def ref_shifted (l1 : (List Point)) (dx1 : Int) (dy1 : Int) : Option (List Point) :=
 Option.bind (α := (List Point)) (
  rfor (l1.length : Int) (ref_shifted_L1 l1 dx1 dy1) ([] : List Point)) fun j_1 =>
 some j_1

noncomputable def ref_CopyOf_L1 (d1 : Doc) (dx1 : Int) (dy1 : Int) (in1 : (GMap Str Bool)) (end1 : Str) (i : Int) (s : Doc) : Option Doc :=
 need (inR d1.Nodes i) <|
 bnd (gx d1.Nodes i) fun v3 =>
 bif !(in1.getD v3.Id false) then (
  some ({ s with Nodes := s.Nodes, Edges := s.Edges }))
 else (
  need ((v3.Id.b.length : Int) + end1.b.length ≤ 9223372036854775807) <|
  bnd ((⟨v3.Id.b ++ end1.b⟩ : Str)) fun v4 =>
  bnd ({ v3 with Id := v4 }) fun n1 =>
  Option.bind (α := DNode) (
   bif in1.getD n1.Parent false then (
    need ((n1.Parent.b.length : Int) + end1.b.length ≤ 9223372036854775807) <|
    bnd ((⟨n1.Parent.b ++ end1.b⟩ : Str)) fun v5 =>
    some ({ n1 with Parent := v5 }))
   else (
    some n1)) fun j_17 =>
  bnd ({ j_17 with Locked := false }) fun n2 =>
  Option.bind (α := DNode) (
   bif !decide (n2.Kind = 6) then (
    bnd (W (n2.Box.X + dx1)) fun v6 =>
    bnd ({ n2 with Box := { n2.Box with X := v6 } }) fun n3 =>
    bnd (W (n3.Box.Y + dy1)) fun v7 =>
    some ({ n3 with Box := { n3.Box with Y := v7 } }))
   else (
    some n2)) fun j_22 =>
  need (room (s.Nodes.length + [j_22].length)) <|
  some ({ s with Nodes := s.Nodes ++ [j_22], Edges := s.Edges }))

noncomputable def ref_CopyOf_L2 (d1 : Doc) (dx1 : Int) (dy1 : Int) (in1 : (GMap Str Bool)) (end1 : Str) (i : Int) (s : Doc) : Option Doc :=
 need (inR d1.Edges i) <|
 bnd (gx d1.Edges i) fun v8 =>
 bif (in1.getD v8.From.Node false) && (in1.getD v8.To.Node false) then (
  need ((v8.Id.b.length : Int) + end1.b.length ≤ 9223372036854775807) <|
  bnd ((⟨v8.Id.b ++ end1.b⟩ : Str)) fun v9 =>
  bnd ({ v8 with Id := v9 }) fun x1 =>
  need ((x1.From.Node.b.length : Int) + end1.b.length ≤ 9223372036854775807) <|
  bnd ((⟨x1.From.Node.b ++ end1.b⟩ : Str)) fun v10 =>
  bnd ({ x1 with From := { x1.From with Node := v10 } }) fun x2 =>
  need ((x2.To.Node.b.length : Int) + end1.b.length ≤ 9223372036854775807) <|
  bnd ((⟨x2.To.Node.b ++ end1.b⟩ : Str)) fun v11 =>
  bnd ({ x2 with To := { x2.To with Node := v11 } }) fun x3 =>
  Option.bind (ref_shifted x3.Bends dx1 dy1) fun r2 =>
  need (room (s.Edges.length + [{ x3 with Bends := r2 }].length)) <|
  some ({ s with Nodes := s.Nodes, Edges := s.Edges ++ [{ x3 with Bends := r2 }] }))
 else (
  some ({ s with Nodes := s.Nodes, Edges := s.Edges }))

/-- drawref1.CopyOf -/
noncomputable def ref_CopyOf (d1 : Doc) (ids1 : (List Str)) (end1 : Str) (dx1 : Int) (dy1 : Int) : Option (Doc × Int) :=
 bnd ((⟨([] : (List DNode)), ([] : (List DEdge))⟩ : Doc)) fun v1 =>
 Option.bind (ref_StepError dx1 dy1) fun e1 =>
 bif !decide (e1 = 0) then (
  bnd ((⟨([] : (List DNode)), ([] : (List DEdge))⟩ : Doc)) fun v2 =>
  some (v2, e1))
 else (
  Option.bind (ref_Touched d1 ids1) fun in1 =>
  Option.bind (ref_Copied d1) fun r1 =>
  Option.bind (α := Doc) (
   rfor (d1.Nodes.length : Int) (ref_CopyOf_L1 d1 dx1 dy1 in1 end1) ({ r1 with Nodes := r1.Nodes, Edges := r1.Edges })) fun j_7 =>
  Option.bind (α := Doc) (
   rfor (d1.Edges.length : Int) (ref_CopyOf_L2 d1 dx1 dy1 in1 end1) ({ j_7 with Nodes := j_7.Nodes, Edges := j_7.Edges })) fun j_28 =>
  Option.bind (ref_DocError ({ j_28 with Nodes := j_28.Nodes, Edges := j_28.Edges })) fun e2 =>
  bif !decide (e2 = 0) then (
   bnd ((⟨([] : (List DNode)), ([] : (List DEdge))⟩ : Doc)) fun v12 =>
   some (v12, e2))
  else (
   bnd ({ j_28 with Nodes := j_28.Nodes, Edges := j_28.Edges }) fun v13 =>
   some (v13, 0)))

noncomputable def ref_FrontOf_L1 (d1 : Doc) (roots1 : (List Str)) (i : Int) (s : ((List DNode) × (List DNode))) : Option ((List DNode) × (List DNode)) :=
 need (inR d1.Nodes i) <|
 bnd (gx d1.Nodes i) fun v2 =>
 Option.bind (slices_Contains_string roots1 v2.Id) fun r2 =>
 bif r2 then (
  need (room (s.1.length + [v2].length)) <|
  some (s.1 ++ [v2], s.2))
 else (
  need (room (s.2.length + [v2].length)) <|
  some (s.1, s.2 ++ [v2]))

/-- drawref1.FrontOf -/
noncomputable def ref_FrontOf (d1 : Doc) (ids1 : (List Str)) (back1 : Bool) : Option Doc :=
 bnd ((⟨([] : (List DNode)), ([] : (List DEdge))⟩ : Doc)) fun v1 =>
 Option.bind (ref_Copied d1) fun r1 =>
 Option.bind (ref_RootsOf d1 ids1) fun roots1 =>
 Option.bind (α := ((List DNode) × (List DNode))) (
  rfor (d1.Nodes.length : Int) (ref_FrontOf_L1 d1 roots1) (([] : List DNode), ([] : List DNode))) fun j_4 =>
 need (room (j_4.2.length + j_4.1.length)) <|
 bnd (j_4.2 ++ j_4.1) fun v3 =>
 bnd ({ r1 with Nodes := v3 }) fun out1 =>
 Option.bind (α := Doc) (
  bif back1 then (
   need (room (j_4.1.length + j_4.2.length)) <|
   bnd (j_4.1 ++ j_4.2) fun v4 =>
   some ({ out1 with Nodes := v4 }))
  else (
   some out1)) fun j_17 =>
 some j_17

/-- drawlaw1.ChangesMatch -/
noncomputable def law_ChangesMatch (d1 : Doc) (ids1 : (List Str)) (id1 : Str) (back1 : Bool) (end1 : Str) (dx1 : Int) (dy1 : Int) : Option Bool :=
 Option.bind (law_selected d1 ids1) fun own1 =>
 Option.bind (page_Front d1 ids1 back1) fun r1 =>
 Option.bind (page_Group d1 ids1 id1) fun r2 =>
 Option.bind (page_Delete d1 ids1) fun r3 =>
 Option.bind (page_Copy d1 ids1 end1 dx1 dy1) fun r4 =>
 Option.bind (law_pages) fun r5 =>
 bif (!r5) || (!decide (own1 = 0)) then (
  Option.bind (law_pages) fun r6 =>
  Option.bind (gd (r6) (law_docIs r1.1 r1.2 own1 d1)) fun r7 =>
  Option.bind (gd ((r6 && r7)) (law_docIs r2.1 r2.2 own1 d1)) fun r8 =>
  Option.bind (gd (((r6 && r7) && r8)) (law_docIs r3.1 r3.2 own1 d1)) fun r9 =>
  Option.bind (gd ((((r6 && r7) && r8) && r9)) (law_docIs r4.1 r4.2 own1 d1)) fun r10 =>
  some ((((r6 && r7) && r8) && r9) && r10))
 else (
  Option.bind (ref_GroupOf d1 ids1 id1) fun r11 =>
  Option.bind (ref_DeleteOf d1 ids1) fun r12 =>
  Option.bind (ref_CopyOf d1 ids1 end1 dx1 dy1) fun r13 =>
  Option.bind (ref_FrontOf d1 ids1 back1) fun r14 =>
  Option.bind (law_docIs r1.1 r1.2 0 r14) fun r15 =>
  Option.bind (gd (r15) (law_docIs r2.1 r2.2 r11.2 r11.1)) fun r16 =>
  Option.bind (gd ((r15 && r16)) (law_docIs r3.1 r3.2 r12.2 r12.1)) fun r17 =>
  Option.bind (gd (((r15 && r16) && r17)) (law_docIs r4.1 r4.2 r13.2 r13.1)) fun r18 =>
  some (((r15 && r16) && r17) && r18))


end Go.DB
