/-
  What the functions compute, as plain functions (printed by a program of one's own).
-/
import Derived.Test.YtclcheggnlhamaaGreatDoorMGBTy
set_option maxRecDepth 100000
set_option linter.unusedSimpArgs false
set_option linter.unusedVariables false
namespace Go.DB
open Go Go.RowKit

/-- strings.Trim -/
noncomputable def strings_Trim (s cs : Str) : Option Str := need ((cs.b.length : Int) < 4294967281 ∧ cs.b.all (fun b => decide (b.toNat < 128)) = true) (some (trimS s cs))

/-- unicode/utf8.ValidString -/
noncomputable def utf8_ValidString (s : Str) : Option Bool := some (validS s)

/-- slices.Insert[[]drawboard/api.Node,drawboard/api.Node] -/
noncomputable def slices_Insert_Node (l : List DNode) (i : Int) (v : List DNode) : Option (List DNode) := need (0 ≤ i ∧ i ≤ l.length ∧ (l.length : Int) + v.length ≤ 1073741824) (some (l.take i.toNat ++ v ++ l.drop i.toNat))

/-- drawref1.nodeError$1 -/
noncomputable def ref_nodeError_1 (m1 : DNode) (c0_1 : DNode) : Option Bool :=
 some (decide (m1.Id = c0_1.Id))

noncomputable def slices_IndexFunc_Node_L1 (f1 : (DNode → Option Bool)) (s1 : (List DNode)) (i : Int) (s : Unit) : Option (Res Unit (Res Unit Int)) :=
 need (inR s1 i) <|
 Option.bind (f1 (gx s1 i)) fun r1 =>
 bif r1 then (
  some (Res.ab (Res.ab i)))
 else (
  some (Res.nx ()))

/-- slices.IndexFunc[[]api.Node,api.Node] -/
noncomputable def slices_IndexFunc_Node (s1 : (List DNode)) (f1 : (DNode → Option Bool)) : Option Int :=
 bindR (σ := Unit) (ρ := Int) (
  rforE (s1.length : Int) (slices_IndexFunc_Node_L1 f1 s1) (fun s => Res.nx s) ()) fun j_1 =>
 some (-1)

/-- slices.ContainsFunc[[]api.Node,api.Node] -/
noncomputable def slices_ContainsFunc_Node (s1 : (List DNode)) (f1 : (DNode → Option Bool)) : Option Bool :=
 Option.bind (slices_IndexFunc_Node s1 f1) fun r1 =>
 some (decide (0 ≤ r1))

noncomputable def ref_NameOf_L1 (s1 : Str) (i : Int) (s : Unit) : Option (Res Unit (Res Unit Bool)) :=
 need (inR s1.b i) <|
 bnd ((⟨((gx s1.b i).toNat : Int)⟩ : KI .u8)) fun c1 =>
 bif (!((decide ((⟨97⟩ : KI .u8).n ≤ c1.n)) && (decide (c1.n ≤ (⟨122⟩ : KI .u8).n)))) && ((decide (i = 0)) || ((!((decide ((⟨48⟩ : KI .u8).n ≤ c1.n)) && (decide (c1.n ≤ (⟨57⟩ : KI .u8).n)))) && (!decide (c1.n = (⟨45⟩ : KI .u8).n)))) then (
  some (Res.ab (Res.ab false)))
 else (
  some (Res.nx ()))

/-- drawref1.NameOf -/
noncomputable def ref_NameOf (s1 : Str) : Option Bool :=
 bindR (σ := Unit) (ρ := Bool) (
  rforE (s1.b.length : Int) (ref_NameOf_L1 s1) (fun s => Res.nx s) ()) fun j_1 =>
 some ((!decide (s1 = Str.nil)) && (decide ((s1.b.length : Int) ≤ 40)))

/-- drawref1.When -/
noncomputable def ref_When (is1 : Bool) (e1 : Int) : Option Int :=
 bif is1 then (
  some e1)
 else (
  some 0)

/-- drawref1.In -/
noncomputable def ref_In (n1 : Int) (low1 : Int) (high1 : Int) : Option Bool :=
 some ((decide (low1 ≤ n1)) && (decide (n1 ≤ high1)))

noncomputable def ref_First_L1 (l1 : (List Int)) (i : Int) (s : Unit) : Option (Res Unit (Res Unit Int)) :=
 need (inR l1 i) <|
 bnd (gx l1 i) fun e1 =>
 bif !decide (e1 = 0) then (
  some (Res.ab (Res.ab e1)))
 else (
  some (Res.nx ()))

/-- drawref1.First -/
noncomputable def ref_First (l1 : (List Int)) : Option Int :=
 bindR (σ := Unit) (ρ := Int) (
  rforE (l1.length : Int) (ref_First_L1 l1) (fun s => Res.nx s) ()) fun j_1 =>
 some 0

/-- drawref1.PointError -/
noncomputable def ref_PointError (p1 : Point) : Option Int :=
 Option.bind (ref_In p1.X (-1000000) 1000000) fun r1 =>
 Option.bind (gd (!(!r1)) (ref_In p1.Y (-1000000) 1000000)) fun r2 =>
 Option.bind (ref_When ((!r1) || (!r2)) 3) fun r3 =>
 some r3

/-- drawref1.BoxError -/
noncomputable def ref_BoxError (b1 : Box) : Option Int :=
 Option.bind (ref_PointError (⟨b1.X, b1.Y⟩ : Point)) fun r1 =>
 Option.bind (ref_In b1.W_ 1 20000) fun r2 =>
 Option.bind (gd (!(!r2)) (ref_In b1.H 1 20000)) fun r3 =>
 Option.bind (ref_When ((!r2) || (!r3)) 3) fun r4 =>
 Option.bind (ref_First [r1, r4]) fun r5 =>
 some r5

noncomputable def ref_TextError_L1 (s1 : Str) (i : Int) (s : Bool) : Option Bool :=
 need (s = false → inR s1.b i) <|
 need (s = false → (decide ((⟨((gx s1.b i).toNat : Int)⟩ : KI .u8).n < (⟨32⟩ : KI .u8).n)) = true → inR s1.b i) <|
 need ((s || ((decide ((⟨((gx s1.b i).toNat : Int)⟩ : KI .u8).n < (⟨32⟩ : KI .u8).n)) && (!decide ((⟨((gx s1.b i).toNat : Int)⟩ : KI .u8).n = (⟨10⟩ : KI .u8).n)))) = false → inR s1.b i) <|
 bnd ((s || ((decide ((⟨((gx s1.b i).toNat : Int)⟩ : KI .u8).n < (⟨32⟩ : KI .u8).n)) && (!decide ((⟨((gx s1.b i).toNat : Int)⟩ : KI .u8).n = (⟨10⟩ : KI .u8).n)))) || (decide ((⟨((gx s1.b i).toNat : Int)⟩ : KI .u8).n = (⟨127⟩ : KI .u8).n))) fun bad2 =>
 some bad2

/-- drawref1.TextError -/
noncomputable def ref_TextError (s1 : Str) : Option Int :=
 Option.bind (utf8_ValidString s1) fun r1 =>
 bnd (!r1) fun bad1 =>
 Option.bind (α := Bool) (
  rfor (s1.b.length : Int) (ref_TextError_L1 s1) bad1) fun j_3 =>
 Option.bind (ref_When (decide (1000 < (s1.b.length : Int))) 4) fun r2 =>
 Option.bind (ref_When j_3 2) fun r3 =>
 Option.bind (ref_First [r2, r3]) fun r4 =>
 some r4

/-- drawref1.classError -/
noncomputable def ref_classError (s1 : Str) : Option Int :=
 Option.bind (gd ((!decide (s1 = Str.nil))) (ref_NameOf s1)) fun r1 =>
 Option.bind (ref_When ((!decide (s1 = Str.nil)) && (!r1)) 5) fun r2 =>
 some r2

/-- drawref1.nodeError -/
noncomputable def ref_nodeError (d1 : Doc) (i1 : Int) : Option Int :=
 need (inR d1.Nodes i1) <|
 bnd (gx d1.Nodes i1) fun v1 =>
 need (segR d1.Nodes.length 0 i1) <|
 Option.bind (slices_ContainsFunc_Node (seg d1.Nodes 0 i1) (fun x0 => ref_nodeError_1 x0 v1)) fun twice1 =>
 Option.bind (ref_NameOf v1.Id) fun r1 =>
 Option.bind (ref_When (!r1) 5) fun r2 =>
 Option.bind (ref_When twice1 6) fun r3 =>
 Option.bind (ref_In v1.Kind 1 6) fun r4 =>
 Option.bind (ref_When (!r4) 1) fun r5 =>
 Option.bind (ref_First [r2, r3, r5]) fun e1 =>
 bif !decide (e1 = 0) then (
  some e1)
 else (
  Option.bind (ref_When (!decide (v1.Box = (⟨(0 : Int), (0 : Int), (0 : Int), (0 : Int)⟩ : Box))) 2) fun box1 =>
  Option.bind (α := Int) (
   bif !decide (v1.Kind = 6) then (
    Option.bind (ref_BoxError v1.Box) fun box2 =>
    some box2)
   else (
    some box1)) fun j_13 =>
  Option.bind (ref_TextError v1.Text) fun r6 =>
  Option.bind (ref_classError v1.Class) fun r7 =>
  Option.bind (ref_First [j_13, r6, r7]) fun r8 =>
  some r8)

/-- drawref1.NodeAt$1 -/
noncomputable def ref_NodeAt_1 (n1 : DNode) (c0_1 : Str) : Option Bool :=
 some (decide (n1.Id = c0_1))

/-- drawref1.NodeAt -/
noncomputable def ref_NodeAt (d1 : Doc) (id1 : Str) : Option Int :=
 Option.bind (slices_IndexFunc_Node d1.Nodes (fun x0 => ref_NodeAt_1 x0 id1)) fun r1 =>
 some r1

noncomputable def ref_above_L1 (d1 : Doc) (n1 : DNode) (s2_ : (Int × Str)) : Option (Step (Int × Str) (Res Int (Int × Bool))) :=
 bif !decide (s2_.2 = Str.nil) then (
  bnd (W (s2_.1 + 1)) fun many1 =>
  bif (decide (s2_.2 = n1.Id)) || (decide ((d1.Nodes.length : Int) < many1)) then (
   some (Step.done (Res.ab (many1, decide (s2_.2 = n1.Id)))))
  else (
   Option.bind (ref_NodeAt d1 s2_.2) fun r1 =>
   need (inR d1.Nodes r1) <|
   bnd ((gx d1.Nodes r1).Parent) fun id1 =>
   some (Step.again (many1, id1))))
 else (
  some (Step.done (Res.nx s2_.1)))

/-- drawref1.above -/
noncomputable def ref_above (d1 : Doc) (n1 : DNode) : Option (Int × Bool) :=
 bindR (σ := Int) (ρ := (Int × Bool)) (
  loop (ref_above_L1 d1 n1) (0, n1.Parent)) fun j_1 =>
 some (j_1, false)

noncomputable def ref_members_L1 (d1 : Doc) (id1 : Str) (i : Int) (s : (List DNode)) : Option (List DNode) :=
 need (inR d1.Nodes i) <|
 bnd (gx d1.Nodes i) fun v1 =>
 bif decide (v1.Parent = id1) then (
  need (room (s.length + [v1].length)) <|
  some (s ++ [v1]))
 else (
  some s)

/-- drawref1.members -/
noncomputable def ref_members (d1 : Doc) (id1 : Str) : Option (List DNode) :=
 Option.bind (α := (List DNode)) (
  rfor (d1.Nodes.length : Int) (ref_members_L1 d1 id1) ([] : List DNode)) fun j_1 =>
 some j_1

noncomputable def ref_treeError_L1 (d1 : Doc) (i : Int) (s : Unit) : Option (Res Unit (Res Unit Int)) :=
 need (inR d1.Nodes i) <|
 bnd (gx d1.Nodes i) fun v1 =>
 Option.bind (ref_NodeAt d1 v1.Parent) fun k1 =>
 need ((!decide (v1.Parent = Str.nil)) = true → (decide (k1 < 0)) = false → inR d1.Nodes k1) <|
 bif (!decide (v1.Parent = Str.nil)) && ((decide (k1 < 0)) || (!decide (((gx d1.Nodes k1).Kind) = 6))) then (
  some (Res.ab (Res.ab 10)))
 else (
  some (Res.nx ()))

noncomputable def ref_treeError_L2 (d1 : Doc) (i : Int) (s : Unit) : Option (Res Unit (Res Unit Int)) :=
 need (inR d1.Nodes i) <|
 bnd (gx d1.Nodes i) fun v2 =>
 Option.bind (ref_above d1 v2) fun r1 =>
 bif r1.2 then (
  some (Res.ab (Res.ab 13)))
 else (
  some (Res.nx ()))

noncomputable def ref_treeError_L3 (d1 : Doc) (i : Int) (s : Unit) : Option (Res Unit (Res Unit Int)) :=
 need (inR d1.Nodes i) <|
 bnd (gx d1.Nodes i) fun v3 =>
 Option.bind (ref_above d1 v3) fun r2 =>
 bif decide (8 < r2.1) then (
  some (Res.ab (Res.ab 4)))
 else (
  some (Res.nx ()))

noncomputable def ref_treeError_L4 (d1 : Doc) (i : Int) (s : Unit) : Option (Res Unit (Res Unit Int)) :=
 need (inR d1.Nodes i) <|
 bnd (gx d1.Nodes i) fun v4 =>
 Option.bind (gd ((decide (v4.Kind = 6))) (ref_members d1 v4.Id)) fun r3 =>
 bif (decide (v4.Kind = 6)) && (decide ((r3.length : Int) = 0)) then (
  some (Res.ab (Res.ab 9)))
 else (
  some (Res.nx ()))

/-- drawref1.treeError -/
noncomputable def ref_treeError (d1 : Doc) : Option Int :=
 bindR (σ := Unit) (ρ := Int) (
  rforE (d1.Nodes.length : Int) (ref_treeError_L1 d1) (fun s => Res.nx s) ()) fun j_1 =>
 bindR (σ := Unit) (ρ := Int) (
  rforE (d1.Nodes.length : Int) (ref_treeError_L2 d1) (fun s => Res.nx s) ()) fun j_10 =>
 bindR (σ := Unit) (ρ := Int) (
  rforE (d1.Nodes.length : Int) (ref_treeError_L3 d1) (fun s => Res.nx s) ()) fun j_18 =>
 bindR (σ := Unit) (ρ := Int) (
  rforE (d1.Nodes.length : Int) (ref_treeError_L4 d1) (fun s => Res.nx s) ()) fun j_26 =>
 some 0

/-- drawref1.edgeError$1 -/
noncomputable def ref_edgeError_1 (y1 : DEdge) (c0_1 : DEdge) : Option Bool :=
 some (decide (y1.Id = c0_1.Id))

noncomputable def slices_IndexFunc_Edge_L1 (f1 : (DEdge → Option Bool)) (s1 : (List DEdge)) (i : Int) (s : Unit) : Option (Res Unit (Res Unit Int)) :=
 need (inR s1 i) <|
 Option.bind (f1 (gx s1 i)) fun r1 =>
 bif r1 then (
  some (Res.ab (Res.ab i)))
 else (
  some (Res.nx ()))

/-- slices.IndexFunc[[]api.Edge,api.Edge] -/
noncomputable def slices_IndexFunc_Edge (s1 : (List DEdge)) (f1 : (DEdge → Option Bool)) : Option Int :=
 bindR (σ := Unit) (ρ := Int) (
  rforE (s1.length : Int) (slices_IndexFunc_Edge_L1 f1 s1) (fun s => Res.nx s) ()) fun j_1 =>
 some (-1)

/-- slices.ContainsFunc[[]api.Edge,api.Edge] -/
noncomputable def slices_ContainsFunc_Edge (s1 : (List DEdge)) (f1 : (DEdge → Option Bool)) : Option Bool :=
 Option.bind (slices_IndexFunc_Edge s1 f1) fun r1 =>
 some (decide (0 ≤ r1))

/-- drawref1.PortError -/
noncomputable def ref_PortError (side1 : Int) (at1 : Int) : Option Int :=
 Option.bind (ref_In side1 1 4) fun r1 =>
 Option.bind (gd (!(!r1)) (ref_In at1 0 1000)) fun r2 =>
 Option.bind (ref_When ((!r1) || (!r2)) 3) fun r3 =>
 some r3

noncomputable def ref_PointsError_L1 (l1 : (List Point)) (i : Int) (s : Unit) : Option (Res Unit (Res Unit Int)) :=
 need (inR l1 i) <|
 bnd (gx l1 i) fun v1 =>
 Option.bind (ref_PointError v1) fun e1 =>
 bif !decide (e1 = 0) then (
  some (Res.ab (Res.ab e1)))
 else (
  some (Res.nx ()))

/-- drawref1.PointsError -/
noncomputable def ref_PointsError (l1 : (List Point)) : Option Int :=
 bif decide (1000 < (l1.length : Int)) then (
  some 4)
 else (
  bindR (σ := Unit) (ρ := Int) (
   rforE (l1.length : Int) (ref_PointsError_L1 l1) (fun s => Res.nx s) ()) fun j_2 =>
  some 0)

noncomputable def ref_edgeError_L1 (d1 : Doc) (v2 : (List DEnd)) (i : Int) (s : Unit) : Option (Res Unit (Res Unit Int)) :=
 need (inR v2 i) <|
 bnd (gx v2 i) fun v3 =>
 Option.bind (ref_NodeAt d1 v3.Node) fun k1 =>
 bif decide (k1 < 0) then (
  some (Res.ab (Res.ab 10)))
 else (
  need (inR d1.Nodes k1) <|
  Option.bind (ref_When (decide (((gx d1.Nodes k1).Kind) = 6)) 1) fun r6 =>
  Option.bind (ref_PortError v3.Side v3.At) fun r7 =>
  Option.bind (ref_First [r6, r7]) fun e2 =>
  bif !decide (e2 = 0) then (
   some (Res.ab (Res.ab e2)))
  else (
   some (Res.nx ())))

/-- drawref1.edgeError -/
noncomputable def ref_edgeError (d1 : Doc) (i1 : Int) : Option Int :=
 need (inR d1.Edges i1) <|
 bnd (gx d1.Edges i1) fun v1 =>
 Option.bind (ref_NodeAt d1 v1.Id) fun r1 =>
 need ((decide (0 ≤ r1)) = false → segR d1.Edges.length 0 i1) <|
 Option.bind (gd (!(decide (0 ≤ r1))) (slices_ContainsFunc_Edge (seg d1.Edges 0 i1) (fun x0 => ref_edgeError_1 x0 v1))) fun r2 =>
 Option.bind (ref_NameOf v1.Id) fun r3 =>
 Option.bind (ref_When (!r3) 5) fun r4 =>
 Option.bind (ref_When ((decide (0 ≤ r1)) || r2) 6) fun r5 =>
 Option.bind (ref_First [r4, r5]) fun e1 =>
 bif !decide (e1 = 0) then (
  some e1)
 else (
  bnd ([v1.From, v1.To]) fun v2 =>
  bindR (σ := Unit) (ρ := Int) (
   rforE (v2.length : Int) (ref_edgeError_L1 d1 v2) (fun s => Res.nx s) ()) fun j_12 =>
  bif decide (50 < (v1.Bends.length : Int)) then (
   some 4)
  else (
   Option.bind (ref_PointsError v1.Bends) fun r8 =>
   Option.bind (ref_TextError v1.Text) fun r9 =>
   Option.bind (ref_classError v1.Class) fun r10 =>
   Option.bind (ref_First [r8, r9, r10]) fun r11 =>
   some r11))

noncomputable def ref_HullOf_L1 (l1 : (List Box)) (i : Int) (s : (Int × Int × Int × Int)) : Option (Int × Int × Int × Int) :=
 need (inR l1 i) <|
 bnd (gx l1 i) fun v3 =>
 bnd (min s.1 v3.X) fun x2 =>
 bnd (min s.2.1 v3.Y) fun y2 =>
 bnd (max s.2.2.1 (W (v3.X + v3.W_))) fun r2 =>
 bnd (max s.2.2.2 (W (v3.Y + v3.H))) fun d2 =>
 some (x2, y2, r2, d2)

/-- drawref1.HullOf -/
noncomputable def ref_HullOf (l1 : (List Box)) : Option (Box × Int) :=
 bnd ((⟨(0 : Int), (0 : Int), (0 : Int), (0 : Int)⟩ : Box)) fun v1 =>
 bif decide ((l1.length : Int) = 0) then (
  bnd ((⟨(0 : Int), (0 : Int), (0 : Int), (0 : Int)⟩ : Box)) fun v2 =>
  some (v2, 9))
 else (
  need (inR l1 0) <|
  need (inR l1 0) <|
  need (inR l1 0) <|
  need (inR l1 0) <|
  bnd ((gx l1 0).X) fun x1 =>
  bnd ((gx l1 0).Y) fun y1 =>
  bnd ((gx l1 0).X) fun r1 =>
  bnd ((gx l1 0).Y) fun d1 =>
  Option.bind (α := (Int × Int × Int × Int)) (
   rfor (l1.length : Int) (ref_HullOf_L1 l1) (x1, y1, r1, d1)) fun j_12 =>
  bif (decide (20000 < (W (j_12.2.2.1 - j_12.1)))) || (decide (20000 < (W (j_12.2.2.2 - j_12.2.1)))) then (
   bnd ((⟨(0 : Int), (0 : Int), (0 : Int), (0 : Int)⟩ : Box)) fun v4 =>
   some (v4, 4))
  else (
   bnd ((⟨j_12.1, j_12.2.1, W (j_12.2.2.1 - j_12.1), W (j_12.2.2.2 - j_12.2.1)⟩ : Box)) fun v5 =>
   some (v5, 0)))

noncomputable def ref_BoxOfNode_L1 (self : (Doc × Str) → Option (Box × Int)) (x : (Doc × Str)) (r2 : (List DNode)) (i : Int) (s : (List Box)) : Option (Res (List Box) (Res (List Box) (Box × Int))) :=
 need (inR r2 i) <|
 bnd (gx r2 i) fun v3 =>
 Option.bind (self (x.1, v3.Id)) fun r3 =>
 bif !decide (r3.2 = 0) then (
  bnd ((⟨(0 : Int), (0 : Int), (0 : Int), (0 : Int)⟩ : Box)) fun v4 =>
  some (Res.ab (Res.ab (v4, r3.2))))
 else (
  need (room (s.length + [r3.1].length)) <|
  some (Res.nx (s ++ [r3.1])))

/-- drawref1.BoxOfNode -/
noncomputable def ref_BoxOfNode_body (self : (Doc × Str) → Option (Box × Int)) (x : (Doc × Str)) : Option (Box × Int) :=
 bnd ((⟨(0 : Int), (0 : Int), (0 : Int), (0 : Int)⟩ : Box)) fun v1 =>
 Option.bind (ref_NodeAt x.1 x.2) fun r1 =>
 need (inR x.1.Nodes r1) <|
 bnd (gx x.1.Nodes r1) fun v2 =>
 bif !decide (v2.Kind = 6) then (
  some (v2.Box, 0))
 else (
  Option.bind (ref_members x.1 x.2) fun r2 =>
  bindR (σ := (List Box)) (ρ := (Box × Int)) (
   rforE (r2.length : Int) (ref_BoxOfNode_L1 self x r2) (fun s => Res.nx s) ([] : List Box)) fun j_7 =>
  Option.bind (ref_HullOf j_7) fun r4 =>
  bif !decide (r4.2 = 0) then (
   bnd ((⟨(0 : Int), (0 : Int), (0 : Int), (0 : Int)⟩ : Box)) fun v5 =>
   some (v5, r4.2))
  else (
   bnd ((⟨W (r4.1.X - 10), W (r4.1.Y - 10), W (r4.1.W_ + 20), W (r4.1.H + 20)⟩ : Box)) fun v6 =>
   Option.bind (ref_BoxError v6) fun r5 =>
   some (v6, r5)))

noncomputable def ref_BoxOfNode (d1 : Doc) (id1 : Str) : Option (Box × Int) := fixp ref_BoxOfNode_body (d1, id1)

noncomputable def ref_DocError_L1 (d1 : Doc) (i : Int) (s : Unit) : Option (Res Unit (Res Unit Int)) :=
 Option.bind (ref_nodeError d1 i) fun e1 =>
 bif !decide (e1 = 0) then (
  some (Res.ab (Res.ab e1)))
 else (
  some (Res.nx ()))

noncomputable def ref_DocError_L2 (d1 : Doc) (i : Int) (s : Unit) : Option (Res Unit (Res Unit Int)) :=
 Option.bind (ref_edgeError d1 i) fun e3 =>
 bif !decide (e3 = 0) then (
  some (Res.ab (Res.ab e3)))
 else (
  some (Res.nx ()))

noncomputable def ref_DocError_L3 (d1 : Doc) (i : Int) (s : Unit) : Option (Res Unit (Res Unit Int)) :=
 need (inR d1.Nodes i) <|
 bnd (gx d1.Nodes i) fun v1 =>
 Option.bind (ref_BoxOfNode d1 v1.Id) fun r1 =>
 bif !decide (r1.2 = 0) then (
  some (Res.ab (Res.ab r1.2)))
 else (
  some (Res.nx ()))

/-- drawref1.DocError -/
noncomputable def ref_DocError (d1 : Doc) : Option Int :=
 bif (decide (500 < (d1.Nodes.length : Int))) || (decide (1000 < (d1.Edges.length : Int))) then (
  some 4)
 else (
  bindR (σ := Unit) (ρ := Int) (
   rforE (d1.Nodes.length : Int) (ref_DocError_L1 d1) (fun s => Res.nx s) ()) fun j_2 =>
  Option.bind (ref_treeError d1) fun e2 =>
  bif !decide (e2 = 0) then (
   some e2)
  else (
   bindR (σ := Unit) (ρ := Int) (
    rforE (d1.Edges.length : Int) (ref_DocError_L2 d1) (fun s => Res.nx s) ()) fun j_10 =>
   bindR (σ := Unit) (ρ := Int) (
    rforE (d1.Nodes.length : Int) (ref_DocError_L3 d1) (fun s => Res.nx s) ()) fun j_16 =>
   some 0))

noncomputable def slices_Index_string_L1 (s1 : (List Str)) (v1 : Str) (i : Int) (s : Unit) : Option (Res Unit (Res Unit Int)) :=
 need (inR s1 i) <|
 bif decide (v1 = (gx s1 i)) then (
  some (Res.ab (Res.ab i)))
 else (
  some (Res.nx ()))

/-- slices.Index[[]string,string] -/
noncomputable def slices_Index_string (s1 : (List Str)) (v1 : Str) : Option Int :=
 bindR (σ := Unit) (ρ := Int) (
  rforE (s1.length : Int) (slices_Index_string_L1 s1 v1) (fun s => Res.nx s) ()) fun j_1 =>
 some (-1)

/-- slices.Contains[[]string,string] -/
noncomputable def slices_Contains_string (s1 : (List Str)) (v1 : Str) : Option Bool :=
 Option.bind (slices_Index_string s1 v1) fun r1 =>
 some (decide (0 ≤ r1))

noncomputable def ref_SelectionError_L1 (d1 : Doc) (ids1 : (List Str)) (i : Int) (s : Unit) : Option (Res Unit (Res Unit Int)) :=
 need (inR ids1 i) <|
 bnd (gx ids1 i) fun id1 =>
 Option.bind (ref_NodeAt d1 id1) fun r1 =>
 Option.bind (ref_When (decide (r1 < 0)) 10) fun r2 =>
 need (segR ids1.length 0 i) <|
 Option.bind (slices_Contains_string (seg ids1 0 i) id1) fun r3 =>
 Option.bind (ref_When r3 6) fun r4 =>
 Option.bind (ref_First [r2, r4]) fun e1 =>
 bif !decide (e1 = 0) then (
  some (Res.ab (Res.ab e1)))
 else (
  some (Res.nx ()))

/-- drawref1.SelectionError -/
noncomputable def ref_SelectionError (d1 : Doc) (ids1 : (List Str)) : Option Int :=
 bindR (σ := Unit) (ρ := Int) (
  rforE (ids1.length : Int) (ref_SelectionError_L1 d1 ids1) (fun s => Res.nx s) ()) fun j_1 =>
 some 0

/-- drawlaw1.selected -/
noncomputable def law_selected (d1 : Doc) (ids1 : (List Str)) : Option Int :=
 Option.bind (ref_DocError d1) fun e1 =>
 bif !decide (e1 = 0) then (
  some e1)
 else (
  Option.bind (ref_SelectionError d1 ids1) fun r1 =>
  some r1)

/-- page.isName -/
noncomputable def page_isName (s1 : Str) : Option Bool :=
 need (((!decide (s1 = Str.nil)) && (decide ((s1.b.length : Int) ≤ 40))) = true → inR s1.b 0) <|
 need (((!decide (s1 = Str.nil)) && (decide ((s1.b.length : Int) ≤ 40))) = true → (decide ((⟨97⟩ : KI .u8).n ≤ (⟨((gx s1.b 0).toNat : Int)⟩ : KI .u8).n)) = true → inR s1.b 0) <|
 Option.bind (gd ((((!decide (s1 = Str.nil)) && (decide ((s1.b.length : Int) ≤ 40))) && ((decide ((⟨97⟩ : KI .u8).n ≤ (⟨((gx s1.b 0).toNat : Int)⟩ : KI .u8).n)) && (decide ((⟨((gx s1.b 0).toNat : Int)⟩ : KI .u8).n ≤ (⟨122⟩ : KI .u8).n))))) (strings_Trim s1 (⟨[97, 98, 99, 100, 101, 102, 103, 104, 105, 106, 107, 108, 109, 110, 111, 112, 113, 114, 115, 116, 117, 118, 119, 120, 121, 122, 48, 49, 50, 51, 52, 53, 54, 55, 56, 57, 45]⟩ : Str))) fun r1 =>
 some ((((!decide (s1 = Str.nil)) && (decide ((s1.b.length : Int) ≤ 40))) && ((decide ((⟨97⟩ : KI .u8).n ≤ (⟨((gx s1.b 0).toNat : Int)⟩ : KI .u8).n)) && (decide ((⟨((gx s1.b 0).toNat : Int)⟩ : KI .u8).n ≤ (⟨122⟩ : KI .u8).n)))) && (decide (r1 = Str.nil)))

/-- geom.out -/
noncomputable def geom_out (n1 : Int) : Option Bool :=
 some ((decide (n1 < (-1000000))) || (decide (1000000 < n1)))

/-- geom.CheckBox -/
noncomputable def geom_CheckBox (b1 : Box) : Option Int :=
 Option.bind (geom_out b1.X) fun r1 =>
 Option.bind (gd (!r1) (geom_out b1.Y)) fun r2 =>
 bif ((((r1 || r2) || (decide (b1.W_ < 1))) || (decide (20000 < b1.W_))) || (decide (b1.H < 1))) || (decide (20000 < b1.H)) then (
  some 3)
 else (
  some 0)

noncomputable def shape_CheckText_L1 (s1 : Str) (i : Int) (s : Unit) : Option (Res Unit (Res Unit Int)) :=
 need (inR s1.b i) <|
 need ((decide ((⟨((gx s1.b i).toNat : Int)⟩ : KI .u8).n < (⟨32⟩ : KI .u8).n)) = true → inR s1.b i) <|
 need (((decide ((⟨((gx s1.b i).toNat : Int)⟩ : KI .u8).n < (⟨32⟩ : KI .u8).n)) && (!decide ((⟨((gx s1.b i).toNat : Int)⟩ : KI .u8).n = (⟨10⟩ : KI .u8).n))) = false → inR s1.b i) <|
 bif ((decide ((⟨((gx s1.b i).toNat : Int)⟩ : KI .u8).n < (⟨32⟩ : KI .u8).n)) && (!decide ((⟨((gx s1.b i).toNat : Int)⟩ : KI .u8).n = (⟨10⟩ : KI .u8).n))) || (decide ((⟨((gx s1.b i).toNat : Int)⟩ : KI .u8).n = (⟨127⟩ : KI .u8).n)) then (
  some (Res.ab (Res.ab 2)))
 else (
  some (Res.nx ()))

/-- shape.CheckText -/
noncomputable def shape_CheckText (s1 : Str) : Option Int :=
 bif decide (1000 < (s1.b.length : Int)) then (
  some 4)
 else (
  Option.bind (utf8_ValidString s1) fun r1 =>
  bif !r1 then (
   some 2)
  else (
   bindR (σ := Unit) (ρ := Int) (
    rforE (s1.b.length : Int) (shape_CheckText_L1 s1) (fun s => Res.nx s) ()) fun j_4 =>
   some 0))

/-- page.checkNode -/
noncomputable def page_checkNode (n1 : DNode) (twice1 : Bool) : Option Int :=
 Option.bind (page_isName n1.Id) fun r1 =>
 bif !r1 then (
  some 5)
 else (
  bif twice1 then (
   some 6)
  else (
   bif (decide (n1.Kind < 1)) || (decide (6 < n1.Kind)) then (
    some 1)
   else (
    bif (decide (n1.Kind = 6)) && (!decide (n1.Box = (⟨(0 : Int), (0 : Int), (0 : Int), (0 : Int)⟩ : Box))) then (
     some 2)
    else (
     bindR (σ := Unit) (ρ := Int) (
      bif !decide (n1.Kind = 6) then (
       Option.bind (geom_CheckBox n1.Box) fun e1 =>
       bif !decide (e1 = 0) then (
        some (Res.ab e1))
       else (
        some (Res.nx ())))
      else (
       some (Res.nx ()))) fun j_6 =>
     Option.bind (shape_CheckText n1.Text) fun e2 =>
     bif !decide (e2 = 0) then (
      some e2)
     else (
      Option.bind (gd ((!decide (n1.Class = Str.nil))) (page_isName n1.Class)) fun r2 =>
      bif (!decide (n1.Class = Str.nil)) && (!r2) then (
       some 5)
      else (
       some 0))))))

noncomputable def page_viewOf_L1 (d1 : Doc) (i : Int) (s : ((GMap Str Int) × (GMap Str (List Int)))) : Option ((GMap Str Int) × (GMap Str (List Int))) :=
 need (inR d1.Nodes i) <|
 bnd (gx d1.Nodes i) fun v1 =>
 bnd (s.1.set v1.Id i) fun c3 =>
 bif !decide (v1.Parent = Str.nil) then (
  need (room ((s.2.getD v1.Parent ([] : (List Int))).length + [i].length)) <|
  some (c3, s.2.set v1.Parent ((s.2.getD v1.Parent ([] : (List Int))) ++ [i])))
 else (
  some (c3, s.2))

/-- page.viewOf -/
noncomputable def page_viewOf (d1 : Doc) : Option (Option Page_view) :=
 bnd ((GMap.nil : (GMap Str Int))) fun c1 =>
 bnd ((GMap.nil : (GMap Str (List Int)))) fun c2 =>
 Option.bind (α := ((GMap Str Int) × (GMap Str (List Int)))) (
  rfor (d1.Nodes.length : Int) (page_viewOf_L1 d1) (c1, c2)) fun j_3 =>
 some (some (⟨d1, j_3.1, j_3.2⟩ : Page_view))

/-- (*page.view).node -/
noncomputable def page_view_node (v1 : Page_view) (id1 : Str) : Option DNode :=
 bnd ((⟨Str.nil, (0 : Int), (⟨(0 : Int), (0 : Int), (0 : Int), (0 : Int)⟩ : Box), Str.nil, Str.nil, Str.nil, false⟩ : DNode)) fun v2 =>
 need (inR v1.d.Nodes (v1.number.getD id1 (0 : Int))) <|
 bnd (gx v1.d.Nodes (v1.number.getD id1 (0 : Int))) fun v3 =>
 some v3

noncomputable def page_view_above_L1 (n1 : DNode) (v1 : Page_view) (s2_ : (Int × DNode)) : Option (Step (Int × DNode) (Res Int (Int × Bool))) :=
 bif !decide (s2_.2.Parent = Str.nil) then (
  bnd (W (s2_.1 + 1)) fun many1 =>
  bif (decide (s2_.2.Parent = n1.Id)) || (decide ((v1.d.Nodes.length : Int) < many1)) then (
   some (Step.done (Res.ab (many1, !decide (s2_.2.Parent = n1.Id)))))
  else (
   Option.bind (page_view_node v1 s2_.2.Parent) fun r1 =>
   some (Step.again (many1, r1))))
 else (
  some (Step.done (Res.nx s2_.1)))

/-- (*page.view).above -/
noncomputable def page_view_above (v1 : Page_view) (n1 : DNode) : Option (Int × Bool) :=
 bindR (σ := Int) (ρ := (Int × Bool)) (
  loop (page_view_above_L1 n1 v1) (0, n1)) fun j_1 =>
 some (j_1, true)

noncomputable def page_view_checkGroups_L1 (v1 : Page_view) (i : Int) (s : Unit) : Option (Res Unit (Res Unit Int)) :=
 need (inR v1.d.Nodes i) <|
 bnd (gx v1.d.Nodes i) fun v2 =>
 need ((!decide (v2.Parent = Str.nil)) = true → (!(v1.number.has v2.Parent)) = false → inR v1.d.Nodes (v1.number.getD v2.Parent (0 : Int))) <|
 bif (!decide (v2.Parent = Str.nil)) && ((!(v1.number.has v2.Parent)) || (!decide (((gx v1.d.Nodes (v1.number.getD v2.Parent (0 : Int))).Kind) = 6))) then (
  some (Res.ab (Res.ab 10)))
 else (
  some (Res.nx ()))

noncomputable def page_view_checkGroups_L2 (v1 : Page_view) (i : Int) (s : Unit) : Option (Res Unit (Res Unit Int)) :=
 need (inR v1.d.Nodes i) <|
 bnd (gx v1.d.Nodes i) fun v3 =>
 Option.bind (page_view_above v1 v3) fun r1 =>
 bif !r1.2 then (
  some (Res.ab (Res.ab 13)))
 else (
  some (Res.nx ()))

noncomputable def page_view_checkGroups_L3 (v1 : Page_view) (i : Int) (s : Unit) : Option (Res Unit (Res Unit Int)) :=
 need (inR v1.d.Nodes i) <|
 bnd (gx v1.d.Nodes i) fun v4 =>
 Option.bind (page_view_above v1 v4) fun r2 =>
 bif decide (8 < r2.1) then (
  some (Res.ab (Res.ab 4)))
 else (
  some (Res.nx ()))

noncomputable def page_view_checkGroups_L4 (v1 : Page_view) (i : Int) (s : Unit) : Option (Res Unit (Res Unit Int)) :=
 need (inR v1.d.Nodes i) <|
 bnd (gx v1.d.Nodes i) fun v5 =>
 bif (decide (v5.Kind = 6)) && (decide (((v1.members.getD v5.Id ([] : (List Int))).length : Int) = 0)) then (
  some (Res.ab (Res.ab 9)))
 else (
  some (Res.nx ()))

/-- (*page.view).checkGroups -/
noncomputable def page_view_checkGroups (v1 : Page_view) : Option Int :=
 bindR (σ := Unit) (ρ := Int) (
  rforE (v1.d.Nodes.length : Int) (page_view_checkGroups_L1 v1) (fun s => Res.nx s) ()) fun j_1 =>
 bindR (σ := Unit) (ρ := Int) (
  rforE (v1.d.Nodes.length : Int) (page_view_checkGroups_L2 v1) (fun s => Res.nx s) ()) fun j_9 =>
 bindR (σ := Unit) (ρ := Int) (
  rforE (v1.d.Nodes.length : Int) (page_view_checkGroups_L3 v1) (fun s => Res.nx s) ()) fun j_17 =>
 bindR (σ := Unit) (ρ := Int) (
  rforE (v1.d.Nodes.length : Int) (page_view_checkGroups_L4 v1) (fun s => Res.nx s) ()) fun j_25 =>
 some 0

/-- (*page.view).checkEnd -/
noncomputable def page_view_checkEnd (v1 : Page_view) (x1 : DEnd) : Option Int :=
 bif !(v1.number.has x1.Node) then (
  some 10)
 else (
  need (inR v1.d.Nodes (v1.number.getD x1.Node (0 : Int))) <|
  bif decide (((gx v1.d.Nodes (v1.number.getD x1.Node (0 : Int))).Kind) = 6) then (
   some 1)
  else (
   bif (((decide (x1.Side < 1)) || (decide (4 < x1.Side))) || (decide (x1.At < 0))) || (decide (1000 < x1.At)) then (
    some 3)
   else (
    some 0)))

/-- geom.CheckPoint -/
noncomputable def geom_CheckPoint (p1 : Point) : Option Int :=
 Option.bind (geom_out p1.X) fun r1 =>
 Option.bind (gd (!r1) (geom_out p1.Y)) fun r2 =>
 bif r1 || r2 then (
  some 3)
 else (
  some 0)

noncomputable def geom_points_L1 (l1 : (List Point)) (i : Int) (s : Unit) : Option (Res Unit (Res Unit Int)) :=
 need (inR l1 i) <|
 bnd (gx l1 i) fun v1 =>
 Option.bind (geom_CheckPoint v1) fun e1 =>
 bif !decide (e1 = 0) then (
  some (Res.ab (Res.ab e1)))
 else (
  some (Res.nx ()))

/-- geom.points -/
noncomputable def geom_points (l1 : (List Point)) : Option Int :=
 bindR (σ := Unit) (ρ := Int) (
  rforE (l1.length : Int) (geom_points_L1 l1) (fun s => Res.nx s) ()) fun j_1 =>
 some 0

/-- geom.CheckPoints -/
noncomputable def geom_CheckPoints (l1 : (List Point)) : Option Int :=
 bif decide (1000 < (l1.length : Int)) then (
  some 4)
 else (
  Option.bind (geom_points l1) fun r1 =>
  some r1)

noncomputable def page_view_checkEdge_L1 (v1 : Page_view) (v2 : (List DEnd)) (i : Int) (s : Unit) : Option (Res Unit (Res Unit Int)) :=
 need (inR v2 i) <|
 bnd (gx v2 i) fun v3 =>
 Option.bind (page_view_checkEnd v1 v3) fun e1 =>
 bif !decide (e1 = 0) then (
  some (Res.ab (Res.ab e1)))
 else (
  some (Res.nx ()))

/-- (*page.view).checkEdge -/
noncomputable def page_view_checkEdge (v1 : Page_view) (x1 : DEdge) (twice1 : Bool) : Option Int :=
 Option.bind (page_isName x1.Id) fun r1 =>
 bif !r1 then (
  some 5)
 else (
  bif twice1 then (
   some 6)
  else (
   bnd ([x1.From, x1.To]) fun v2 =>
   bindR (σ := Unit) (ρ := Int) (
    rforE (v2.length : Int) (page_view_checkEdge_L1 v1 v2) (fun s => Res.nx s) ()) fun j_5 =>
   bif decide (50 < (x1.Bends.length : Int)) then (
    some 4)
   else (
    Option.bind (geom_CheckPoints x1.Bends) fun e2 =>
    bif !decide (e2 = 0) then (
     some e2)
    else (
     Option.bind (shape_CheckText x1.Text) fun e3 =>
     bif !decide (e3 = 0) then (
      some e3)
     else (
      Option.bind (gd ((!decide (x1.Class = Str.nil))) (page_isName x1.Class)) fun r2 =>
      bif (!decide (x1.Class = Str.nil)) && (!r2) then (
       some 5)
      else (
       some 0))))))

noncomputable def geom_boxes_L1 (l1 : (List Box)) (i : Int) (s : Unit) : Option (Res Unit (Res Unit Int)) :=
 need (inR l1 i) <|
 bnd (gx l1 i) fun v1 =>
 Option.bind (geom_CheckBox v1) fun e1 =>
 bif !decide (e1 = 0) then (
  some (Res.ab (Res.ab e1)))
 else (
  some (Res.nx ()))

/-- geom.boxes -/
noncomputable def geom_boxes (l1 : (List Box)) : Option Int :=
 bindR (σ := Unit) (ρ := Int) (
  rforE (l1.length : Int) (geom_boxes_L1 l1) (fun s => Res.nx s) ()) fun j_1 =>
 some 0

noncomputable def geom_Hull_L1 (l1 : (List Box)) (i : Int) (s : Box) : Option Box :=
 need (inR l1 i) <|
 bnd (gx l1 i) fun v6 =>
 bnd (min s.X v6.X) fun x1 =>
 bnd (min s.Y v6.Y) fun y1 =>
 bnd ((⟨x1, y1, W ((max (W (s.X + s.W_)) (W (v6.X + v6.W_))) - x1), W ((max (W (s.Y + s.H)) (W (v6.Y + v6.H))) - y1)⟩ : Box)) fun v7 =>
 some v7

/-- geom.Hull -/
noncomputable def geom_Hull (l1 : (List Box)) : Option (Box × Int) :=
 bnd ((⟨(0 : Int), (0 : Int), (0 : Int), (0 : Int)⟩ : Box)) fun v1 =>
 bif decide (1000 < (l1.length : Int)) then (
  bnd ((⟨(0 : Int), (0 : Int), (0 : Int), (0 : Int)⟩ : Box)) fun v2 =>
  some (v2, 4))
 else (
  Option.bind (geom_boxes l1) fun e1 =>
  bif !decide (e1 = 0) then (
   bnd ((⟨(0 : Int), (0 : Int), (0 : Int), (0 : Int)⟩ : Box)) fun v3 =>
   some (v3, e1))
  else (
   bif decide ((l1.length : Int) = 0) then (
    bnd ((⟨(0 : Int), (0 : Int), (0 : Int), (0 : Int)⟩ : Box)) fun v4 =>
    some (v4, 9))
   else (
    need (inR l1 0) <|
    bnd (gx l1 0) fun v5 =>
    Option.bind (α := Box) (
     rfor (l1.length : Int) (geom_Hull_L1 l1) v5) fun j_11 =>
    bif (decide (20000 < j_11.W_)) || (decide (20000 < j_11.H)) then (
     bnd ((⟨(0 : Int), (0 : Int), (0 : Int), (0 : Int)⟩ : Box)) fun v8 =>
     some (v8, 4))
    else (
     some (j_11, 0)))))

/-- geom.Grow -/
noncomputable def geom_Grow (b1 : Box) (n1 : Int) : Option (Box × Int) :=
 bnd ((⟨(0 : Int), (0 : Int), (0 : Int), (0 : Int)⟩ : Box)) fun v1 =>
 Option.bind (geom_CheckBox b1) fun e1 =>
 bif !decide (e1 = 0) then (
  bnd ((⟨(0 : Int), (0 : Int), (0 : Int), (0 : Int)⟩ : Box)) fun v2 =>
  some (v2, e1))
 else (
  bif (decide (n1 < (-20000))) || (decide (20000 < n1)) then (
   bnd ((⟨(0 : Int), (0 : Int), (0 : Int), (0 : Int)⟩ : Box)) fun v3 =>
   some (v3, 3))
  else (
   bnd ((⟨W (b1.X - n1), W (b1.Y - n1), W (b1.W_ + (W (2 * n1))), W (b1.H + (W (2 * n1)))⟩ : Box)) fun v4 =>
   bif (decide (v4.W_ < 1)) || (decide (v4.H < 1)) then (
    bnd ((⟨(0 : Int), (0 : Int), (0 : Int), (0 : Int)⟩ : Box)) fun v5 =>
    some (v5, 9))
   else (
    Option.bind (geom_CheckBox v4) fun e2 =>
    bif !decide (e2 = 0) then (
     bnd ((⟨(0 : Int), (0 : Int), (0 : Int), (0 : Int)⟩ : Box)) fun v6 =>
     some (v6, e2))
    else (
     some (v4, 0)))))

noncomputable def page_view_boxOf_L1 (self : (Page_view × Int) → Option (Box × Int)) (x : (Page_view × Int)) (v4 : (List Int)) (i : Int) (s : (List Box)) : Option (Res (List Box) (Res (List Box) (Box × Int))) :=
 need (inR v4 i) <|
 Option.bind (self (x.1, (gx v4 i))) fun r1 =>
 bif !decide (r1.2 = 0) then (
  bnd ((⟨(0 : Int), (0 : Int), (0 : Int), (0 : Int)⟩ : Box)) fun v5 =>
  some (Res.ab (Res.ab (v5, r1.2))))
 else (
  need (room (s.length + [r1.1].length)) <|
  some (Res.nx (s ++ [r1.1])))

/-- (*page.view).boxOf -/
noncomputable def page_view_boxOf_body (self : (Page_view × Int) → Option (Box × Int)) (x : (Page_view × Int)) : Option (Box × Int) :=
 bnd ((⟨(0 : Int), (0 : Int), (0 : Int), (0 : Int)⟩ : Box)) fun v2 =>
 need (inR x.1.d.Nodes x.2) <|
 bnd (gx x.1.d.Nodes x.2) fun v3 =>
 bif !decide (v3.Kind = 6) then (
  some (v3.Box, 0))
 else (
  bnd (x.1.members.getD v3.Id ([] : (List Int))) fun v4 =>
  bindR (σ := (List Box)) (ρ := (Box × Int)) (
   rforE (v4.length : Int) (page_view_boxOf_L1 self x v4) (fun s => Res.nx s) ([] : List Box)) fun j_6 =>
  Option.bind (geom_Hull j_6) fun r2 =>
  bif !decide (r2.2 = 0) then (
   bnd ((⟨(0 : Int), (0 : Int), (0 : Int), (0 : Int)⟩ : Box)) fun v6 =>
   some (v6, r2.2))
  else (
   Option.bind (geom_Grow r2.1 10) fun r3 =>
   some (r3.1, r3.2)))

noncomputable def page_view_boxOf (v1 : Page_view) (i1 : Int) : Option (Box × Int) := fixp page_view_boxOf_body (v1, i1)

noncomputable def page_Check_L1 (d1 : Doc) (i : Int) (s : (GMap Str Bool)) : Option (Res (GMap Str Bool) (Res (GMap Str Bool) Int)) :=
 need (inR d1.Nodes i) <|
 bnd (gx d1.Nodes i) fun v1 =>
 Option.bind (page_checkNode v1 (s.getD v1.Id false)) fun e1 =>
 bif !decide (e1 = 0) then (
  some (Res.ab (Res.ab e1)))
 else (
  some (Res.nx (s.set v1.Id true)))

noncomputable def page_Check_L2 (d1 : Doc) (p1 : Page_view) (i : Int) (s : (GMap Str Bool)) : Option (Res (GMap Str Bool) (Res (GMap Str Bool) Int)) :=
 need (inR d1.Edges i) <|
 bnd (gx d1.Edges i) fun v3 =>
 Option.bind (page_view_checkEdge p1 v3 (s.getD v3.Id false)) fun e3 =>
 bif !decide (e3 = 0) then (
  some (Res.ab (Res.ab e3)))
 else (
  some (Res.nx (s.set v3.Id true)))

noncomputable def page_Check_L3 (p1 : Page_view) (i : Int) (s : Unit) : Option (Res Unit (Res Unit Int)) :=
 Option.bind (page_view_boxOf p1 i) fun r1 =>
 bif !decide (r1.2 = 0) then (
  some (Res.ab (Res.ab r1.2)))
 else (
  some (Res.nx ()))

/-- page.Check -/
noncomputable def page_Check (d1 : Doc) : Option Int :=
 bif (decide (500 < (d1.Nodes.length : Int))) || (decide (1000 < (d1.Edges.length : Int))) then (
  some 4)
 else (
  bnd ((GMap.nil : (GMap Str Bool))) fun known1 =>
  bindR (σ := (GMap Str Bool)) (ρ := Int) (
   rforE (d1.Nodes.length : Int) (page_Check_L1 d1) (fun s => Res.nx s) known1) fun j_3 =>
  Option.bind (page_viewOf d1) fun v2 =>
  Option.bind v2 fun p1 =>
  Option.bind (page_view_checkGroups p1) fun e2 =>
  bif !decide (e2 = 0) then (
   some e2)
  else (
   bindR (σ := (GMap Str Bool)) (ρ := Int) (
    rforE (d1.Edges.length : Int) (page_Check_L2 d1 p1) (fun s => Res.nx s) j_3) fun j_15 =>
   bindR (σ := Unit) (ρ := Int) (
    rforE (d1.Nodes.length : Int) (page_Check_L3 p1) (fun s => Res.nx s) ()) fun j_23 =>
   some 0))

/-- drawlaw1.pages -/
noncomputable def law_pages  : Option Bool :=
 Option.bind (page_Check (⟨([] : (List DNode)), ([] : (List DEdge))⟩ : Doc)) fun r1 =>
 Option.bind (gd ((decide (r1 = 0))) (page_Check (⟨[(⟨Str.nil, (0 : Int), (⟨(0 : Int), (0 : Int), (0 : Int), (0 : Int)⟩ : Box), Str.nil, Str.nil, Str.nil, false⟩ : DNode)], ([] : (List DEdge))⟩ : Doc))) fun r2 =>
 some ((decide (r1 = 0)) && (decide (r2 = 5)))

noncomputable def ref_IsBelow_L1 (d1 : Doc) (group1 : Str) (s5_ : Str) : Option (Step Str (Res Unit Bool)) :=
 bif !decide (s5_ = Str.nil) then (
  bif decide (s5_ = group1) then (
   some (Step.done (Res.ab true)))
  else (
   Option.bind (ref_NodeAt d1 s5_) fun r2 =>
   need (inR d1.Nodes r2) <|
   bnd ((gx d1.Nodes r2).Parent) fun p2 =>
   some (Step.again p2)))
 else (
  some (Step.done (Res.nx ())))

/-- drawref1.IsBelow -/
noncomputable def ref_IsBelow (d1 : Doc) (id1 : Str) (group1 : Str) : Option Bool :=
 Option.bind (ref_NodeAt d1 id1) fun r1 =>
 need (inR d1.Nodes r1) <|
 bnd ((gx d1.Nodes r1).Parent) fun p1 =>
 bindR (σ := Unit) (ρ := Bool) (
  loop (ref_IsBelow_L1 d1 group1) p1) fun j_4 =>
 some false

/-- drawref1.Touched$1 -/
noncomputable def ref_Touched_1 (g1 : Str) (c0_1 : DNode) (c1_1 : Doc) : Option Bool :=
 Option.bind (gd (!(decide (c0_1.Id = g1))) (ref_IsBelow c1_1 c0_1.Id g1)) fun r1 =>
 some ((decide (c0_1.Id = g1)) || r1)

noncomputable def slices_IndexFunc_string_L1 (f1 : (Str → Option Bool)) (s1 : (List Str)) (i : Int) (s : Unit) : Option (Res Unit (Res Unit Int)) :=
 need (inR s1 i) <|
 Option.bind (f1 (gx s1 i)) fun r1 =>
 bif r1 then (
  some (Res.ab (Res.ab i)))
 else (
  some (Res.nx ()))

/-- slices.IndexFunc[[]string,string] -/
noncomputable def slices_IndexFunc_string (s1 : (List Str)) (f1 : (Str → Option Bool)) : Option Int :=
 bindR (σ := Unit) (ρ := Int) (
  rforE (s1.length : Int) (slices_IndexFunc_string_L1 f1 s1) (fun s => Res.nx s) ()) fun j_1 =>
 some (-1)

/-- slices.ContainsFunc[[]string,string] -/
noncomputable def slices_ContainsFunc_string (s1 : (List Str)) (f1 : (Str → Option Bool)) : Option Bool :=
 Option.bind (slices_IndexFunc_string s1 f1) fun r1 =>
 some (decide (0 ≤ r1))

noncomputable def ref_Touched_L1 (d1 : Doc) (ids1 : (List Str)) (i : Int) (s : (GMap Str Bool)) : Option (GMap Str Bool) :=
 need (inR d1.Nodes i) <|
 bnd (gx d1.Nodes i) fun v1 =>
 Option.bind (slices_ContainsFunc_string ids1 (fun x0 => ref_Touched_1 x0 v1 d1)) fun r1 =>
 some (s.set v1.Id r1)

/-- drawref1.Touched -/
noncomputable def ref_Touched (d1 : Doc) (ids1 : (List Str)) : Option (GMap Str Bool) :=
 bnd ((GMap.nil : (GMap Str Bool))) fun m1 =>
 Option.bind (α := (GMap Str Bool)) (
  rfor (d1.Nodes.length : Int) (ref_Touched_L1 d1 ids1) m1) fun j_2 =>
 some j_2

/-- drawlaw1.MovesGoBack$1$1 -/
noncomputable def law_MovesGoBack_1_1 (n1 : DNode) (c0_1 : (GMap Str Bool)) (c1_1 : Doc) : Option Bool :=
 Option.bind (gd ((!(c0_1.getD n1.Id false))) (ref_NodeAt c1_1 n1.Id)) fun r1 =>
 need ((!(c0_1.getD n1.Id false)) = true → inR c1_1.Nodes r1) <|
 some ((!(c0_1.getD n1.Id false)) && (!decide ((gx c1_1.Nodes r1) = n1)))

/-- drawlaw1.MovesGoBack$1 -/
noncomputable def law_MovesGoBack_1 (x1 : Doc) (c0_1 : Doc) (c1_1 : (GMap Str Bool)) : Option Bool :=
 Option.bind (gd ((decide ((x1.Nodes.length : Int) = (c0_1.Nodes.length : Int)))) (slices_ContainsFunc_Node c0_1.Nodes (fun x0 => law_MovesGoBack_1_1 x0 c1_1 x1))) fun r1 =>
 some ((decide ((x1.Nodes.length : Int) = (c0_1.Nodes.length : Int))) && (!r1))

/-- page.look -/
noncomputable def page_look (d1 : Doc) : Option ((Option Page_view) × Int) :=
 Option.bind (page_Check d1) fun e1 =>
 bif !decide (e1 = 0) then (
  some ((none : (Option Page_view)), e1))
 else (
  Option.bind (page_viewOf d1) fun r1 =>
  Option.bind r1 fun p1 =>
  some ((some p1), 0))

noncomputable def page_selected_L1 (v2 : Page_view) (ids1 : (List Str)) (i : Int) (s : (List Bool)) : Option (Res (List Bool) (Res (List Bool) ((Option Page_view) × (List Int) × Int))) :=
 need (inR ids1 i) <|
 bnd (v2.number.getD (gx ids1 i) (0 : Int)) fun k1 =>
 bif !(v2.number.has (gx ids1 i)) then (
  some (Res.ab (Res.ab ((none : (Option Page_view)), ([] : (List Int)), 10))))
 else (
  need (inR s k1) <|
  bif gx s k1 then (
   some (Res.ab (Res.ab ((none : (Option Page_view)), ([] : (List Int)), 6))))
  else (
   need (inR s k1) <|
   some (Res.nx (s.set k1.toNat true))))

noncomputable def page_selected_L3 (d1 : Doc) (v2 : Page_view) (j_7 : (List Bool)) (s24_ : (Bool × DNode)) : Option (Step (Bool × DNode) Bool) :=
 bif !decide (s24_.2.Parent = Str.nil) then (
  bnd (v2.number.getD s24_.2.Parent (0 : Int)) fun k2 =>
  need (s24_.1 = false → inR j_7 k2) <|
  bnd (s24_.1 || (gx j_7 k2)) fun under1 =>
  need (inR d1.Nodes k2) <|
  bnd (gx d1.Nodes k2) fun v4 =>
  some (Step.again (under1, v4)))
 else (
  some (Step.done s24_.1))

noncomputable def page_selected_L2 (d1 : Doc) (v2 : Page_view) (j_7 : (List Bool)) (i : Int) (s : (List Int)) : Option (List Int) :=
 need (inR d1.Nodes i) <|
 bnd (gx d1.Nodes i) fun v3 =>
 Option.bind (α := Bool) (
  loop (page_selected_L3 d1 v2 j_7) (false, v3)) fun j_23 =>
 need (inR j_7 i) <|
 bif (gx j_7 i) && (!j_23) then (
  need (room (s.length + [i].length)) <|
  some (s ++ [i]))
 else (
  some s)

/-- page.selected -/
noncomputable def page_selected (d1 : Doc) (ids1 : (List Str)) : Option ((Option Page_view) × (List Int) × Int) :=
 Option.bind (page_look d1) fun r1 =>
 bif !decide (r1.2 = 0) then (
  some ((none : (Option Page_view)), ([] : (List Int)), r1.2))
 else (
  bnd ((d1.Nodes.length : Int)) fun v1 =>
  need (0 ≤ v1 ∧ v1 ≤ v1 ∧ v1 ≤ 1073741824) <|
  bnd (List.replicate v1.toNat false) fun chosen1 =>
  Option.bind r1.1 fun v2 =>
  bindR (σ := (List Bool)) (ρ := ((Option Page_view) × (List Int) × Int)) (
   rforE (ids1.length : Int) (page_selected_L1 v2 ids1) (fun s => Res.nx s) chosen1) fun j_7 =>
  Option.bind (α := (List Int)) (
   rfor (d1.Nodes.length : Int) (page_selected_L2 d1 v2 j_7) ([] : List Int)) fun j_17 =>
  some ((some v2), j_17, 0))

noncomputable def page_view_below_L1 (self : (Page_view × Int × (List Bool)) → Option (List Bool)) (x : (Page_view × Int × (List Bool))) (v2 : (List Int)) (i : Int) (s : (List Bool)) : Option (List Bool) :=
 need (inR v2 i) <|
 Option.bind (self (x.1, (gx v2 i), s)) fun r1 =>
 some r1

/-- (*page.view).below -/
noncomputable def page_view_below_body (self : (Page_view × Int × (List Bool)) → Option (List Bool)) (x : (Page_view × Int × (List Bool))) : Option (List Bool) :=
 need (inR x.2.2 x.2.1) <|
 bnd (x.2.2.set x.2.1.toNat true) fun marks2 =>
 need (inR x.1.d.Nodes x.2.1) <|
 bnd (x.1.members.getD ((gx x.1.d.Nodes x.2.1).Id) ([] : (List Int))) fun v2 =>
 Option.bind (α := (List Bool)) (
  rfor (v2.length : Int) (page_view_below_L1 self x v2) marks2) fun j_5 =>
 some j_5

noncomputable def page_view_below (v1 : Page_view) (k1 : Int) (marks1 : (List Bool)) : Option (List Bool) := fixp page_view_below_body (v1, k1, marks1)

noncomputable def page_view_marks_L1 (s1 : Page_step) (v1 : Page_view) (i : Int) (s : (List Bool)) : Option (List Bool) :=
 need (inR s1.roots i) <|
 Option.bind (page_view_below v1 (gx s1.roots i) s) fun r1 =>
 some r1

/-- (*page.view).marks -/
noncomputable def page_view_marks (v1 : Page_view) (s1 : Page_step) : Option (List Bool) :=
 bnd ((v1.d.Nodes.length : Int)) fun v2 =>
 need (0 ≤ v2 ∧ v2 ≤ v2 ∧ v2 ≤ 1073741824) <|
 bnd (List.replicate v2.toNat false) fun marks1 =>
 Option.bind (α := (List Bool)) (
  rfor (s1.roots.length : Int) (page_view_marks_L1 s1 v1) marks1) fun j_4 =>
 some j_4

/-- page.far -/
noncomputable def page_far (n1 : Int) : Option Bool :=
 some ((decide (n1 < (-2000000))) || (decide (2000000 < n1)))

/-- slices.Clone[[]api.Node,api.Node] -/
noncomputable def slices_Clone_Node (s1 : (List DNode)) : Option (List DNode) :=
 nilc s1 (
  some ([] : List DNode)) (
  need (room (([] : (List DNode)).length + s1.length)) <|
  bnd (([] : (List DNode)) ++ s1) fun v1 =>
  some v1)

/-- slices.Clone[[]api.Edge,api.Edge] -/
noncomputable def slices_Clone_Edge (s1 : (List DEdge)) : Option (List DEdge) :=
 nilc s1 (
  some ([] : List DEdge)) (
  need (room (([] : (List DEdge)).length + s1.length)) <|
  bnd (([] : (List DEdge)) ++ s1) fun v1 =>
  some v1)

/-- slices.Clone[[]api.Point,api.Point] -/
noncomputable def slices_Clone_Point (s1 : (List Point)) : Option (List Point) :=
 nilc s1 (
  some ([] : List Point)) (
  need (room (([] : (List Point)).length + s1.length)) <|
  bnd (([] : (List Point)) ++ s1) fun v1 =>
  some v1)

noncomputable def page_cloned_L1  (i : Int) (s : (List DEdge)) : Option (List DEdge) :=
 need (inR s i) <|
 Option.bind (slices_Clone_Point ((gx s i).Bends)) fun r3 =>
 need (inR s i) <|
 some (s.set i.toNat { gx s i with Bends := r3 })

/-- page.cloned -/
noncomputable def page_cloned (d1 : Doc) : Option Doc :=
 bnd ((⟨([] : (List DNode)), ([] : (List DEdge))⟩ : Doc)) fun v1 =>
 Option.bind (slices_Clone_Node d1.Nodes) fun r1 =>
 Option.bind (slices_Clone_Edge d1.Edges) fun r2 =>
 Option.bind (α := (List DEdge)) (
  rfor (r2.length : Int) page_cloned_L1 r2) fun j_4 =>
 some ({ d1 with Nodes := r1, Edges := j_4 })


noncomputable def page_view_shift_L1 (dx1 : Int) (dy1 : Int) (marks1 : (List Bool)) (i : Int) (s : (List DNode)) : Option (List DNode) :=
 need (inR s i) <|
 need (inR marks1 i) <|
 bif (gx marks1 i) && (!decide (((gx s i).Kind) = 6)) then (
  bnd (W (((gx s i).Box.X) + dx1)) fun v2 =>
  bnd (W (((gx s i).Box.Y) + dy1)) fun v3 =>
  need (inR (s.set i.toNat { gx s i with Box := { (gx s i).Box with X := v2 } }) i) <|
  need (inR (s.set i.toNat { gx s i with Box := { (gx s i).Box with X := v2 } }) i) <|
  need (inR (s.set i.toNat { gx s i with Box := { (gx s i).Box with X := v2 } }) i) <|
  need (inR (s.set i.toNat { gx s i with Box := { (gx s i).Box with X := v2 } }) i) <|
  some ((s.set i.toNat { gx s i with Box := { (gx s i).Box with X := v2 } }).set i.toNat { gx (s.set i.toNat { gx s i with Box := { (gx s i).Box with X := v2 } }) i with Box := { (gx (s.set i.toNat { gx s i with Box := { (gx s i).Box with X := v2 } }) i).Box with Y := v3 } }))
 else (
  some s)

noncomputable def page_view_shift_L3 (dx1 : Int) (dy1 : Int) (i : Int) (s : (List Point)) : Option (List Point) :=
 need (inR s i) <|
 need (inR s i) <|
 bnd ((⟨W (((gx s i).X) + dx1), W (((gx s i).Y) + dy1)⟩ : Point)) fun v4 =>
 need (inR s i) <|
 some (s.set i.toNat v4)

noncomputable def page_view_shift_L2 (v1 : Page_view) (dx1 : Int) (dy1 : Int) (marks1 : (List Bool)) (i : Int) (s : (List DEdge)) : Option (List DEdge) :=
 need (inR s i) <|
 need (inR s i) <|
 bnd ((gx s i).Bends) fun c1 =>
 need (inR marks1 (v1.number.getD ((gx s i).From.Node) (0 : Int))) <|
 need ((gx marks1 (v1.number.getD ((gx s i).From.Node) (0 : Int))) = true → inR marks1 (v1.number.getD ((gx s i).To.Node) (0 : Int))) <|
 bif (gx marks1 (v1.number.getD ((gx s i).From.Node) (0 : Int))) && (gx marks1 (v1.number.getD ((gx s i).To.Node) (0 : Int))) then (
  Option.bind (α := (List Point)) (
   rfor (c1.length : Int) (page_view_shift_L3 dx1 dy1) c1) fun j_24 =>
  some (s.set i.toNat ({ gx s i with Bends := j_24 })))
 else (
  some (s.set i.toNat ({ gx s i with Bends := c1 })))

/-- (*page.view).shift -/
noncomputable def page_view_shift (v1 : Page_view) (d1 : Doc) (marks1 : (List Bool)) (dx1 : Int) (dy1 : Int) : Option ((List DNode) × (List DEdge)) :=
 Option.bind (α := (List DNode)) (
  rfor (d1.Nodes.length : Int) (page_view_shift_L1 dx1 dy1 marks1) d1.Nodes) fun j_1 =>
 Option.bind (α := (List DEdge)) (
  rfor (d1.Edges.length : Int) (page_view_shift_L2 v1 dx1 dy1 marks1) d1.Edges) fun j_14 =>
 some (j_1, j_14)

noncomputable def page_view_moved_L2 (v1 : Page_view) (marks1 : (List Bool)) (i : Int) (s : Unit) : Option (Res Unit (Res Unit (Res Unit (Doc × Int)))) :=
 need (inR v1.d.Nodes i) <|
 bnd (gx v1.d.Nodes i) fun v4 =>
 need (inR marks1 i) <|
 bif (gx marks1 i) && v4.Locked then (
  bnd ((⟨([] : (List DNode)), ([] : (List DEdge))⟩ : Doc)) fun v5 =>
  some (Res.ab (Res.ab (Res.ab (v5, 12)))))
 else (
  some (Res.nx ()))

noncomputable def page_view_moved_L1 (v1 : Page_view) (steps1 : (List Page_step)) (i : Int) (s : Unit) : Option (Res Unit (Res Unit (Doc × Int))) :=
 need (inR steps1 i) <|
 bnd (gx steps1 i) fun v3 =>
 bif (decide (v3.dx = 0)) && (decide (v3.dy = 0)) then (
  some (Res.nx ()))
 else (
  Option.bind (page_view_marks v1 v3) fun marks1 =>
  rforE (v1.d.Nodes.length : Int) (page_view_moved_L2 v1 marks1) (fun s => Res.nx s) ())

noncomputable def page_view_moved_L3 (steps1 : (List Page_step)) (i : Int) (s : Unit) : Option (Res Unit (Res Unit (Doc × Int))) :=
 need (inR steps1 i) <|
 bnd (gx steps1 i) fun v6 =>
 Option.bind (page_far v6.dx) fun r1 =>
 Option.bind (gd (!r1) (page_far v6.dy)) fun r2 =>
 bif r1 || r2 then (
  bnd ((⟨([] : (List DNode)), ([] : (List DEdge))⟩ : Doc)) fun v7 =>
  some (Res.ab (Res.ab (v7, 3))))
 else (
  some (Res.nx ()))

noncomputable def page_view_moved_L4 (r3 : Doc) (v1 : Page_view) (steps1 : (List Page_step)) (i : Int) (s : ((List DNode) × (List DEdge))) : Option ((List DNode) × (List DEdge)) :=
 need (inR steps1 i) <|
 bnd (gx steps1 i) fun v8 =>
 Option.bind (page_view_marks v1 v8) fun r4 =>
 Option.bind (page_view_shift v1 ({ r3 with Nodes := s.1, Edges := s.2 }) r4 v8.dx v8.dy) fun r5 =>
 some (r5.1, r5.2)

/-- (*page.view).moved -/
noncomputable def page_view_moved (v1 : Page_view) (steps1 : (List Page_step)) : Option (Doc × Int) :=
 bnd ((⟨([] : (List DNode)), ([] : (List DEdge))⟩ : Doc)) fun v2 =>
 bindR (σ := Unit) (ρ := (Doc × Int)) (
  rforE (steps1.length : Int) (page_view_moved_L1 v1 steps1) (fun s => Res.nx s) ()) fun j_2 =>
 bindR (σ := Unit) (ρ := (Doc × Int)) (
  rforE (steps1.length : Int) (page_view_moved_L3 steps1) (fun s => Res.nx s) ()) fun j_18 =>
 Option.bind (page_cloned v1.d) fun r3 =>
 Option.bind (α := ((List DNode) × (List DEdge))) (
  rfor (steps1.length : Int) (page_view_moved_L4 r3 v1 steps1) (r3.Nodes, r3.Edges)) fun j_29 =>
 Option.bind (page_Check ({ r3 with Nodes := j_29.1, Edges := j_29.2 })) fun e1 =>
 bif !decide (e1 = 0) then (
  bnd ((⟨([] : (List DNode)), ([] : (List DEdge))⟩ : Doc)) fun v9 =>
  some (v9, e1))
 else (
  bnd ({ r3 with Nodes := j_29.1, Edges := j_29.2 }) fun v10 =>
  some (v10, 0))

/-- page.Move -/
noncomputable def page_Move (d1 : Doc) (ids1 : (List Str)) (dx1 : Int) (dy1 : Int) : Option (Doc × Int) :=
 bnd ((⟨([] : (List DNode)), ([] : (List DEdge))⟩ : Doc)) fun v1 =>
 Option.bind (page_selected d1 ids1) fun r1 =>
 bif !decide (r1.2.2 = 0) then (
  bnd ((⟨([] : (List DNode)), ([] : (List DEdge))⟩ : Doc)) fun v2 =>
  some (v2, r1.2.2))
 else (
  Option.bind r1.1 fun v3 =>
  Option.bind (page_view_moved v3 [(⟨r1.2.1, dx1, dy1⟩ : Page_step)]) fun r2 =>
  some (r2.1, r2.2))

noncomputable def slices_Equal_Node_L1 (s1_1 : (List DNode)) (s2_1 : (List DNode)) (i : Int) (s : Unit) : Option (Res Unit (Res Unit Bool)) :=
 need (inR s1_1 i) <|
 need (inR s2_1 i) <|
 bif !decide ((gx s1_1 i) = (gx s2_1 i)) then (
  some (Res.ab (Res.ab false)))
 else (
  some (Res.nx ()))

/-- slices.Equal[[]api.Node,api.Node] -/
noncomputable def slices_Equal_Node (s1_1 : (List DNode)) (s2_1 : (List DNode)) : Option Bool :=
 bif !decide ((s1_1.length : Int) = (s2_1.length : Int)) then (
  some false)
 else (
  bindR (σ := Unit) (ρ := Bool) (
   rforE (s1_1.length : Int) (slices_Equal_Node_L1 s1_1 s2_1) (fun s => Res.nx s) ()) fun j_2 =>
  some true)

noncomputable def slices_EqualFunc_Edge_L1 (eq1 : (DEdge → DEdge → Option Bool)) (s1_1 : (List DEdge)) (s2_1 : (List DEdge)) (i : Int) (s : Unit) : Option (Res Unit (Res Unit Bool)) :=
 need (inR s1_1 i) <|
 bnd (gx s1_1 i) fun v1 =>
 need (inR s2_1 i) <|
 bnd (gx s2_1 i) fun v2 =>
 Option.bind (eq1 v1 v2) fun r1 =>
 bif !r1 then (
  some (Res.ab (Res.ab false)))
 else (
  some (Res.nx ()))

/-- slices.EqualFunc[[]api.Edge,[]api.Edge,api.Edge,api.Edge] -/
noncomputable def slices_EqualFunc_Edge (s1_1 : (List DEdge)) (s2_1 : (List DEdge)) (eq1 : (DEdge → DEdge → Option Bool)) : Option Bool :=
 bif !decide ((s1_1.length : Int) = (s2_1.length : Int)) then (
  some false)
 else (
  bindR (σ := Unit) (ρ := Bool) (
   rforE (s1_1.length : Int) (slices_EqualFunc_Edge_L1 eq1 s1_1 s2_1) (fun s => Res.nx s) ()) fun j_2 =>
  some true)

noncomputable def slices_Equal_Point_L1 (s1_1 : (List Point)) (s2_1 : (List Point)) (i : Int) (s : Unit) : Option (Res Unit (Res Unit Bool)) :=
 need (inR s1_1 i) <|
 need (inR s2_1 i) <|
 bif !decide ((gx s1_1 i) = (gx s2_1 i)) then (
  some (Res.ab (Res.ab false)))
 else (
  some (Res.nx ()))

/-- slices.Equal[[]api.Point,api.Point] -/
noncomputable def slices_Equal_Point (s1_1 : (List Point)) (s2_1 : (List Point)) : Option Bool :=
 bif !decide ((s1_1.length : Int) = (s2_1.length : Int)) then (
  some false)
 else (
  bindR (σ := Unit) (ρ := Bool) (
   rforE (s1_1.length : Int) (slices_Equal_Point_L1 s1_1 s2_1) (fun s => Res.nx s) ()) fun j_2 =>
  some true)

/-- drawref1.SameDoc$1 -/
noncomputable def ref_SameDoc_1 (x1 : DEdge) (y1 : DEdge) : Option Bool :=
 Option.bind (gd ((((decide (x1.Id = y1.Id)) && (decide (x1.From = y1.From))) && (decide (x1.To = y1.To)))) (slices_Equal_Point x1.Bends y1.Bends)) fun r1 =>
 some ((((((decide (x1.Id = y1.Id)) && (decide (x1.From = y1.From))) && (decide (x1.To = y1.To))) && r1) && (decide (x1.Text = y1.Text))) && (decide (x1.Class = y1.Class)))

/-- drawref1.SameDoc -/
noncomputable def ref_SameDoc (a1 : Doc) (b1 : Doc) : Option Bool :=
 Option.bind (slices_Equal_Node a1.Nodes b1.Nodes) fun r1 =>
 Option.bind (gd (r1) (slices_EqualFunc_Edge a1.Edges b1.Edges ref_SameDoc_1)) fun r2 =>
 some (r1 && r2)

/-- (*page.view).box -/
noncomputable def page_view_box (v1 : Page_view) (i1 : Int) : Option Box :=
 bnd ((⟨(0 : Int), (0 : Int), (0 : Int), (0 : Int)⟩ : Box)) fun v2 =>
 Option.bind (page_view_boxOf v1 i1) fun r1 =>
 some r1.1

noncomputable def page_view_hullOf_L1 (v1 : Page_view) (roots1 : (List Int)) (i : Int) (s : (List Box)) : Option (List Box) :=
 need (inR roots1 i) <|
 Option.bind (page_view_box v1 (gx roots1 i)) fun r1 =>
 need (room (s.length + [r1].length)) <|
 some (s ++ [r1])

/-- (*page.view).hullOf -/
noncomputable def page_view_hullOf (v1 : Page_view) (roots1 : (List Int)) : Option (Box × Int) :=
 bnd ((⟨(0 : Int), (0 : Int), (0 : Int), (0 : Int)⟩ : Box)) fun v2 =>
 Option.bind (α := (List Box)) (
  rfor (roots1.length : Int) (page_view_hullOf_L1 v1 roots1) ([] : List Box)) fun j_2 =>
 Option.bind (geom_Hull j_2) fun r2 =>
 some (r2.1, r2.2)

noncomputable def page_Align_L1 (r1 : ((Option Page_view) × (List Int) × Int)) (r2 : (Box × Int)) (v3 : Page_view) (how1 : Int) (i : Int) (s : (List Page_step)) : Option (List Page_step) :=
 need (inR r1.2.1 i) <|
 bnd (gx r1.2.1 i) fun k1 =>
 Option.bind (page_view_box v3 k1) fun r3 =>
 bnd ((⟨[k1], (0 : Int), (0 : Int)⟩ : Page_step)) fun v6 =>
 Option.bind (α := Page_step) (
  bif decide (how1 = 1) then (
   bnd (W (r2.1.X - r3.X)) fun v7 =>
   some ({ v6 with dx := v7 }))
  else (
   bif decide (how1 = 2) then (
    bnd (W ((W (r2.1.X + ((W (r2.1.W_ - r3.W_)).tdiv 2))) - r3.X)) fun v8 =>
    some ({ v6 with dx := v8 }))
   else (
    bif decide (how1 = 3) then (
     bnd (W ((W ((W (r2.1.X + r2.1.W_)) - r3.X)) - r3.W_)) fun v9 =>
     some ({ v6 with dx := v9 }))
    else (
     bif decide (how1 = 4) then (
      bnd (W (r2.1.Y - r3.Y)) fun v10 =>
      some ({ v6 with dy := v10 }))
     else (
      bif decide (how1 = 5) then (
       bnd (W ((W (r2.1.Y + ((W (r2.1.H - r3.H)).tdiv 2))) - r3.Y)) fun v11 =>
       some ({ v6 with dy := v11 }))
      else (
       bnd (W ((W ((W (r2.1.Y + r2.1.H)) - r3.Y)) - r3.H)) fun v12 =>
       some ({ v6 with dy := v12 }))))))) fun j_19 =>
 need (room (s.length + [j_19].length)) <|
 some (s ++ [j_19])

/-- page.Align -/
noncomputable def page_Align (d1 : Doc) (ids1 : (List Str)) (how1 : Int) : Option (Doc × Int) :=
 bnd ((⟨([] : (List DNode)), ([] : (List DEdge))⟩ : Doc)) fun v1 =>
 Option.bind (page_selected d1 ids1) fun r1 =>
 bif !decide (r1.2.2 = 0) then (
  bnd ((⟨([] : (List DNode)), ([] : (List DEdge))⟩ : Doc)) fun v2 =>
  some (v2, r1.2.2))
 else (
  Option.bind r1.1 fun v3 =>
  Option.bind (page_view_hullOf v3 r1.2.1) fun r2 =>
  bif !decide (r2.2 = 0) then (
   bnd ((⟨([] : (List DNode)), ([] : (List DEdge))⟩ : Doc)) fun v4 =>
   some (v4, r2.2))
  else (
   bif (decide (how1 < 1)) || (decide (6 < how1)) then (
    bnd ((⟨([] : (List DNode)), ([] : (List DEdge))⟩ : Doc)) fun v5 =>
    some (v5, 1))
   else (
    Option.bind (α := (List Page_step)) (
     rfor (r1.2.1.length : Int) (page_Align_L1 r1 r2 v3 how1) ([] : List Page_step)) fun j_11 =>
    Option.bind (page_view_moved v3 j_11) fun r4 =>
    some (r4.1, r4.2))))

/-- page.Spread$1 -/
noncomputable def page_Spread_1 (k1 : Int) (c0_1 : (Option Page_view)) (c1_1 : Bool) : Option (Int × Int × Int) :=
 Option.bind c0_1 fun p1 =>
 Option.bind (page_view_box p1 k1) fun r1 =>
 bif c1_1 then (
  some (r1.Y, r1.H, r1.X))
 else (
  some (r1.X, r1.W_, r1.Y))

/-- slices.Clone[[]int,int] -/
noncomputable def slices_Clone_int (s1 : (List Int)) : Option (List Int) :=
 nilc s1 (
  some ([] : List Int)) (
  need (room (([] : (List Int)).length + s1.length)) <|
  bnd (([] : (List Int)) ++ s1) fun v1 =>
  some v1)

/-- cmp.isNaN[int] -/
noncomputable def cmp_isNaN_int (x1 : Int) : Option Bool :=
 some (!decide (x1 = x1))

/-- cmp.Compare[int] -/
noncomputable def cmp_Compare_int (x1 : Int) (y1 : Int) : Option Int :=
 Option.bind (cmp_isNaN_int x1) fun xNaN1 =>
 Option.bind (cmp_isNaN_int y1) fun yNaN1 =>
 bif xNaN1 then (
  bif yNaN1 then (
   some 0)
  else (
   some (-1)))
 else (
  bif yNaN1 then (
   some 1)
  else (
   bif decide (x1 < y1) then (
    some (-1))
   else (
    bif decide (y1 < x1) then (
     some 1)
    else (
     some 0))))

noncomputable def cmp_Or_int_L1 (vals1 : (List Int)) (i : Int) (s : Unit) : Option (Res Unit (Res Unit Int)) :=
 need (inR vals1 i) <|
 bnd (gx vals1 i) fun val1 =>
 bif !decide (val1 = 0) then (
  some (Res.ab (Res.ab val1)))
 else (
  some (Res.nx ()))

/-- cmp.Or[int] -/
noncomputable def cmp_Or_int (vals1 : (List Int)) : Option Int :=
 bindR (σ := Unit) (ρ := Int) (
  rforE (vals1.length : Int) (cmp_Or_int_L1 vals1) (fun s => Res.nx s) ()) fun j_1 =>
 some 0

/-- page.Spread$2 -/
noncomputable def page_Spread_2 (a1 : Int) (b1 : Int) (c0_1 : (Int → Option (Int × Int × Int))) : Option Int :=
 Option.bind (c0_1 a1) fun r1 =>
 Option.bind (c0_1 b1) fun r2 =>
 Option.bind (cmp_Compare_int r1.1 r2.1) fun r3 =>
 Option.bind (cmp_Compare_int r1.2.2 r2.2.2) fun r4 =>
 Option.bind (cmp_Or_int [r3, r4]) fun r5 =>
 some r5

noncomputable def slices_insertionSortCmpFunc_int_L2 (a1 : Int) (cmp1 : (Int → Int → Option Int)) (s5_ : (Int × (List Int))) : Option (Step (Int × (List Int)) (List Int)) :=
 need ((decide (a1 < s5_.1)) = true → inR s5_.2 s5_.1) <|
 need ((decide (a1 < s5_.1)) = true → inR s5_.2 (W (s5_.1 - 1))) <|
 Option.bind (gd ((decide (a1 < s5_.1))) (cmp1 (gx s5_.2 s5_.1) (gx s5_.2 (W (s5_.1 - 1))))) fun r1 =>
 bif (decide (a1 < s5_.1)) && (decide (r1 < 0)) then (
  need (inR s5_.2 (W (s5_.1 - 1))) <|
  bnd (gx s5_.2 (W (s5_.1 - 1))) fun v1 =>
  need (inR s5_.2 s5_.1) <|
  bnd (gx s5_.2 s5_.1) fun v2 =>
  need (inR s5_.2 s5_.1) <|
  need (inR (s5_.2.set s5_.1.toNat v1) (W (s5_.1 - 1))) <|
  bnd ((s5_.2.set s5_.1.toNat v1).set (W (s5_.1 - 1)).toNat v2) fun data2 =>
  bnd (W (s5_.1 - 1)) fun j1 =>
  some (Step.again (j1, data2)))
 else (
  some (Step.done s5_.2))

noncomputable def slices_insertionSortCmpFunc_int_L1 (a1 : Int) (b1 : Int) (cmp1 : (Int → Int → Option Int)) (s2_ : (Int × (List Int))) : Option (Step (Int × (List Int)) (List Int)) :=
 bif decide (s2_.1 < b1) then (
  Option.bind (α := (List Int)) (
   loop (slices_insertionSortCmpFunc_int_L2 a1 cmp1) (s2_.1, s2_.2)) fun j_4 =>
  bnd (W (s2_.1 + 1)) fun i2 =>
  some (Step.again (i2, j_4)))
 else (
  some (Step.done s2_.2))

/-- slices.insertionSortCmpFunc[int] -/
noncomputable def slices_insertionSortCmpFunc_int (data1 : (List Int)) (a1 : Int) (b1 : Int) (cmp1 : (Int → Int → Option Int)) : Option (List Int) :=
 bnd (W (a1 + 1)) fun i1 =>
 loop (slices_insertionSortCmpFunc_int_L1 a1 b1 cmp1) (i1, data1)

noncomputable def slices_swapRangeCmpFunc_int_L1 (a1 : Int) (b1 : Int) (n1 : Int) (s1_ : (Int × (List Int))) : Option (Step (Int × (List Int)) (List Int)) :=
 bif decide (s1_.1 < n1) then (
  need (inR s1_.2 (W (b1 + s1_.1))) <|
  bnd (gx s1_.2 (W (b1 + s1_.1))) fun v1 =>
  need (inR s1_.2 (W (a1 + s1_.1))) <|
  bnd (gx s1_.2 (W (a1 + s1_.1))) fun v2 =>
  need (inR s1_.2 (W (a1 + s1_.1))) <|
  need (inR (s1_.2.set (W (a1 + s1_.1)).toNat v1) (W (b1 + s1_.1))) <|
  bnd ((s1_.2.set (W (a1 + s1_.1)).toNat v1).set (W (b1 + s1_.1)).toNat v2) fun data2 =>
  bnd (W (s1_.1 + 1)) fun i1 =>
  some (Step.again (i1, data2)))
 else (
  some (Step.done s1_.2))

/-- slices.swapRangeCmpFunc[int] -/
noncomputable def slices_swapRangeCmpFunc_int (data1 : (List Int)) (a1 : Int) (b1 : Int) (n1 : Int) (cmp1 : (Int → Int → Option Int)) : Option (List Int) :=
 loop (slices_swapRangeCmpFunc_int_L1 a1 b1 n1) (0, data1)

noncomputable def slices_rotateCmpFunc_int_L1 (m1 : Int) (cmp1 : (Int → Int → Option Int)) (s4_ : (Int × Int × (List Int))) : Option (Step (Int × Int × (List Int)) (Int × (List Int))) :=
 bif !decide (s4_.1 = s4_.2.1) then (
  bif decide (s4_.2.1 < s4_.1) then (
   Option.bind (slices_swapRangeCmpFunc_int s4_.2.2 (W (m1 - s4_.1)) m1 s4_.2.1 cmp1) fun r1 =>
   bnd (W (s4_.1 - s4_.2.1)) fun i2 =>
   some (Step.again (i2, s4_.2.1, r1)))
  else (
   Option.bind (slices_swapRangeCmpFunc_int s4_.2.2 (W (m1 - s4_.1)) (W ((W (m1 + s4_.2.1)) - s4_.1)) s4_.1 cmp1) fun r2 =>
   bnd (W (s4_.2.1 - s4_.1)) fun j2 =>
   some (Step.again (s4_.1, j2, r2))))
 else (
  some (Step.done (s4_.1, s4_.2.2)))

/-- slices.rotateCmpFunc[int] -/
noncomputable def slices_rotateCmpFunc_int (data1 : (List Int)) (a1 : Int) (m1 : Int) (b1 : Int) (cmp1 : (Int → Int → Option Int)) : Option (List Int) :=
 bnd (W (m1 - a1)) fun i1 =>
 bnd (W (b1 - m1)) fun j1 =>
 Option.bind (α := (Int × (List Int))) (
  loop (slices_rotateCmpFunc_int_L1 m1 cmp1) (i1, j1, data1)) fun j_3 =>
 Option.bind (slices_swapRangeCmpFunc_int j_3.2 (W (m1 - j_3.1)) m1 j_3.1 cmp1) fun r3 =>
 some r3

noncomputable def slices_symMergeCmpFunc_int_L1 (x : ((List Int) × Int × Int × Int × (Int → Int → Option Int))) (s4_ : (Int × Int)) : Option (Step (Int × Int) Int) :=
 bif decide (s4_.1 < s4_.2) then (
  bnd (W ((KI.of .u64 (W (s4_.1 + s4_.2))).shr 1).n) fun h1 =>
  need (inR x.1 h1) <|
  need (inR x.1 x.2.1) <|
  Option.bind (x.2.2.2.2 (gx x.1 h1) (gx x.1 x.2.1)) fun r1 =>
  bif decide (r1 < 0) then (
   bnd (W (h1 + 1)) fun i1 =>
   some (Step.again (i1, s4_.2)))
  else (
   some (Step.again (s4_.1, h1))))
 else (
  some (Step.done s4_.1))

noncomputable def slices_symMergeCmpFunc_int_L2 (j_3 : Int) (s13_ : (Int × (List Int))) : Option (Step (Int × (List Int)) (List Int)) :=
 bif decide (s13_.1 < (W (j_3 - 1))) then (
  need (inR s13_.2 (W (s13_.1 + 1))) <|
  bnd (gx s13_.2 (W (s13_.1 + 1))) fun v1 =>
  need (inR s13_.2 s13_.1) <|
  bnd (gx s13_.2 s13_.1) fun v2 =>
  need (inR s13_.2 s13_.1) <|
  need (inR (s13_.2.set s13_.1.toNat v1) (W (s13_.1 + 1))) <|
  bnd ((s13_.2.set s13_.1.toNat v1).set (W (s13_.1 + 1)).toNat v2) fun data2 =>
  bnd (W (s13_.1 + 1)) fun k1 =>
  some (Step.again (k1, data2)))
 else (
  some (Step.done s13_.2))

noncomputable def slices_symMergeCmpFunc_int_L3 (x : ((List Int) × Int × Int × Int × (Int → Int → Option Int))) (s26_ : (Int × Int)) : Option (Step (Int × Int) Int) :=
 bif decide (s26_.1 < s26_.2) then (
  bnd (W ((KI.of .u64 (W (s26_.1 + s26_.2))).shr 1).n) fun h2 =>
  need (inR x.1 x.2.2.1) <|
  need (inR x.1 h2) <|
  Option.bind (x.2.2.2.2 (gx x.1 x.2.2.1) (gx x.1 h2)) fun r2 =>
  bif !(decide (r2 < 0)) then (
   bnd (W (h2 + 1)) fun i2 =>
   some (Step.again (i2, s26_.2)))
  else (
   some (Step.again (s26_.1, h2))))
 else (
  some (Step.done s26_.1))

noncomputable def slices_symMergeCmpFunc_int_L4 (j_25 : Int) (s35_ : (Int × (List Int))) : Option (Step (Int × (List Int)) (List Int)) :=
 bif decide (j_25 < s35_.1) then (
  need (inR s35_.2 (W (s35_.1 - 1))) <|
  bnd (gx s35_.2 (W (s35_.1 - 1))) fun v3 =>
  need (inR s35_.2 s35_.1) <|
  bnd (gx s35_.2 s35_.1) fun v4 =>
  need (inR s35_.2 s35_.1) <|
  need (inR (s35_.2.set s35_.1.toNat v3) (W (s35_.1 - 1))) <|
  bnd ((s35_.2.set s35_.1.toNat v3).set (W (s35_.1 - 1)).toNat v4) fun data3 =>
  bnd (W (s35_.1 - 1)) fun k2 =>
  some (Step.again (k2, data3)))
 else (
  some (Step.done s35_.2))

noncomputable def slices_symMergeCmpFunc_int_L5 (x : ((List Int) × Int × Int × Int × (Int → Int → Option Int))) (n1 : Int) (s51_ : (Int × Int)) : Option (Step (Int × Int) Int) :=
 bif decide (s51_.1 < s51_.2) then (
  bnd (W ((KI.of .u64 (W (s51_.1 + s51_.2))).shr 1).n) fun c1 =>
  need (inR x.1 (W ((W (n1 - 1)) - c1))) <|
  need (inR x.1 c1) <|
  Option.bind (x.2.2.2.2 (gx x.1 (W ((W (n1 - 1)) - c1))) (gx x.1 c1)) fun r3 =>
  bif !(decide (r3 < 0)) then (
   bnd (W (c1 + 1)) fun start2 =>
   some (Step.again (start2, s51_.2)))
  else (
   some (Step.again (s51_.1, c1))))
 else (
  some (Step.done s51_.1))

/-- slices.symMergeCmpFunc[int] -/
noncomputable def slices_symMergeCmpFunc_int_body (self : ((List Int) × Int × Int × Int × (Int → Int → Option Int)) → Option (List Int)) (x : ((List Int) × Int × Int × Int × (Int → Int → Option Int))) : Option (List Int) :=
 bindR (σ := Unit) (ρ := (List Int)) (
  bif decide ((W (x.2.2.1 - x.2.1)) = 1) then (
   Option.bind (α := Int) (
    loop (slices_symMergeCmpFunc_int_L1 x) (x.2.2.1, x.2.2.2.1)) fun j_3 =>
   Option.bind (α := (List Int)) (
    loop (slices_symMergeCmpFunc_int_L2 j_3) (x.2.1, x.1)) fun j_12 =>
   some (Res.ab j_12))
  else (
   some (Res.nx ()))) fun j_1 =>
 bindR (σ := Unit) (ρ := (List Int)) (
  bif decide ((W (x.2.2.2.1 - x.2.2.1)) = 1) then (
   Option.bind (α := Int) (
    loop (slices_symMergeCmpFunc_int_L3 x) (x.2.1, x.2.2.1)) fun j_25 =>
   Option.bind (α := (List Int)) (
    loop (slices_symMergeCmpFunc_int_L4 j_25) (x.2.2.1, x.1)) fun j_34 =>
   some (Res.ab j_34))
  else (
   some (Res.nx ()))) fun j_23 =>
 bnd (W ((KI.of .u64 (W (x.2.1 + x.2.2.2.1))).shr 1).n) fun mid1 =>
 bnd (W (mid1 + x.2.2.1)) fun n1 =>
 Option.bind (α := (Int × Int)) (
  bif decide (mid1 < x.2.2.1) then (
   bnd (W (n1 - x.2.2.2.1)) fun start1 =>
   some (start1, mid1))
  else (
   some (x.2.1, x.2.2.1))) fun j_47 =>
 Option.bind (α := Int) (
  loop (slices_symMergeCmpFunc_int_L5 x n1) (j_47.1, j_47.2)) fun j_50 =>
 bnd (W (n1 - j_50)) fun end1 =>
 Option.bind (α := (List Int)) (
  bif (decide (j_50 < x.2.2.1)) && (decide (x.2.2.1 < end1)) then (
   Option.bind (slices_rotateCmpFunc_int x.1 j_50 x.2.2.1 end1 x.2.2.2.2) fun r4 =>
   some r4)
  else (
   some x.1)) fun j_60 =>
 Option.bind (α := (List Int)) (
  bif (decide (x.2.1 < j_50)) && (decide (j_50 < mid1)) then (
   Option.bind (self (j_60, x.2.1, j_50, mid1, x.2.2.2.2)) fun r5 =>
   some r5)
  else (
   some j_60)) fun j_63 =>
 bif (decide (mid1 < end1)) && (decide (end1 < x.2.2.2.1)) then (
  Option.bind (self (j_63, mid1, end1, x.2.2.2.1, x.2.2.2.2)) fun r6 =>
  some r6)
 else (
  some j_63)

noncomputable def slices_symMergeCmpFunc_int (data1 : (List Int)) (a1 : Int) (m1 : Int) (b1 : Int) (cmp1 : (Int → Int → Option Int)) : Option (List Int) := fixp slices_symMergeCmpFunc_int_body (data1, a1, m1, b1, cmp1)

noncomputable def slices_stableCmpFunc_int_L1 (n1 : Int) (cmp1 : (Int → Int → Option Int)) (s2_ : (Int × Int × (List Int))) : Option (Step (Int × Int × (List Int)) (Int × (List Int))) :=
 bif decide (s2_.2.1 ≤ n1) then (
  Option.bind (slices_insertionSortCmpFunc_int s2_.2.2 s2_.1 s2_.2.1 cmp1) fun r1 =>
  bnd (W (s2_.2.1 + 20)) fun b1 =>
  some (Step.again (s2_.2.1, b1, r1)))
 else (
  some (Step.done (s2_.1, s2_.2.2)))

noncomputable def slices_stableCmpFunc_int_L3 (n1 : Int) (s7_ : (Int × (List Int))) (cmp1 : (Int → Int → Option Int)) (s11_ : (Int × Int × (List Int))) : Option (Step (Int × Int × (List Int)) (Int × (List Int))) :=
 bif decide (s11_.2.1 ≤ n1) then (
  Option.bind (slices_symMergeCmpFunc_int s11_.2.2 s11_.1 (W (s11_.1 + s7_.1)) s11_.2.1 cmp1) fun r3 =>
  bnd (W (s11_.2.1 + (W (2 * s7_.1)))) fun b3 =>
  some (Step.again (s11_.2.1, b3, r3)))
 else (
  some (Step.done (s11_.1, s11_.2.2)))

noncomputable def slices_stableCmpFunc_int_L2 (n1 : Int) (cmp1 : (Int → Int → Option Int)) (s7_ : (Int × (List Int))) : Option (Step (Int × (List Int)) (List Int)) :=
 bif decide (s7_.1 < n1) then (
  bnd (W (2 * s7_.1)) fun b2 =>
  Option.bind (α := (Int × (List Int))) (
   loop (slices_stableCmpFunc_int_L3 n1 s7_ cmp1) (0, b2, s7_.2)) fun j_10 =>
  bnd (W (j_10.1 + s7_.1)) fun m1 =>
  Option.bind (α := (List Int)) (
   bif decide (m1 < n1) then (
    Option.bind (slices_symMergeCmpFunc_int j_10.2 j_10.1 m1 n1 cmp1) fun r4 =>
    some r4)
   else (
    some j_10.2)) fun j_16 =>
  bnd (W (s7_.1 * 2)) fun blockSize1 =>
  some (Step.again (blockSize1, j_16)))
 else (
  some (Step.done s7_.2))

/-- slices.stableCmpFunc[int] -/
noncomputable def slices_stableCmpFunc_int (data1 : (List Int)) (n1 : Int) (cmp1 : (Int → Int → Option Int)) : Option (List Int) :=
 Option.bind (α := (Int × (List Int))) (
  loop (slices_stableCmpFunc_int_L1 n1 cmp1) (0, 20, data1)) fun j_1 =>
 Option.bind (slices_insertionSortCmpFunc_int j_1.2 j_1.1 n1 cmp1) fun r2 =>
 loop (slices_stableCmpFunc_int_L2 n1 cmp1) (20, r2)

/-- slices.SortStableFunc[[]int,int] -/
noncomputable def slices_SortStableFunc_int (x1 : (List Int)) (cmp1 : (Int → Int → Option Int)) : Option (List Int) :=
 Option.bind (slices_stableCmpFunc_int x1 (x1.length : Int) cmp1) fun r1 =>
 some r1

/-- geom.Floor -/
noncomputable def geom_Floor (a1 : Int) (b1 : Int) : Option Int :=
 need (0 < b1) <|
 bnd (a1.tdiv b1) fun q1 =>
 need (0 < b1) <|
 Option.bind (α := Int) (
  bif decide ((a1.tmod b1) < 0) then (
   bnd (W (q1 - 1)) fun q2 =>
   some q2)
  else (
   some q1)) fun j_4 =>
 some j_4

noncomputable def page_Spread_L1 (r1 : ((Option Page_view) × (List Int) × Int)) (v4 : (List Int)) (down1 : Bool) (i : Int) (s : Int) : Option Int :=
 need (inR v4 i) <|
 Option.bind ((fun x0 => page_Spread_1 x0 r1.1 down1) (gx v4 i)) fun r5 =>
 bnd (W (s - r5.2.1)) fun free2 =>
 some free2

noncomputable def page_Spread_L2 (n1 : Int) (r1 : ((Option Page_view) × (List Int) × Int)) (r2 : (List Int)) (j_18 : Int) (down1 : Bool) (i : Int) (s : (Int × (GMap Int Int))) : Option (Int × (GMap Int Int)) :=
 need (inR r2 i) <|
 bnd (gx r2 i) fun k1 =>
 Option.bind ((fun x0 => page_Spread_1 x0 r1.1 down1) k1) fun r6 =>
 bif (decide (0 < i)) && (decide (i < (W (n1 - 1)))) then (
  Option.bind (geom_Floor (W (i * j_18)) (W (n1 - 1))) fun r7 =>
  bnd (s.2.set k1 (W ((W (s.1 + r7)) - r6.1))) fun to2 =>
  bnd (W (s.1 + r6.2.1)) fun begin2 =>
  some (begin2, to2))
 else (
  some (s.1, s.2))

noncomputable def page_Spread_L3 (r1 : ((Option Page_view) × (List Int) × Int)) (j_26 : (Int × (GMap Int Int))) (down1 : Bool) (i : Int) (s : (List Page_step)) : Option (List Page_step) :=
 need (inR r1.2.1 i) <|
 bnd (gx r1.2.1 i) fun k2 =>
 bnd ((⟨[k2], j_26.2.getD k2 (0 : Int), (0 : Int)⟩ : Page_step)) fun v5 =>
 Option.bind (α := Page_step) (
  bif down1 then (
   bnd ((⟨[k2], (0 : Int), j_26.2.getD k2 (0 : Int)⟩ : Page_step)) fun v6 =>
   some v6)
  else (
   some v5)) fun j_44 =>
 need (room (s.length + [j_44].length)) <|
 some (s ++ [j_44])

/-- page.Spread -/
noncomputable def page_Spread (d1 : Doc) (ids1 : (List Str)) (down1 : Bool) : Option (Doc × Int) :=
 bnd ((⟨([] : (List DNode)), ([] : (List DEdge))⟩ : Doc)) fun v1 =>
 Option.bind (page_selected d1 ids1) fun r1 =>
 bif !decide (r1.2.2 = 0) then (
  bnd ((⟨([] : (List DNode)), ([] : (List DEdge))⟩ : Doc)) fun v2 =>
  some (v2, r1.2.2))
 else (
  bnd ((r1.2.1.length : Int)) fun n1 =>
  bif decide (n1 < 3) then (
   bnd ((⟨([] : (List DNode)), ([] : (List DEdge))⟩ : Doc)) fun v3 =>
   some (v3, 9))
  else (
   Option.bind (slices_Clone_int r1.2.1) fun order1 =>
   Option.bind (slices_SortStableFunc_int order1 (fun x0 x1 => page_Spread_2 x0 x1 (fun x0 => page_Spread_1 x0 r1.1 down1))) fun r2 =>
   need (inR r2 0) <|
   Option.bind ((fun x0 => page_Spread_1 x0 r1.1 down1) (gx r2 0)) fun r3 =>
   need (inR r2 (W (n1 - 1))) <|
   Option.bind ((fun x0 => page_Spread_1 x0 r1.1 down1) (gx r2 (W (n1 - 1)))) fun r4 =>
   bnd (W (r3.1 + r3.2.1)) fun begin1 =>
   bnd (W (r4.1 - begin1)) fun free1 =>
   need (segR r2.length 1 (W (n1 - 1))) <|
   bnd (seg r2 1 (W (n1 - 1))) fun v4 =>
   Option.bind (α := Int) (
    rfor (v4.length : Int) (page_Spread_L1 r1 v4 down1) free1) fun j_18 =>
   bnd ((GMap.nil : (GMap Int Int))) fun to1 =>
   Option.bind (α := (Int × (GMap Int Int))) (
    rfor (r2.length : Int) (page_Spread_L2 n1 r1 r2 j_18 down1) (begin1, to1)) fun j_26 =>
   Option.bind (α := (List Page_step)) (
    rfor (r1.2.1.length : Int) (page_Spread_L3 r1 j_26 down1) ([] : List Page_step)) fun j_37 =>
   Option.bind r1.1 fun p1 =>
   Option.bind (page_view_moved p1 j_37) fun r8 =>
   some (r8.1, r8.2)))

/-- page.Group$1 -/
noncomputable def page_Group_1 (n1 : DNode) (c0_1 : Str) : Option Bool :=
 some (decide (n1.Id = c0_1))

/-- page.Group$2 -/
noncomputable def page_Group_2 (x1 : DEdge) (c0_1 : Str) : Option Bool :=
 some (decide (x1.Id = c0_1))

noncomputable def page_Group_L1 (d1 : Doc) (r1 : ((Option Page_view) × (List Int) × Int)) (parent1 : Str) (i : Int) (s : Unit) : Option (Res Unit (Res Unit (Doc × Int))) :=
 need (inR r1.2.1 i) <|
 need (inR d1.Nodes (gx r1.2.1 i)) <|
 bif !decide (((gx d1.Nodes (gx r1.2.1 i)).Parent) = parent1) then (
  bnd ((⟨([] : (List DNode)), ([] : (List DEdge))⟩ : Doc)) fun v4 =>
  some (Res.ab (Res.ab (v4, 11))))
 else (
  some (Res.nx ()))

noncomputable def page_Group_L2 (r1 : ((Option Page_view) × (List Int) × Int)) (id1 : Str) (i : Int) (s : (List DNode)) : Option (List DNode) :=
 need (inR r1.2.1 i) <|
 need (inR s (gx r1.2.1 i)) <|
 some (s.set (gx r1.2.1 i).toNat { gx s (gx r1.2.1 i) with Parent := id1 })

/-- page.Group -/
noncomputable def page_Group (d1 : Doc) (ids1 : (List Str)) (id1 : Str) : Option (Doc × Int) :=
 bnd ((⟨([] : (List DNode)), ([] : (List DEdge))⟩ : Doc)) fun v1 =>
 Option.bind (page_selected d1 ids1) fun r1 =>
 bif !decide (r1.2.2 = 0) then (
  bnd ((⟨([] : (List DNode)), ([] : (List DEdge))⟩ : Doc)) fun v2 =>
  some (v2, r1.2.2))
 else (
  bif decide ((r1.2.1.length : Int) = 0) then (
   bnd ((⟨([] : (List DNode)), ([] : (List DEdge))⟩ : Doc)) fun v3 =>
   some (v3, 9))
  else (
   need (inR r1.2.1 0) <|
   need (inR d1.Nodes (gx r1.2.1 0)) <|
   bnd ((gx d1.Nodes (gx r1.2.1 0)).Parent) fun parent1 =>
   bindR (σ := Unit) (ρ := (Doc × Int)) (
    rforE (r1.2.1.length : Int) (page_Group_L1 d1 r1 parent1) (fun s => Res.nx s) ()) fun j_10 =>
   Option.bind (page_isName id1) fun r2 =>
   bif !r2 then (
    bnd ((⟨([] : (List DNode)), ([] : (List DEdge))⟩ : Doc)) fun v5 =>
    some (v5, 5))
   else (
    Option.bind (slices_ContainsFunc_Node d1.Nodes (fun x0 => page_Group_1 x0 id1)) fun r3 =>
    Option.bind (gd (!r3) (slices_ContainsFunc_Edge d1.Edges (fun x0 => page_Group_2 x0 id1))) fun r4 =>
    bif r3 || r4 then (
     bnd ((⟨([] : (List DNode)), ([] : (List DEdge))⟩ : Doc)) fun v6 =>
     some (v6, 6))
    else (
     Option.bind (page_cloned d1) fun r5 =>
     Option.bind (α := (List DNode)) (
      rfor (r1.2.1.length : Int) (page_Group_L2 r1 id1) r5.Nodes) fun j_26 =>
     need (inR r1.2.1 (W ((r1.2.1.length : Int) - 1))) <|
     Option.bind (slices_Insert_Node j_26 (W ((gx r1.2.1 (W ((r1.2.1.length : Int) - 1))) + 1)) [(⟨id1, 6, (⟨(0 : Int), (0 : Int), (0 : Int), (0 : Int)⟩ : Box), Str.nil, Str.nil, parent1, false⟩ : DNode)]) fun r6 =>
     Option.bind (page_Check ({ r5 with Nodes := r6, Edges := r5.Edges })) fun e1 =>
     bif !decide (e1 = 0) then (
      bnd ((⟨([] : (List DNode)), ([] : (List DEdge))⟩ : Doc)) fun v7 =>
      some (v7, e1))
     else (
      bnd ({ r5 with Nodes := r6, Edges := r5.Edges }) fun v8 =>
      some (v8, 0))))))

/-- page.find -/
noncomputable def page_find (d1 : Doc) (id1 : Str) : Option ((Option Page_view) × Int × Int) :=
 Option.bind (page_look d1) fun r1 =>
 bif !decide (r1.2 = 0) then (
  some ((none : (Option Page_view)), 0, r1.2))
 else (
  Option.bind r1.1 fun v1 =>
  bif !(v1.number.has id1) then (
   some ((none : (Option Page_view)), 0, 10))
  else (
   some ((some v1), v1.number.getD id1 (0 : Int), 0)))

/-- slices.Delete[[]api.Node,api.Node] -/
noncomputable def slices_Delete_Node (s1 : (List DNode)) (i1 : Int) (j1 : Int) : Option (List DNode) :=
 need (0 ≤ i1 ∧ i1 ≤ j1 ∧ j1 ≤ (s1.length : Int) ∧ (s1.length : Int) ≤ (s1.length : Int)) <|
 bif decide (i1 = j1) then (
  some s1)
 else (
  need (segR s1.length 0 i1) <|
  need (segR s1.length j1 (s1.length : Int)) <|
  need (i1 ≤ j1) <|
  bnd (s1.take i1.toNat ++ s1.drop j1.toNat ++ s1.drop (i1 + ((s1.length : Int) - j1)).toNat) fun s2 =>
  need (segR s2.length 0 (i1 + ((s1.length : Int) - j1))) <|
  need (segR s2.length 0 (i1 + ((s1.length : Int) - j1))) <|
  need (segR s2.length ((i1 + ((s1.length : Int) - j1)) - 0) (s1.length : Int)) <|
  need ((s1.length : Int) = (s2.length : Int)) <|
  bnd (s2.take ((i1 + ((s1.length : Int) - j1)) - 0).toNat ++ List.replicate (s2.length - ((i1 + ((s1.length : Int) - j1)) - 0).toNat) (⟨Str.nil, (0 : Int), (⟨(0 : Int), (0 : Int), (0 : Int), (0 : Int)⟩ : Box), Str.nil, Str.nil, Str.nil, false⟩ : DNode)) fun s3 =>
  need (segR s3.length 0 (i1 + ((s1.length : Int) - j1))) <|
  some (s3.take (i1 + ((s1.length : Int) - j1)).toNat))

noncomputable def page_Ungroup_L1 (r1 : ((Option Page_view) × Int × Int)) (v5 : (List Int)) (i : Int) (s : (List DNode)) : Option (List DNode) :=
 need (inR v5 i) <|
 need (inR s r1.2.1) <|
 bnd ((gx s r1.2.1).Parent) fun v6 =>
 need (inR s (gx v5 i)) <|
 some (s.set (gx v5 i).toNat { gx s (gx v5 i) with Parent := v6 })

/-- page.Ungroup -/
noncomputable def page_Ungroup (d1 : Doc) (id1 : Str) : Option (Doc × Int) :=
 bnd ((⟨([] : (List DNode)), ([] : (List DEdge))⟩ : Doc)) fun v1 =>
 Option.bind (page_find d1 id1) fun r1 =>
 bif !decide (r1.2.2 = 0) then (
  bnd ((⟨([] : (List DNode)), ([] : (List DEdge))⟩ : Doc)) fun v2 =>
  some (v2, r1.2.2))
 else (
  need (inR d1.Nodes r1.2.1) <|
  bif !decide (((gx d1.Nodes r1.2.1).Kind) = 6) then (
   bnd ((⟨([] : (List DNode)), ([] : (List DEdge))⟩ : Doc)) fun v3 =>
   some (v3, 1))
  else (
   Option.bind (page_cloned d1) fun r2 =>
   Option.bind r1.1 fun v4 =>
   bnd (v4.members.getD id1 ([] : (List Int))) fun v5 =>
   Option.bind (α := (List DNode)) (
    rfor (v5.length : Int) (page_Ungroup_L1 r1 v5) r2.Nodes) fun j_11 =>
   Option.bind (slices_Delete_Node j_11 r1.2.1 (W (r1.2.1 + 1))) fun r3 =>
   bnd ({ r2 with Nodes := r3, Edges := r2.Edges }) fun v7 =>
   some (v7, 0)))

/-- drawlaw1.MovesGoBack -/
noncomputable def law_MovesGoBack (d1 : Doc) (ids1 : (List Str)) (dx1 : Int) (dy1 : Int) (how1 : Int) (id1 : Str) : Option Bool :=
 Option.bind (law_selected d1 ids1) fun r1 =>
 bif !decide (r1 = 0) then (
  Option.bind (law_pages) fun r2 =>
  some r2)
 else (
  Option.bind (ref_Touched d1 ids1) fun r3 =>
  Option.bind (page_Move d1 ids1 dx1 dy1) fun r4 =>
  bindR (σ := Unit) (ρ := Bool) (
   bif decide (r4.2 = 0) then (
    Option.bind (page_Move r4.1 ids1 (W (-dx1)) (W (-dy1))) fun r5 =>
    Option.bind (gd (!(!decide (r5.2 = 0))) (ref_SameDoc r5.1 d1)) fun r6 =>
    Option.bind (gd (!((!decide (r5.2 = 0)) || (!r6))) ((fun x0 => law_MovesGoBack_1 x0 d1 r3) r4.1)) fun r7 =>
    bif ((!decide (r5.2 = 0)) || (!r6)) || (!r7) then (
     some (Res.ab false))
    else (
     some (Res.nx ())))
   else (
    some (Res.nx ()))) fun j_6 =>
  Option.bind (page_Align d1 ids1 how1) fun r8 =>
  Option.bind (gd ((decide (r8.2 = 0))) ((fun x0 => law_MovesGoBack_1 x0 d1 r3) r8.1)) fun r9 =>
  bif (decide (r8.2 = 0)) && (!r9) then (
   some false)
  else (
   Option.bind (page_Spread d1 ids1 (decide ((how1.tmod 2) = 0))) fun r10 =>
   Option.bind (gd ((decide (r10.2 = 0))) ((fun x0 => law_MovesGoBack_1 x0 d1 r3) r10.1)) fun r11 =>
   bif (decide (r10.2 = 0)) && (!r11) then (
    some false)
   else (
    Option.bind (page_Group d1 ids1 id1) fun r12 =>
    bif !decide (r12.2 = 0) then (
     some true)
    else (
     Option.bind (page_Ungroup r12.1 id1) fun r13 =>
     Option.bind (gd ((decide (r13.2 = 0))) (ref_SameDoc r13.1 d1)) fun r14 =>
     some ((decide (r13.2 = 0)) && r14)))))


end Go.DB
