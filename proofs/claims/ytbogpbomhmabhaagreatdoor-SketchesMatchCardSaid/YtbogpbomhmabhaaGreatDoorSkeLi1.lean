/-
  What the functions compute, as plain functions (printed by a program of one's own).
-/
import Derived.Test.YtbogpbomhmabhaaGreatDoorSkeTy
set_option maxRecDepth 100000
set_option linter.unusedSimpArgs false
set_option linter.unusedVariables false
namespace Go.DB
open Go Go.RowKit

/-- strings.Trim -/
noncomputable def strings_Trim (s cs : Str) : Option Str := need ((cs.b.length : Int) < 4294967281 ∧ cs.b.all (fun b => decide (b.toNat < 128)) = true) (some (trimS s cs))

/-- unicode/utf8.ValidString -/
noncomputable def utf8_ValidString (s : Str) : Option Bool := some (validS s)

/-- strings.Repeat -/
noncomputable def strings_Repeat (s : Str) (n : Int) : Option Str := need (s.b.length ≤ 1000 ∧ 0 ≤ n ∧ n ≤ 1000000 ∧ (repeatS s n).b.length ≤ 1000000000) (some (repeatS s n))

/-- (*strings.Builder).String -/
noncomputable def strings_Builder_String (c : Str) : Option Str := need (c.b.length ≤ 70368744177664) (some c)

/-- (*strings.Builder).WriteString -/
noncomputable def strings_Builder_WriteString (c s : Str) : Option Str := need (c.b.length + s.b.length ≤ 70368744177664) (some ⟨c.b ++ s.b⟩)

/-- slices.Grow[[]drawboard/api.Point,drawboard/api.Point] (of nil) -/
noncomputable def slices_Grow_Point (n : Int) : Option (List Point) := need (0 ≤ n ∧ n ≤ 1073741824) (some [])

/-- page.isName -/
noncomputable def page_isName (s1 : Str) : Option Bool :=
 need (((!decide (s1 = Str.nil)) && (decide ((s1.b.length : Int) ≤ 40))) = true → inR s1.b 0) <|
 need (((!decide (s1 = Str.nil)) && (decide ((s1.b.length : Int) ≤ 40))) = true → (decide ((⟨97⟩ : KI .u8).n ≤ (⟨((gx s1.b 0).toNat : Int)⟩ : KI .u8).n)) = true → inR s1.b 0) <|
 Option.bind (gd ((((!decide (s1 = Str.nil)) && (decide ((s1.b.length : Int) ≤ 40))) && ((decide ((⟨97⟩ : KI .u8).n ≤ (⟨((gx s1.b 0).toNat : Int)⟩ : KI .u8).n)) && (decide ((⟨((gx s1.b 0).toNat : Int)⟩ : KI .u8).n ≤ (⟨122⟩ : KI .u8).n))))) (strings_Trim s1 (⟨[97, 98, 99, 100, 101, 102, 103, 104, 105, 106, 107, 108, 109, 110, 111, 112, 113, 114, 115, 116, 117, 118, 119, 120, 121, 122, 48, 49, 50, 51, 52, 53, 54, 55, 56, 57, 45]⟩ : Str))) fun r1 =>
 some ((((!decide (s1 = Str.nil)) && (decide ((s1.b.length : Int) ≤ 40))) && ((decide ((⟨97⟩ : KI .u8).n ≤ (⟨((gx s1.b 0).toNat : Int)⟩ : KI .u8).n)) && (decide ((⟨((gx s1.b 0).toNat : Int)⟩ : KI .u8).n ≤ (⟨122⟩ : KI .u8).n)))) && (decide (r1 = Str.nil)))

/-- geom.out -/
noncomputable def geom_out (n1 : Int) : Option Bool :=
 some ((decide (n1 < (-1000000))) || (decide (1000000 < n1)))

/-- geom.CheckBox -/
noncomputable def geom_CheckBox (b1 : Box) : Option Int :=
 Option.bind (geom_out b1.X) fun r1 =>
 Option.bind (gd (!r1) (geom_out b1.Y)) fun r2 =>
 bif ((((r1 || r2) || (decide (b1.W_ < 1))) || (decide (20000 < b1.W_))) || (decide (b1.H < 1))) || (decide (20000 < b1.H)) then (
  some 3)
 else (
  some 0)

noncomputable def shape_CheckText_L1 (s1 : Str) (i : Int) (s : Unit) : Option (Res Unit (Res Unit Int)) :=
 need (inR s1.b i) <|
 need ((decide ((⟨((gx s1.b i).toNat : Int)⟩ : KI .u8).n < (⟨32⟩ : KI .u8).n)) = true → inR s1.b i) <|
 need (((decide ((⟨((gx s1.b i).toNat : Int)⟩ : KI .u8).n < (⟨32⟩ : KI .u8).n)) && (!decide ((⟨((gx s1.b i).toNat : Int)⟩ : KI .u8).n = (⟨10⟩ : KI .u8).n))) = false → inR s1.b i) <|
 bif ((decide ((⟨((gx s1.b i).toNat : Int)⟩ : KI .u8).n < (⟨32⟩ : KI .u8).n)) && (!decide ((⟨((gx s1.b i).toNat : Int)⟩ : KI .u8).n = (⟨10⟩ : KI .u8).n))) || (decide ((⟨((gx s1.b i).toNat : Int)⟩ : KI .u8).n = (⟨127⟩ : KI .u8).n)) then (
  some (Res.ab (Res.ab 2)))
 else (
  some (Res.nx ()))

/-- shape.CheckText -/
noncomputable def shape_CheckText (s1 : Str) : Option Int :=
 bif decide (1000 < (s1.b.length : Int)) then (
  some 4)
 else (
  Option.bind (utf8_ValidString s1) fun r1 =>
  bif !r1 then (
   some 2)
  else (
   bindR (σ := Unit) (ρ := Int) (
    rforE (s1.b.length : Int) (shape_CheckText_L1 s1) (fun s => Res.nx s) ()) fun j_4 =>
   some 0))

/-- page.checkNode -/
noncomputable def page_checkNode (n1 : DNode) (twice1 : Bool) : Option Int :=
 Option.bind (page_isName n1.Id) fun r1 =>
 bif !r1 then (
  some 5)
 else (
  bif twice1 then (
   some 6)
  else (
   bif (decide (n1.Kind < 1)) || (decide (6 < n1.Kind)) then (
    some 1)
   else (
    bif (decide (n1.Kind = 6)) && (!decide (n1.Box = (⟨(0 : Int), (0 : Int), (0 : Int), (0 : Int)⟩ : Box))) then (
     some 2)
    else (
     bindR (σ := Unit) (ρ := Int) (
      bif !decide (n1.Kind = 6) then (
       Option.bind (geom_CheckBox n1.Box) fun e1 =>
       bif !decide (e1 = 0) then (
        some (Res.ab e1))
       else (
        some (Res.nx ())))
      else (
       some (Res.nx ()))) fun j_6 =>
     Option.bind (shape_CheckText n1.Text) fun e2 =>
     bif !decide (e2 = 0) then (
      some e2)
     else (
      Option.bind (gd ((!decide (n1.Class = Str.nil))) (page_isName n1.Class)) fun r2 =>
      bif (!decide (n1.Class = Str.nil)) && (!r2) then (
       some 5)
      else (
       some 0))))))

noncomputable def page_viewOf_L1 (d1 : Doc) (i : Int) (s : ((GMap Str Int) × (GMap Str (List Int)))) : Option ((GMap Str Int) × (GMap Str (List Int))) :=
 need (inR d1.Nodes i) <|
 bnd (gx d1.Nodes i) fun v1 =>
 bnd (s.1.set v1.Id i) fun c3 =>
 bif !decide (v1.Parent = Str.nil) then (
  need (room ((s.2.getD v1.Parent ([] : (List Int))).length + [i].length)) <|
  some (c3, s.2.set v1.Parent ((s.2.getD v1.Parent ([] : (List Int))) ++ [i])))
 else (
  some (c3, s.2))

/-- page.viewOf -/
noncomputable def page_viewOf (d1 : Doc) : Option (Option Page_view) :=
 bnd ((GMap.nil : (GMap Str Int))) fun c1 =>
 bnd ((GMap.nil : (GMap Str (List Int)))) fun c2 =>
 Option.bind (α := ((GMap Str Int) × (GMap Str (List Int)))) (
  rfor (d1.Nodes.length : Int) (page_viewOf_L1 d1) (c1, c2)) fun j_3 =>
 some (some (⟨d1, j_3.1, j_3.2⟩ : Page_view))

/-- (*page.view).node -/
noncomputable def page_view_node (v1 : Page_view) (id1 : Str) : Option DNode :=
 bnd ((⟨Str.nil, (0 : Int), (⟨(0 : Int), (0 : Int), (0 : Int), (0 : Int)⟩ : Box), Str.nil, Str.nil, Str.nil, false⟩ : DNode)) fun v2 =>
 need (inR v1.d.Nodes (v1.number.getD id1 (0 : Int))) <|
 bnd (gx v1.d.Nodes (v1.number.getD id1 (0 : Int))) fun v3 =>
 some v3

noncomputable def page_view_above_L1 (n1 : DNode) (v1 : Page_view) (s2_ : (Int × DNode)) : Option (Step (Int × DNode) (Res Int (Int × Bool))) :=
 bif !decide (s2_.2.Parent = Str.nil) then (
  bnd (W (s2_.1 + 1)) fun many1 =>
  bif (decide (s2_.2.Parent = n1.Id)) || (decide ((v1.d.Nodes.length : Int) < many1)) then (
   some (Step.done (Res.ab (many1, !decide (s2_.2.Parent = n1.Id)))))
  else (
   Option.bind (page_view_node v1 s2_.2.Parent) fun r1 =>
   some (Step.again (many1, r1))))
 else (
  some (Step.done (Res.nx s2_.1)))

/-- (*page.view).above -/
noncomputable def page_view_above (v1 : Page_view) (n1 : DNode) : Option (Int × Bool) :=
 bindR (σ := Int) (ρ := (Int × Bool)) (
  loop (page_view_above_L1 n1 v1) (0, n1)) fun j_1 =>
 some (j_1, true)

noncomputable def page_view_checkGroups_L1 (v1 : Page_view) (i : Int) (s : Unit) : Option (Res Unit (Res Unit Int)) :=
 need (inR v1.d.Nodes i) <|
 bnd (gx v1.d.Nodes i) fun v2 =>
 need ((!decide (v2.Parent = Str.nil)) = true → (!(v1.number.has v2.Parent)) = false → inR v1.d.Nodes (v1.number.getD v2.Parent (0 : Int))) <|
 bif (!decide (v2.Parent = Str.nil)) && ((!(v1.number.has v2.Parent)) || (!decide (((gx v1.d.Nodes (v1.number.getD v2.Parent (0 : Int))).Kind) = 6))) then (
  some (Res.ab (Res.ab 10)))
 else (
  some (Res.nx ()))

noncomputable def page_view_checkGroups_L2 (v1 : Page_view) (i : Int) (s : Unit) : Option (Res Unit (Res Unit Int)) :=
 need (inR v1.d.Nodes i) <|
 bnd (gx v1.d.Nodes i) fun v3 =>
 Option.bind (page_view_above v1 v3) fun r1 =>
 bif !r1.2 then (
  some (Res.ab (Res.ab 13)))
 else (
  some (Res.nx ()))

noncomputable def page_view_checkGroups_L3 (v1 : Page_view) (i : Int) (s : Unit) : Option (Res Unit (Res Unit Int)) :=
 need (inR v1.d.Nodes i) <|
 bnd (gx v1.d.Nodes i) fun v4 =>
 Option.bind (page_view_above v1 v4) fun r2 =>
 bif decide (8 < r2.1) then (
  some (Res.ab (Res.ab 4)))
 else (
  some (Res.nx ()))

noncomputable def page_view_checkGroups_L4 (v1 : Page_view) (i : Int) (s : Unit) : Option (Res Unit (Res Unit Int)) :=
 need (inR v1.d.Nodes i) <|
 bnd (gx v1.d.Nodes i) fun v5 =>
 bif (decide (v5.Kind = 6)) && (decide (((v1.members.getD v5.Id ([] : (List Int))).length : Int) = 0)) then (
  some (Res.ab (Res.ab 9)))
 else (
  some (Res.nx ()))

/-- (*page.view).checkGroups -/
noncomputable def page_view_checkGroups (v1 : Page_view) : Option Int :=
 bindR (σ := Unit) (ρ := Int) (
  rforE (v1.d.Nodes.length : Int) (page_view_checkGroups_L1 v1) (fun s => Res.nx s) ()) fun j_1 =>
 bindR (σ := Unit) (ρ := Int) (
  rforE (v1.d.Nodes.length : Int) (page_view_checkGroups_L2 v1) (fun s => Res.nx s) ()) fun j_9 =>
 bindR (σ := Unit) (ρ := Int) (
  rforE (v1.d.Nodes.length : Int) (page_view_checkGroups_L3 v1) (fun s => Res.nx s) ()) fun j_17 =>
 bindR (σ := Unit) (ρ := Int) (
  rforE (v1.d.Nodes.length : Int) (page_view_checkGroups_L4 v1) (fun s => Res.nx s) ()) fun j_25 =>
 some 0

/-- (*page.view).checkEnd -/
noncomputable def page_view_checkEnd (v1 : Page_view) (x1 : DEnd) : Option Int :=
 bif !(v1.number.has x1.Node) then (
  some 10)
 else (
  need (inR v1.d.Nodes (v1.number.getD x1.Node (0 : Int))) <|
  bif decide (((gx v1.d.Nodes (v1.number.getD x1.Node (0 : Int))).Kind) = 6) then (
   some 1)
  else (
   bif (((decide (x1.Side < 1)) || (decide (4 < x1.Side))) || (decide (x1.At < 0))) || (decide (1000 < x1.At)) then (
    some 3)
   else (
    some 0)))

/-- geom.CheckPoint -/
noncomputable def geom_CheckPoint (p1 : Point) : Option Int :=
 Option.bind (geom_out p1.X) fun r1 =>
 Option.bind (gd (!r1) (geom_out p1.Y)) fun r2 =>
 bif r1 || r2 then (
  some 3)
 else (
  some 0)

noncomputable def geom_points_L1 (l1 : (List Point)) (i : Int) (s : Unit) : Option (Res Unit (Res Unit Int)) :=
 need (inR l1 i) <|
 bnd (gx l1 i) fun v1 =>
 Option.bind (geom_CheckPoint v1) fun e1 =>
 bif !decide (e1 = 0) then (
  some (Res.ab (Res.ab e1)))
 else (
  some (Res.nx ()))

/-- geom.points -/
noncomputable def geom_points (l1 : (List Point)) : Option Int :=
 bindR (σ := Unit) (ρ := Int) (
  rforE (l1.length : Int) (geom_points_L1 l1) (fun s => Res.nx s) ()) fun j_1 =>
 some 0

/-- geom.CheckPoints -/
noncomputable def geom_CheckPoints (l1 : (List Point)) : Option Int :=
 bif decide (1000 < (l1.length : Int)) then (
  some 4)
 else (
  Option.bind (geom_points l1) fun r1 =>
  some r1)

noncomputable def page_view_checkEdge_L1 (v1 : Page_view) (v2 : (List DEnd)) (i : Int) (s : Unit) : Option (Res Unit (Res Unit Int)) :=
 need (inR v2 i) <|
 bnd (gx v2 i) fun v3 =>
 Option.bind (page_view_checkEnd v1 v3) fun e1 =>
 bif !decide (e1 = 0) then (
  some (Res.ab (Res.ab e1)))
 else (
  some (Res.nx ()))

/-- (*page.view).checkEdge -/
noncomputable def page_view_checkEdge (v1 : Page_view) (x1 : DEdge) (twice1 : Bool) : Option Int :=
 Option.bind (page_isName x1.Id) fun r1 =>
 bif !r1 then (
  some 5)
 else (
  bif twice1 then (
   some 6)
  else (
   bnd ([x1.From, x1.To]) fun v2 =>
   bindR (σ := Unit) (ρ := Int) (
    rforE (v2.length : Int) (page_view_checkEdge_L1 v1 v2) (fun s => Res.nx s) ()) fun j_5 =>
   bif decide (50 < (x1.Bends.length : Int)) then (
    some 4)
   else (
    Option.bind (geom_CheckPoints x1.Bends) fun e2 =>
    bif !decide (e2 = 0) then (
     some e2)
    else (
     Option.bind (shape_CheckText x1.Text) fun e3 =>
     bif !decide (e3 = 0) then (
      some e3)
     else (
      Option.bind (gd ((!decide (x1.Class = Str.nil))) (page_isName x1.Class)) fun r2 =>
      bif (!decide (x1.Class = Str.nil)) && (!r2) then (
       some 5)
      else (
       some 0))))))

noncomputable def geom_boxes_L1 (l1 : (List Box)) (i : Int) (s : Unit) : Option (Res Unit (Res Unit Int)) :=
 need (inR l1 i) <|
 bnd (gx l1 i) fun v1 =>
 Option.bind (geom_CheckBox v1) fun e1 =>
 bif !decide (e1 = 0) then (
  some (Res.ab (Res.ab e1)))
 else (
  some (Res.nx ()))

/-- geom.boxes -/
noncomputable def geom_boxes (l1 : (List Box)) : Option Int :=
 bindR (σ := Unit) (ρ := Int) (
  rforE (l1.length : Int) (geom_boxes_L1 l1) (fun s => Res.nx s) ()) fun j_1 =>
 some 0

noncomputable def geom_Hull_L1 (l1 : (List Box)) (i : Int) (s : Box) : Option Box :=
 need (inR l1 i) <|
 bnd (gx l1 i) fun v6 =>
 bnd (min s.X v6.X) fun x1 =>
 bnd (min s.Y v6.Y) fun y1 =>
 bnd ((⟨x1, y1, W ((max (W (s.X + s.W_)) (W (v6.X + v6.W_))) - x1), W ((max (W (s.Y + s.H)) (W (v6.Y + v6.H))) - y1)⟩ : Box)) fun v7 =>
 some v7

/-- geom.Hull -/
noncomputable def geom_Hull (l1 : (List Box)) : Option (Box × Int) :=
 bnd ((⟨(0 : Int), (0 : Int), (0 : Int), (0 : Int)⟩ : Box)) fun v1 =>
 bif decide (1000 < (l1.length : Int)) then (
  bnd ((⟨(0 : Int), (0 : Int), (0 : Int), (0 : Int)⟩ : Box)) fun v2 =>
  some (v2, 4))
 else (
  Option.bind (geom_boxes l1) fun e1 =>
  bif !decide (e1 = 0) then (
   bnd ((⟨(0 : Int), (0 : Int), (0 : Int), (0 : Int)⟩ : Box)) fun v3 =>
   some (v3, e1))
  else (
   bif decide ((l1.length : Int) = 0) then (
    bnd ((⟨(0 : Int), (0 : Int), (0 : Int), (0 : Int)⟩ : Box)) fun v4 =>
    some (v4, 9))
   else (
    need (inR l1 0) <|
    bnd (gx l1 0) fun v5 =>
    Option.bind (α := Box) (
     rfor (l1.length : Int) (geom_Hull_L1 l1) v5) fun j_11 =>
    bif (decide (20000 < j_11.W_)) || (decide (20000 < j_11.H)) then (
     bnd ((⟨(0 : Int), (0 : Int), (0 : Int), (0 : Int)⟩ : Box)) fun v8 =>
     some (v8, 4))
    else (
     some (j_11, 0)))))

/-- geom.Grow -/
noncomputable def geom_Grow (b1 : Box) (n1 : Int) : Option (Box × Int) :=
 bnd ((⟨(0 : Int), (0 : Int), (0 : Int), (0 : Int)⟩ : Box)) fun v1 =>
 Option.bind (geom_CheckBox b1) fun e1 =>
 bif !decide (e1 = 0) then (
  bnd ((⟨(0 : Int), (0 : Int), (0 : Int), (0 : Int)⟩ : Box)) fun v2 =>
  some (v2, e1))
 else (
  bif (decide (n1 < (-20000))) || (decide (20000 < n1)) then (
   bnd ((⟨(0 : Int), (0 : Int), (0 : Int), (0 : Int)⟩ : Box)) fun v3 =>
   some (v3, 3))
  else (
   bnd ((⟨W (b1.X - n1), W (b1.Y - n1), W (b1.W_ + (W (2 * n1))), W (b1.H + (W (2 * n1)))⟩ : Box)) fun v4 =>
   bif (decide (v4.W_ < 1)) || (decide (v4.H < 1)) then (
    bnd ((⟨(0 : Int), (0 : Int), (0 : Int), (0 : Int)⟩ : Box)) fun v5 =>
    some (v5, 9))
   else (
    Option.bind (geom_CheckBox v4) fun e2 =>
    bif !decide (e2 = 0) then (
     bnd ((⟨(0 : Int), (0 : Int), (0 : Int), (0 : Int)⟩ : Box)) fun v6 =>
     some (v6, e2))
    else (
     some (v4, 0)))))

noncomputable def page_view_boxOf_L1 (self : (Page_view × Int) → Option (Box × Int)) (x : (Page_view × Int)) (v4 : (List Int)) (i : Int) (s : (List Box)) : Option (Res (List Box) (Res (List Box) (Box × Int))) :=
 need (inR v4 i) <|
 Option.bind (self (x.1, (gx v4 i))) fun r1 =>
 bif !decide (r1.2 = 0) then (
  bnd ((⟨(0 : Int), (0 : Int), (0 : Int), (0 : Int)⟩ : Box)) fun v5 =>
  some (Res.ab (Res.ab (v5, r1.2))))
 else (
  need (room (s.length + [r1.1].length)) <|
  some (Res.nx (s ++ [r1.1])))

/-- (*page.view).boxOf -/
noncomputable def page_view_boxOf_body (self : (Page_view × Int) → Option (Box × Int)) (x : (Page_view × Int)) : Option (Box × Int) :=
 bnd ((⟨(0 : Int), (0 : Int), (0 : Int), (0 : Int)⟩ : Box)) fun v2 =>
 need (inR x.1.d.Nodes x.2) <|
 bnd (gx x.1.d.Nodes x.2) fun v3 =>
 bif !decide (v3.Kind = 6) then (
  some (v3.Box, 0))
 else (
  bnd (x.1.members.getD v3.Id ([] : (List Int))) fun v4 =>
  bindR (σ := (List Box)) (ρ := (Box × Int)) (
   rforE (v4.length : Int) (page_view_boxOf_L1 self x v4) (fun s => Res.nx s) ([] : List Box)) fun j_6 =>
  Option.bind (geom_Hull j_6) fun r2 =>
  bif !decide (r2.2 = 0) then (
   bnd ((⟨(0 : Int), (0 : Int), (0 : Int), (0 : Int)⟩ : Box)) fun v6 =>
   some (v6, r2.2))
  else (
   Option.bind (geom_Grow r2.1 10) fun r3 =>
   some (r3.1, r3.2)))

noncomputable def page_view_boxOf (v1 : Page_view) (i1 : Int) : Option (Box × Int) := fixp page_view_boxOf_body (v1, i1)

noncomputable def page_Check_L1 (d1 : Doc) (i : Int) (s : (GMap Str Bool)) : Option (Res (GMap Str Bool) (Res (GMap Str Bool) Int)) :=
 need (inR d1.Nodes i) <|
 bnd (gx d1.Nodes i) fun v1 =>
 Option.bind (page_checkNode v1 (s.getD v1.Id false)) fun e1 =>
 bif !decide (e1 = 0) then (
  some (Res.ab (Res.ab e1)))
 else (
  some (Res.nx (s.set v1.Id true)))

noncomputable def page_Check_L2 (d1 : Doc) (p1 : Page_view) (i : Int) (s : (GMap Str Bool)) : Option (Res (GMap Str Bool) (Res (GMap Str Bool) Int)) :=
 need (inR d1.Edges i) <|
 bnd (gx d1.Edges i) fun v3 =>
 Option.bind (page_view_checkEdge p1 v3 (s.getD v3.Id false)) fun e3 =>
 bif !decide (e3 = 0) then (
  some (Res.ab (Res.ab e3)))
 else (
  some (Res.nx (s.set v3.Id true)))

noncomputable def page_Check_L3 (p1 : Page_view) (i : Int) (s : Unit) : Option (Res Unit (Res Unit Int)) :=
 Option.bind (page_view_boxOf p1 i) fun r1 =>
 bif !decide (r1.2 = 0) then (
  some (Res.ab (Res.ab r1.2)))
 else (
  some (Res.nx ()))

/-- page.Check -/
noncomputable def page_Check (d1 : Doc) : Option Int :=
 bif (decide (500 < (d1.Nodes.length : Int))) || (decide (1000 < (d1.Edges.length : Int))) then (
  some 4)
 else (
  bnd ((GMap.nil : (GMap Str Bool))) fun known1 =>
  bindR (σ := (GMap Str Bool)) (ρ := Int) (
   rforE (d1.Nodes.length : Int) (page_Check_L1 d1) (fun s => Res.nx s) known1) fun j_3 =>
  Option.bind (page_viewOf d1) fun v2 =>
  Option.bind v2 fun p1 =>
  Option.bind (page_view_checkGroups p1) fun e2 =>
  bif !decide (e2 = 0) then (
   some e2)
  else (
   bindR (σ := (GMap Str Bool)) (ρ := Int) (
    rforE (d1.Edges.length : Int) (page_Check_L2 d1 p1) (fun s => Res.nx s) j_3) fun j_15 =>
   bindR (σ := Unit) (ρ := Int) (
    rforE (d1.Nodes.length : Int) (page_Check_L3 p1) (fun s => Res.nx s) ()) fun j_23 =>
   some 0))

/-- page.look -/
noncomputable def page_look (d1 : Doc) : Option ((Option Page_view) × Int) :=
 Option.bind (page_Check d1) fun e1 =>
 bif !decide (e1 = 0) then (
  some ((none : (Option Page_view)), e1))
 else (
  Option.bind (page_viewOf d1) fun r1 =>
  Option.bind r1 fun p1 =>
  some ((some p1), 0))

/-- page.Line$1 -/
noncomputable def page_Line_1 (x1 : DEdge) (c0_1 : Str) : Option Bool :=
 some (decide (x1.Id = c0_1))

noncomputable def slices_IndexFunc_Edge_L1 (f1 : (DEdge → Option Bool)) (s1 : (List DEdge)) (i : Int) (s : Unit) : Option (Res Unit (Res Unit Int)) :=
 need (inR s1 i) <|
 Option.bind (f1 (gx s1 i)) fun r1 =>
 bif r1 then (
  some (Res.ab (Res.ab i)))
 else (
  some (Res.nx ()))

/-- slices.IndexFunc[[]api.Edge,api.Edge] -/
noncomputable def slices_IndexFunc_Edge (s1 : (List DEdge)) (f1 : (DEdge → Option Bool)) : Option Int :=
 bindR (σ := Unit) (ρ := Int) (
  rforE (s1.length : Int) (slices_IndexFunc_Edge_L1 f1 s1) (fun s => Res.nx s) ()) fun j_1 =>
 some (-1)

/-- shape.isKind -/
noncomputable def shape_isKind (kind1 : Int) : Option Bool :=
 some ((decide (1 ≤ kind1)) && (decide (kind1 ≤ 5)))

/-- shape.than -/
noncomputable def shape_than (n1 : Int) (limit1 : Int) : Option Int :=
 bif decide (n1 < limit1) then (
  some 1)
 else (
  bif decide (n1 = limit1) then (
   some 0)
  else (
   some (-1)))

/-- shape.size -/
noncomputable def shape_size (n1 : Int) : Option Int :=
 some (max n1 (W (-n1)))

/-- shape.has -/
noncomputable def shape_has (kind1 : Int) (b1 : Box) (p1 : Point) : Option Int :=
 bnd (W (p1.X - b1.X)) fun x1 =>
 bnd (W (p1.Y - b1.Y)) fun y1 =>
 bif (((decide (x1 < 0)) || (decide (b1.W_ < x1))) || (decide (y1 < 0))) || (decide (b1.H < y1)) then (
  some (-1))
 else (
  bnd (W ((W (2 * x1)) - b1.W_)) fun u1 =>
  bnd (W ((W (2 * y1)) - b1.H)) fun v1 =>
  Option.bind (α := Int) (
   bif (((decide (x1 = 0)) || (decide (x1 = b1.W_))) || (decide (y1 = 0))) || (decide (y1 = b1.H)) then (
    some 0)
   else (
    some 1)) fun j_6 =>
  bindR (σ := Unit) (ρ := Int) (
   bif decide (kind1 = 3) then (
    Option.bind (shape_than (W ((W ((W ((W (u1 * u1)) * b1.H)) * b1.H)) + (W ((W ((W (v1 * v1)) * b1.W_)) * b1.W_)))) (W ((W ((W (b1.W_ * b1.W_)) * b1.H)) * b1.H))) fun r1 =>
    some (Res.ab r1))
   else (
    bif decide (kind1 = 4) then (
     Option.bind (shape_size u1) fun r2 =>
     Option.bind (shape_size v1) fun r3 =>
     Option.bind (shape_than (W ((W (r2 * b1.H)) + (W (r3 * b1.W_)))) (W (b1.W_ * b1.H))) fun r4 =>
     some (Res.ab r4))
    else (
     bif decide (kind1 = 2) then (
      Option.bind (α := (Int × Int × Int × Int)) (
       bif decide (b1.W_ < b1.H) then (
        some (v1, u1, b1.H, b1.W_))
       else (
        some (u1, v1, b1.W_, b1.H))) fun j_16 =>
      Option.bind (shape_size j_16.1) fun r5 =>
      bnd (max (W (r5 - (W (j_16.2.2.1 - j_16.2.2.2)))) 0) fun m1 =>
      Option.bind (shape_than (W ((W (m1 * m1)) + (W (j_16.2.1 * j_16.2.1)))) (W (j_16.2.2.2 * j_16.2.2.2))) fun r6 =>
      some (Res.ab r6))
     else (
      bif decide (kind1 = 5) then (
       bnd ((min b1.W_ b1.H).tdiv 4) fun n1 =>
       bif decide (n1 = 0) then (
        some (Res.ab j_6))
       else (
        bnd (W ((W ((W (x1 - b1.W_)) + n1)) - y1)) fun k1 =>
        bif decide (0 < k1) then (
         some (Res.ab (-1)))
        else (
         bif decide (k1 = 0) then (
          some (Res.ab 0))
         else (
          some (Res.nx ())))))
      else (
       some (Res.nx ())))))) fun j_8 =>
  some j_6)

/-- shape.Port$1 -/
noncomputable def shape_Port_1 (p1 : Point) (c0_1 : Int) (c1_1 : Box) : Option Bool :=
 Option.bind (shape_has c0_1 c1_1 p1) fun r1 =>
 some (decide (0 ≤ r1))

/-- shape.Port$2 -/
noncomputable def shape_Port_2 (n1 : Int) (c0_1 : (Point → Option Bool)) (c1_1 : Point) : Option Bool :=
 Option.bind (c0_1 (⟨c1_1.X, n1⟩ : Point)) fun r1 =>
 some r1

noncomputable def shape_edge_L1 (j_1 : Int) (to1 : Int) (holds1 : (Int → Option Bool)) (s3_ : Int) : Option (Step Int (Int × Bool)) :=
 Option.bind (holds1 s3_) fun r1 =>
 bif r1 then (
  some (Step.done (s3_, true)))
 else (
  bif decide (s3_ = to1) then (
   some (Step.done (0, false)))
  else (
   bnd (W (s3_ + j_1)) fun n1 =>
   some (Step.again n1)))

/-- shape.edge -/
noncomputable def shape_edge (from1 : Int) (to1 : Int) (holds1 : (Int → Option Bool)) : Option (Int × Bool) :=
 Option.bind (α := Int) (
  bif decide (to1 < from1) then (
   some (-1))
  else (
   some 1)) fun j_1 =>
 loop (shape_edge_L1 j_1 to1 holds1) from1

/-- shape.Port$3 -/
noncomputable def shape_Port_3 (n1 : Int) (c0_1 : (Point → Option Bool)) (c1_1 : Point) : Option Bool :=
 Option.bind (c0_1 (⟨n1, c1_1.Y⟩ : Point)) fun r1 =>
 some r1

/-- shape.Port -/
noncomputable def shape_Port (kind1 : Int) (b1 : Box) (side1 : Int) (at1 : Int) : Option (Point × Int) :=
 bnd ((⟨(0 : Int), (0 : Int)⟩ : Point)) fun v1 =>
 Option.bind (shape_isKind kind1) fun r1 =>
 bif !r1 then (
  bnd ((⟨(0 : Int), (0 : Int)⟩ : Point)) fun v2 =>
  some (v2, 1))
 else (
  Option.bind (geom_CheckBox b1) fun e1 =>
  bif !decide (e1 = 0) then (
   bnd ((⟨(0 : Int), (0 : Int)⟩ : Point)) fun v3 =>
   some (v3, e1))
  else (
   bif (((decide (side1 < 1)) || (decide (4 < side1))) || (decide (at1 < 0))) || (decide (1000 < at1)) then (
    bnd ((⟨(0 : Int), (0 : Int)⟩ : Point)) fun v4 =>
    some (v4, 3))
   else (
    bnd ((⟨W (b1.X + ((W (b1.W_ * at1)).tdiv 1000)), W (b1.Y + ((W (b1.H * at1)).tdiv 1000))⟩ : Point)) fun v5 =>
    bif (decide (side1 = 1)) || (decide (side1 = 3)) then (
     bnd (W (b1.Y + b1.H)) fun to1 =>
     Option.bind (α := (Int × Int)) (
      bif decide (side1 = 3) then (
       some (to1, b1.Y))
      else (
       some (b1.Y, to1))) fun j_13 =>
     Option.bind (shape_edge j_13.1 j_13.2 (fun x0 => shape_Port_2 x0 (fun x0 => shape_Port_1 x0 kind1 b1) v5)) fun r2 =>
     Option.bind (α := Int) (
      bif !r2.2 then (
       some (W (b1.Y + (b1.H.tdiv 2))))
      else (
       some r2.1)) fun j_16 =>
     bnd ((⟨v5.X, j_16⟩ : Point)) fun v6 =>
     some (v6, 0))
    else (
     bnd (W (b1.X + b1.W_)) fun to2 =>
     Option.bind (α := (Int × Int)) (
      bif decide (side1 = 2) then (
       some (to2, b1.X))
      else (
       some (b1.X, to2))) fun j_20 =>
     Option.bind (shape_edge j_20.1 j_20.2 (fun x0 => shape_Port_3 x0 (fun x0 => shape_Port_1 x0 kind1 b1) v5)) fun r3 =>
     Option.bind (α := Int) (
      bif !r3.2 then (
       some (W (b1.X + (b1.W_.tdiv 2))))
      else (
       some r3.1)) fun j_23 =>
     bnd ((⟨j_23, v5.Y⟩ : Point)) fun v7 =>
     some (v7, 0)))))

/-- (*page.view).port -/
noncomputable def page_view_port (v1 : Page_view) (x1 : DEnd) : Option Point :=
 bnd ((⟨(0 : Int), (0 : Int)⟩ : Point)) fun v2 =>
 Option.bind (page_view_node v1 x1.Node) fun r1 =>
 Option.bind (shape_Port r1.Kind r1.Box x1.Side x1.At) fun r2 =>
 some r2.1

noncomputable def slices_Concat_Point_L1 (slices1 : (List (List Point))) (i : Int) (s : Int) : Option Int :=
 need (inR slices1 i) <|
 bnd (W (s + ((gx slices1 i).length : Int))) fun size1 =>
 bif decide (size1 < 0) then (
  none)
 else (
  some size1)

noncomputable def slices_Concat_Point_L2 (slices1 : (List (List Point))) (i : Int) (s : (List Point)) : Option (List Point) :=
 need (inR slices1 i) <|
 need (room (s.length + (gx slices1 i).length)) <|
 some (s ++ (gx slices1 i))

/-- slices.Concat[[]api.Point,api.Point] -/
noncomputable def slices_Concat_Point (slices1 : (List (List Point))) : Option (List Point) :=
 Option.bind (α := Int) (
  rfor (slices1.length : Int) (slices_Concat_Point_L1 slices1) 0) fun j_1 =>
 Option.bind (slices_Grow_Point j_1) fun newslice1 =>
 Option.bind (α := (List Point)) (
  rfor (slices1.length : Int) (slices_Concat_Point_L2 slices1) newslice1) fun j_9 =>
 some j_9

/-- page.Line -/
noncomputable def page_Line (d1 : Doc) (id1 : Str) : Option ((List Point) × Int) :=
 Option.bind (page_look d1) fun r1 =>
 bif !decide (r1.2 = 0) then (
  some (([] : (List Point)), r1.2))
 else (
  Option.bind (slices_IndexFunc_Edge d1.Edges (fun x0 => page_Line_1 x0 id1)) fun k1 =>
  bif decide (k1 < 0) then (
   some (([] : (List Point)), 10))
  else (
   need (inR d1.Edges k1) <|
   bnd (gx d1.Edges k1) fun v1 =>
   Option.bind r1.1 fun v2 =>
   Option.bind (page_view_port v2 v1.From) fun r2 =>
   Option.bind (page_view_port v2 v1.To) fun r3 =>
   Option.bind (slices_Concat_Point [[r2], v1.Bends, [r3]]) fun r4 =>
   some (r4, 0)))

noncomputable def desk_lanes_L2 (r1 : ((List Point) × Int)) (s8_ : ((List (Arr 1 Point)) × Int)) : Option (Step ((List (Arr 1 Point)) × Int) (List (Arr 1 Point))) :=
 bif decide (s8_.2 < (r1.1.length : Int)) then (
  Option.bind (α := (List (Arr 1 Point))) (
   need (inR r1.1 (W (s8_.2 - 1))) <|
   bnd (gx r1.1 (W (s8_.2 - 1))) fun v2 =>
   need (inR r1.1 s8_.2) <|
   bnd (gx r1.1 s8_.2) fun v3 =>
   bif !decide ((decide (v2.X = v3.X)) = (decide (v2.Y = v3.Y))) then (
    need (room (s8_.1.length + [(⟨[v2, v3]⟩ : (Arr 1 Point))].length)) <|
    some (s8_.1 ++ [(⟨[v2, v3]⟩ : (Arr 1 Point))]))
   else (
    some s8_.1)) fun j_10 =>
  bnd (W (s8_.2 + 1)) fun i1 =>
  some (Step.again (j_10, i1)))
 else (
  some (Step.done s8_.1))

noncomputable def desk_lanes_L1 (d1 : Doc) (i : Int) (s : (List (Arr 1 Point))) : Option (List (Arr 1 Point)) :=
 need (inR d1.Edges i) <|
 bnd (gx d1.Edges i) fun v1 =>
 Option.bind (page_Line d1 v1.Id) fun r1 =>
 loop (desk_lanes_L2 r1) (s, 1)

/-- desk.lanes -/
noncomputable def desk_lanes (d1 : Doc) : Option (List (Arr 1 Point)) :=
 Option.bind (α := (List (Arr 1 Point))) (
  rfor (d1.Edges.length : Int) (desk_lanes_L1 d1) ([] : List (Arr 1 Point))) fun j_1 =>
 some j_1

/-- desk.floor -/
noncomputable def desk_floor (a1 : Int) (b1 : Int) : Option Int :=
 need (0 < b1) <|
 bnd (a1.tdiv b1) fun q1 =>
 need (0 < b1) <|
 Option.bind (α := Int) (
  bif decide ((a1.tmod b1) < 0) then (
   bnd (W (q1 - 1)) fun q2 =>
   some q2)
  else (
   some q1)) fun j_4 =>
 some j_4

noncomputable def page_view_order_1_L1 (self : (Int × (List Int) × (Option Page_view)) → Option (List Int)) (x : (Int × (List Int) × (Option Page_view))) (v1 : (List Int)) (i : Int) (s : (List Int)) : Option (List Int) :=
 need (inR v1 i) <|
 Option.bind (self ((gx v1 i), s, x.2.2)) fun r1 =>
 some r1

/-- (*page.view).order$1 -/
noncomputable def page_view_order_1_body (self : (Int × (List Int) × (Option Page_view)) → Option (List Int)) (x : (Int × (List Int) × (Option Page_view))) : Option (List Int) :=
 need (room (x.2.1.length + [x.1].length)) <|
 Option.bind x.2.2 fun p1 =>
 Option.bind x.2.2 fun p2 =>
 need (inR p2.d.Nodes x.1) <|
 bnd (p1.members.getD ((gx p2.d.Nodes x.1).Id) ([] : (List Int))) fun v1 =>
 bnd (x.2.1 ++ [x.1]) fun c1 =>
 Option.bind (α := (List Int)) (
  rfor (v1.length : Int) (page_view_order_1_L1 self x v1) c1) fun j_7 =>
 some j_7

noncomputable def page_view_order_1 (k1 : Int) (c0_1 : (List Int)) (c1_1 : (Option Page_view)) : Option (List Int) := fixp page_view_order_1_body (k1, c0_1, c1_1)

noncomputable def page_view_order_L1 (v1 : Page_view) (i : Int) (s : (List Int)) : Option (List Int) :=
 need (inR v1.d.Nodes i) <|
 bnd (gx v1.d.Nodes i) fun v2 =>
 bif decide (v2.Parent = Str.nil) then (
  Option.bind (page_view_order_1 i s (some v1)) fun r1 =>
  some r1)
 else (
  some s)

/-- (*page.view).order -/
noncomputable def page_view_order (v1 : Page_view) : Option (List Int) :=
 Option.bind (α := (List Int)) (
  rfor (v1.d.Nodes.length : Int) (page_view_order_L1 v1) ([] : List Int)) fun j_1 =>
 some j_1

/-- shape.Has -/
noncomputable def shape_Has (kind1 : Int) (b1 : Box) (p1 : Point) : Option (Int × Int) :=
 Option.bind (shape_isKind kind1) fun r1 =>
 bif !r1 then (
  some (0, 1))
 else (
  Option.bind (geom_CheckBox b1) fun e1 =>
  bif !decide (e1 = 0) then (
   some (0, e1))
  else (
   Option.bind (geom_CheckPoint p1) fun e2 =>
   bif !decide (e2 = 0) then (
    some (0, e2))
   else (
    Option.bind (shape_has kind1 b1 p1) fun r2 =>
    some (r2, 0))))

noncomputable def page_Finder_1_L1 (p1 : Point) (c0_1 : (List Int)) (c1_1 : Doc) (s4_ : Int) : Option (Step Int (Res Unit (DNode × Bool))) :=
 bif decide (0 ≤ s4_) then (
  bindR (σ := Unit) (ρ := (Step Int (Res Unit (DNode × Bool)))) (
   need (inR c0_1 s4_) <|
   need (inR c1_1.Nodes (gx c0_1 s4_)) <|
   bnd (gx c1_1.Nodes (gx c0_1 s4_)) fun v2 =>
   bif decide (v2.Kind = 6) then (
    some (Res.nx ()))
   else (
    Option.bind (shape_Has v2.Kind v2.Box p1) fun r1 =>
    bif (decide (r1.2 = 0)) && (decide (0 ≤ r1.1)) then (
     some (Res.ab (Step.done (Res.ab (v2, true)))))
    else (
     some (Res.nx ())))) fun j_6 =>
  bnd (W (s4_ - 1)) fun i2 =>
  some (Step.again i2))
 else (
  some (Step.done (Res.nx ())))

/-- page.Finder$1 -/
noncomputable def page_Finder_1 (p1 : Point) (c0_1 : (List Int)) (c1_1 : Doc) : Option (DNode × Bool) :=
 bnd ((⟨Str.nil, (0 : Int), (⟨(0 : Int), (0 : Int), (0 : Int), (0 : Int)⟩ : Box), Str.nil, Str.nil, Str.nil, false⟩ : DNode)) fun v1 =>
 bnd (W ((c0_1.length : Int) - 1)) fun i1 =>
 bindR (σ := Unit) (ρ := (DNode × Bool)) (
  loop (page_Finder_1_L1 p1 c0_1 c1_1) i1) fun j_3 =>
 bnd ((⟨Str.nil, (0 : Int), (⟨(0 : Int), (0 : Int), (0 : Int), (0 : Int)⟩ : Box), Str.nil, Str.nil, Str.nil, false⟩ : DNode)) fun v3 =>
 some (v3, false)

/-- page.Finder -/
noncomputable def page_Finder (d1 : Doc) : Option (Point → Option (DNode × Bool)) :=
 Option.bind (page_viewOf d1) fun v1 =>
 Option.bind v1 fun p1 =>
 Option.bind (page_view_order p1) fun r1 =>
 some (fun x0 => page_Finder_1 x0 r1 d1)

noncomputable def desk_Sketch_L1 (d1 : Doc) (i : Int) (s : (Int × Int × Int × Int × Bool)) : Option (Int × Int × Int × Int × Bool) :=
 need (inR d1.Nodes i) <|
 bnd (gx d1.Nodes i) fun v1 =>
 bif decide (v1.Kind = 6) then (
  some (s.1, s.2.1, s.2.2.1, s.2.2.2.1, s.2.2.2.2))
 else (
  bif !s.2.2.2.2 then (
   bnd (W (v1.Box.X + v1.Box.W_)) fun right1 =>
   bnd (W (v1.Box.Y + v1.Box.H)) fun bottom1 =>
   some (v1.Box.X, v1.Box.Y, right1, bottom1, true))
  else (
   bnd (min s.1 v1.Box.X) fun left1 =>
   bnd (min s.2.1 v1.Box.Y) fun top1 =>
   bnd (max s.2.2.1 (W (v1.Box.X + v1.Box.W_))) fun right2 =>
   bnd (max s.2.2.2.1 (W (v1.Box.Y + v1.Box.H))) fun bottom2 =>
   some (left1, top1, right2, bottom2, s.2.2.2.2)))

noncomputable def desk_Sketch_L2 (columns1 : Int) (i : Int) (s : (List (List (KI .u8)))) : Option (List (List (KI .u8))) :=
 Option.bind (strings_Repeat (⟨[46]⟩ : Str) columns1) fun r1 =>
 need ((r1.b.length : Int) ≤ 70368744177664) <|
 need (inR s i) <|
 some (s.set i.toNat (bytesL r1))

noncomputable def desk_Sketch_L5 (v6 : Point) (w1 : Int) (j_4 : (Int × Int × Int × Int × Bool)) (s46_ : (Int × (List (List (KI .u8))))) (columns1 : Int) (s51_ : (Int × (List (List (KI .u8))))) : Option (Step (Int × (List (List (KI .u8)))) (List (List (KI .u8)))) :=
 bif (decide (s51_.1 < columns1)) && (decide ((W (j_4.1 + (W (s51_.1 * w1)))) ≤ v6.X)) then (
  need (inR s51_.2 s46_.1) <|
  need (inR s51_.2 s46_.1) <|
  need (inR (gx s51_.2 s46_.1) s51_.1) <|
  bnd (s51_.2.set s46_.1.toNat ((gx s51_.2 s46_.1).set s51_.1.toNat (⟨42⟩ : KI .u8))) fun grid2 =>
  bnd (W (s51_.1 + 1)) fun k2 =>
  some (Step.again (k2, grid2)))
 else (
  some (Step.done s51_.2))

noncomputable def desk_Sketch_L4 (h1 : Int) (v5 : Point) (v6 : Point) (w1 : Int) (j_4 : (Int × Int × Int × Int × Bool)) (rows1 : Int) (columns1 : Int) (s46_ : (Int × (List (List (KI .u8))))) : Option (Step (Int × (List (List (KI .u8)))) (List (List (KI .u8)))) :=
 bif (decide (s46_.1 < rows1)) && (decide ((W (j_4.2.1 + (W (s46_.1 * h1)))) ≤ v6.Y)) then (
  Option.bind (α := (List (List (KI .u8)))) (
   Option.bind (desk_floor (W (v5.X - j_4.1)) w1) fun r4 =>
   bnd (max r4 0) fun k1 =>
   loop (desk_Sketch_L5 v6 w1 j_4 s46_ columns1) (k1, s46_.2)) fun j_48 =>
  bnd (W (s46_.1 + 1)) fun i2 =>
  some (Step.again (i2, j_48)))
 else (
  some (Step.done s46_.2))

noncomputable def desk_Sketch_L3 (h1 : Int) (r2 : (List (Arr 1 Point))) (w1 : Int) (j_4 : (Int × Int × Int × Int × Bool)) (rows1 : Int) (columns1 : Int) (i : Int) (s : (List (List (KI .u8)))) : Option (List (List (KI .u8))) :=
 need (inR r2 i) <|
 bnd (gx r2 i) fun v2 =>
 bnd (gx v2.l 0) fun v3 =>
 bnd (gx v2.l 1) fun v4 =>
 bnd ((⟨min v3.X v4.X, min v3.Y v4.Y⟩ : Point)) fun v5 =>
 bnd ((⟨max v3.X v4.X, max v3.Y v4.Y⟩ : Point)) fun v6 =>
 Option.bind (desk_floor (W (v5.Y - j_4.2.1)) h1) fun r3 =>
 bnd (max r3 0) fun i1 =>
 loop (desk_Sketch_L4 h1 v5 v6 w1 j_4 rows1 columns1) (i1, s)

noncomputable def desk_Sketch_L7 (h1 : Int) (w1 : Int) (j_4 : (Int × Int × Int × Int × Bool)) (p61_ : Int × (List (List (KI .u8)))) (find1 : (Point → Option (DNode × Bool))) (i : Int) (s : (List (KI .u8))) : Option (List (KI .u8)) :=
 Option.bind (find1 (⟨W ((W (j_4.1 + (W (w1 * i)))) + (w1.tdiv 2)), W ((W (j_4.2.1 + (W (h1 * p61_.1)))) + (h1.tdiv 2))⟩ : Point)) fun r5 =>
 bif r5.2 then (
  need (inR r5.1.Id.b 0) <|
  bnd ((⟨((gx r5.1.Id.b 0).toNat : Int)⟩ : KI .u8)) fun v7 =>
  need (inR s i) <|
  some (s.set i.toNat v7))
 else (
  some s)

noncomputable def desk_Sketch_L6 (h1 : Int) (w1 : Int) (j_4 : (Int × Int × Int × Int × Bool)) (find1 : (Point → Option (DNode × Bool))) (i : Int) (s : (List (List (KI .u8)))) : Option (List (List (KI .u8))) :=
 need (inR s i) <|
 need (inR s i) <|
 bnd (gx s i) fun row1 =>
 Option.bind (α := (List (KI .u8))) (
  rfor (row1.length : Int) (desk_Sketch_L7 h1 w1 j_4 (i, s) find1) row1) fun j_67 =>
 some (s.set i.toNat j_67)

noncomputable def desk_Sketch_L8 (j_60 : (List (List (KI .u8)))) (i : Int) (s : Str) : Option Str :=
 need (inR j_60 i) <|
 need (((strB (gx j_60 i)).b.length : Int) + (⟨[10]⟩ : Str).b.length ≤ 9223372036854775807) <|
 Option.bind (strings_Builder_WriteString s (⟨(strB (gx j_60 i)).b ++ (⟨[10]⟩ : Str).b⟩ : Str)) fun r6 =>
 some r6

/-- desk.Sketch -/
noncomputable def desk_Sketch (d1 : Doc) (w1 : Int) (h1 : Int) : Option (Str × Int) :=
 Option.bind (page_Check d1) fun e1 =>
 bif !decide (e1 = 0) then (
  some (Str.nil, e1))
 else (
  bif (((decide (w1 < 1)) || (decide (20000 < w1))) || (decide (h1 < 1))) || (decide (20000 < h1)) then (
   some (Str.nil, 3))
  else (
   Option.bind (α := (Int × Int × Int × Int × Bool)) (
    rfor (d1.Nodes.length : Int) (desk_Sketch_L1 d1) (0, 0, 0, 0, false)) fun j_4 =>
   bif !j_4.2.2.2.2 then (
    some (Str.nil, 9))
   else (
    need (0 < w1) <|
    need (0 < h1) <|
    bnd ((W ((W ((W (j_4.2.2.1 - j_4.1)) + w1)) - 1)).tdiv w1) fun columns1 =>
    bnd ((W ((W ((W (j_4.2.2.2.1 - j_4.2.1)) + h1)) - 1)).tdiv h1) fun rows1 =>
    bif (decide (200 < columns1)) || (decide (200 < rows1)) then (
     some (Str.nil, 4))
    else (
     need (0 ≤ rows1 ∧ rows1 ≤ rows1 ∧ rows1 ≤ 1073741824) <|
     bnd (List.replicate rows1.toNat ([] : (List (KI .u8)))) fun grid1 =>
     Option.bind (α := (List (List (KI .u8)))) (
      rfor (grid1.length : Int) (desk_Sketch_L2 columns1) grid1) fun j_26 =>
     Option.bind (desk_lanes d1) fun r2 =>
     Option.bind (α := (List (List (KI .u8)))) (
      rfor (r2.length : Int) (desk_Sketch_L3 h1 r2 w1 j_4 rows1 columns1) j_26) fun j_34 =>
     Option.bind (page_Finder d1) fun find1 =>
     Option.bind (α := (List (List (KI .u8)))) (
      rfor (j_34.length : Int) (desk_Sketch_L6 h1 w1 j_4 find1) j_34) fun j_60 =>
     bnd ((⟨[]⟩ : Str)) fun b1 =>
     Option.bind (α := Str) (
      rfor (j_60.length : Int) (desk_Sketch_L8 j_60) b1) fun j_77 =>
     Option.bind (strings_Builder_String j_77) fun r7 =>
     some (r7, 0)))))

/-- drawref1.nodeError$1 -/
noncomputable def ref_nodeError_1 (m1 : DNode) (c0_1 : DNode) : Option Bool :=
 some (decide (m1.Id = c0_1.Id))

noncomputable def slices_IndexFunc_Node_L1 (f1 : (DNode → Option Bool)) (s1 : (List DNode)) (i : Int) (s : Unit) : Option (Res Unit (Res Unit Int)) :=
 need (inR s1 i) <|
 Option.bind (f1 (gx s1 i)) fun r1 =>
 bif r1 then (
  some (Res.ab (Res.ab i)))
 else (
  some (Res.nx ()))

/-- slices.IndexFunc[[]api.Node,api.Node] -/
noncomputable def slices_IndexFunc_Node (s1 : (List DNode)) (f1 : (DNode → Option Bool)) : Option Int :=
 bindR (σ := Unit) (ρ := Int) (
  rforE (s1.length : Int) (slices_IndexFunc_Node_L1 f1 s1) (fun s => Res.nx s) ()) fun j_1 =>
 some (-1)

/-- slices.ContainsFunc[[]api.Node,api.Node] -/
noncomputable def slices_ContainsFunc_Node (s1 : (List DNode)) (f1 : (DNode → Option Bool)) : Option Bool :=
 Option.bind (slices_IndexFunc_Node s1 f1) fun r1 =>
 some (decide (0 ≤ r1))

noncomputable def ref_NameOf_L1 (s1 : Str) (i : Int) (s : Unit) : Option (Res Unit (Res Unit Bool)) :=
 need (inR s1.b i) <|
 bnd ((⟨((gx s1.b i).toNat : Int)⟩ : KI .u8)) fun c1 =>
 bif (!((decide ((⟨97⟩ : KI .u8).n ≤ c1.n)) && (decide (c1.n ≤ (⟨122⟩ : KI .u8).n)))) && ((decide (i = 0)) || ((!((decide ((⟨48⟩ : KI .u8).n ≤ c1.n)) && (decide (c1.n ≤ (⟨57⟩ : KI .u8).n)))) && (!decide (c1.n = (⟨45⟩ : KI .u8).n)))) then (
  some (Res.ab (Res.ab false)))
 else (
  some (Res.nx ()))

/-- drawref1.NameOf -/
noncomputable def ref_NameOf (s1 : Str) : Option Bool :=
 bindR (σ := Unit) (ρ := Bool) (
  rforE (s1.b.length : Int) (ref_NameOf_L1 s1) (fun s => Res.nx s) ()) fun j_1 =>
 some ((!decide (s1 = Str.nil)) && (decide ((s1.b.length : Int) ≤ 40)))

/-- drawref1.When -/
noncomputable def ref_When (is1 : Bool) (e1 : Int) : Option Int :=
 bif is1 then (
  some e1)
 else (
  some 0)

/-- drawref1.In -/
noncomputable def ref_In (n1 : Int) (low1 : Int) (high1 : Int) : Option Bool :=
 some ((decide (low1 ≤ n1)) && (decide (n1 ≤ high1)))

noncomputable def ref_First_L1 (l1 : (List Int)) (i : Int) (s : Unit) : Option (Res Unit (Res Unit Int)) :=
 need (inR l1 i) <|
 bnd (gx l1 i) fun e1 =>
 bif !decide (e1 = 0) then (
  some (Res.ab (Res.ab e1)))
 else (
  some (Res.nx ()))

/-- drawref1.First -/
noncomputable def ref_First (l1 : (List Int)) : Option Int :=
 bindR (σ := Unit) (ρ := Int) (
  rforE (l1.length : Int) (ref_First_L1 l1) (fun s => Res.nx s) ()) fun j_1 =>
 some 0

/-- drawref1.PointError -/
noncomputable def ref_PointError (p1 : Point) : Option Int :=
 Option.bind (ref_In p1.X (-1000000) 1000000) fun r1 =>
 Option.bind (gd (!(!r1)) (ref_In p1.Y (-1000000) 1000000)) fun r2 =>
 Option.bind (ref_When ((!r1) || (!r2)) 3) fun r3 =>
 some r3

/-- drawref1.BoxError -/
noncomputable def ref_BoxError (b1 : Box) : Option Int :=
 Option.bind (ref_PointError (⟨b1.X, b1.Y⟩ : Point)) fun r1 =>
 Option.bind (ref_In b1.W_ 1 20000) fun r2 =>
 Option.bind (gd (!(!r2)) (ref_In b1.H 1 20000)) fun r3 =>
 Option.bind (ref_When ((!r2) || (!r3)) 3) fun r4 =>
 Option.bind (ref_First [r1, r4]) fun r5 =>
 some r5

noncomputable def ref_TextError_L1 (s1 : Str) (i : Int) (s : Bool) : Option Bool :=
 need (s = false → inR s1.b i) <|
 need (s = false → (decide ((⟨((gx s1.b i).toNat : Int)⟩ : KI .u8).n < (⟨32⟩ : KI .u8).n)) = true → inR s1.b i) <|
 need ((s || ((decide ((⟨((gx s1.b i).toNat : Int)⟩ : KI .u8).n < (⟨32⟩ : KI .u8).n)) && (!decide ((⟨((gx s1.b i).toNat : Int)⟩ : KI .u8).n = (⟨10⟩ : KI .u8).n)))) = false → inR s1.b i) <|
 bnd ((s || ((decide ((⟨((gx s1.b i).toNat : Int)⟩ : KI .u8).n < (⟨32⟩ : KI .u8).n)) && (!decide ((⟨((gx s1.b i).toNat : Int)⟩ : KI .u8).n = (⟨10⟩ : KI .u8).n)))) || (decide ((⟨((gx s1.b i).toNat : Int)⟩ : KI .u8).n = (⟨127⟩ : KI .u8).n))) fun bad2 =>
 some bad2

/-- drawref1.TextError -/
noncomputable def ref_TextError (s1 : Str) : Option Int :=
 Option.bind (utf8_ValidString s1) fun r1 =>
 bnd (!r1) fun bad1 =>
 Option.bind (α := Bool) (
  rfor (s1.b.length : Int) (ref_TextError_L1 s1) bad1) fun j_3 =>
 Option.bind (ref_When (decide (1000 < (s1.b.length : Int))) 4) fun r2 =>
 Option.bind (ref_When j_3 2) fun r3 =>
 Option.bind (ref_First [r2, r3]) fun r4 =>
 some r4

/-- drawref1.classError -/
noncomputable def ref_classError (s1 : Str) : Option Int :=
 Option.bind (gd ((!decide (s1 = Str.nil))) (ref_NameOf s1)) fun r1 =>
 Option.bind (ref_When ((!decide (s1 = Str.nil)) && (!r1)) 5) fun r2 =>
 some r2

/-- drawref1.nodeError -/
noncomputable def ref_nodeError (d1 : Doc) (i1 : Int) : Option Int :=
 need (inR d1.Nodes i1) <|
 bnd (gx d1.Nodes i1) fun v1 =>
 need (segR d1.Nodes.length 0 i1) <|
 Option.bind (slices_ContainsFunc_Node (seg d1.Nodes 0 i1) (fun x0 => ref_nodeError_1 x0 v1)) fun twice1 =>
 Option.bind (ref_NameOf v1.Id) fun r1 =>
 Option.bind (ref_When (!r1) 5) fun r2 =>
 Option.bind (ref_When twice1 6) fun r3 =>
 Option.bind (ref_In v1.Kind 1 6) fun r4 =>
 Option.bind (ref_When (!r4) 1) fun r5 =>
 Option.bind (ref_First [r2, r3, r5]) fun e1 =>
 bif !decide (e1 = 0) then (
  some e1)
 else (
  Option.bind (ref_When (!decide (v1.Box = (⟨(0 : Int), (0 : Int), (0 : Int), (0 : Int)⟩ : Box))) 2) fun box1 =>
  Option.bind (α := Int) (
   bif !decide (v1.Kind = 6) then (
    Option.bind (ref_BoxError v1.Box) fun box2 =>
    some box2)
   else (
    some box1)) fun j_13 =>
  Option.bind (ref_TextError v1.Text) fun r6 =>
  Option.bind (ref_classError v1.Class) fun r7 =>
  Option.bind (ref_First [j_13, r6, r7]) fun r8 =>
  some r8)

/-- drawref1.NodeAt$1 -/
noncomputable def ref_NodeAt_1 (n1 : DNode) (c0_1 : Str) : Option Bool :=
 some (decide (n1.Id = c0_1))

/-- drawref1.NodeAt -/
noncomputable def ref_NodeAt (d1 : Doc) (id1 : Str) : Option Int :=
 Option.bind (slices_IndexFunc_Node d1.Nodes (fun x0 => ref_NodeAt_1 x0 id1)) fun r1 =>
 some r1

noncomputable def ref_above_L1 (d1 : Doc) (n1 : DNode) (s2_ : (Int × Str)) : Option (Step (Int × Str) (Res Int (Int × Bool))) :=
 bif !decide (s2_.2 = Str.nil) then (
  bnd (W (s2_.1 + 1)) fun many1 =>
  bif (decide (s2_.2 = n1.Id)) || (decide ((d1.Nodes.length : Int) < many1)) then (
   some (Step.done (Res.ab (many1, decide (s2_.2 = n1.Id)))))
  else (
   Option.bind (ref_NodeAt d1 s2_.2) fun r1 =>
   need (inR d1.Nodes r1) <|
   bnd ((gx d1.Nodes r1).Parent) fun id1 =>
   some (Step.again (many1, id1))))
 else (
  some (Step.done (Res.nx s2_.1)))

/-- drawref1.above -/
noncomputable def ref_above (d1 : Doc) (n1 : DNode) : Option (Int × Bool) :=
 bindR (σ := Int) (ρ := (Int × Bool)) (
  loop (ref_above_L1 d1 n1) (0, n1.Parent)) fun j_1 =>
 some (j_1, false)

noncomputable def ref_members_L1 (d1 : Doc) (id1 : Str) (i : Int) (s : (List DNode)) : Option (List DNode) :=
 need (inR d1.Nodes i) <|
 bnd (gx d1.Nodes i) fun v1 =>
 bif decide (v1.Parent = id1) then (
  need (room (s.length + [v1].length)) <|
  some (s ++ [v1]))
 else (
  some s)

/-- drawref1.members -/
noncomputable def ref_members (d1 : Doc) (id1 : Str) : Option (List DNode) :=
 Option.bind (α := (List DNode)) (
  rfor (d1.Nodes.length : Int) (ref_members_L1 d1 id1) ([] : List DNode)) fun j_1 =>
 some j_1

noncomputable def ref_treeError_L1 (d1 : Doc) (i : Int) (s : Unit) : Option (Res Unit (Res Unit Int)) :=
 need (inR d1.Nodes i) <|
 bnd (gx d1.Nodes i) fun v1 =>
 Option.bind (ref_NodeAt d1 v1.Parent) fun k1 =>
 need ((!decide (v1.Parent = Str.nil)) = true → (decide (k1 < 0)) = false → inR d1.Nodes k1) <|
 bif (!decide (v1.Parent = Str.nil)) && ((decide (k1 < 0)) || (!decide (((gx d1.Nodes k1).Kind) = 6))) then (
  some (Res.ab (Res.ab 10)))
 else (
  some (Res.nx ()))

noncomputable def ref_treeError_L2 (d1 : Doc) (i : Int) (s : Unit) : Option (Res Unit (Res Unit Int)) :=
 need (inR d1.Nodes i) <|
 bnd (gx d1.Nodes i) fun v2 =>
 Option.bind (ref_above d1 v2) fun r1 =>
 bif r1.2 then (
  some (Res.ab (Res.ab 13)))
 else (
  some (Res.nx ()))

noncomputable def ref_treeError_L3 (d1 : Doc) (i : Int) (s : Unit) : Option (Res Unit (Res Unit Int)) :=
 need (inR d1.Nodes i) <|
 bnd (gx d1.Nodes i) fun v3 =>
 Option.bind (ref_above d1 v3) fun r2 =>
 bif decide (8 < r2.1) then (
  some (Res.ab (Res.ab 4)))
 else (
  some (Res.nx ()))

noncomputable def ref_treeError_L4 (d1 : Doc) (i : Int) (s : Unit) : Option (Res Unit (Res Unit Int)) :=
 need (inR d1.Nodes i) <|
 bnd (gx d1.Nodes i) fun v4 =>
 Option.bind (gd ((decide (v4.Kind = 6))) (ref_members d1 v4.Id)) fun r3 =>
 bif (decide (v4.Kind = 6)) && (decide ((r3.length : Int) = 0)) then (
  some (Res.ab (Res.ab 9)))
 else (
  some (Res.nx ()))

/-- drawref1.treeError -/
noncomputable def ref_treeError (d1 : Doc) : Option Int :=
 bindR (σ := Unit) (ρ := Int) (
  rforE (d1.Nodes.length : Int) (ref_treeError_L1 d1) (fun s => Res.nx s) ()) fun j_1 =>
 bindR (σ := Unit) (ρ := Int) (
  rforE (d1.Nodes.length : Int) (ref_treeError_L2 d1) (fun s => Res.nx s) ()) fun j_10 =>
 bindR (σ := Unit) (ρ := Int) (
  rforE (d1.Nodes.length : Int) (ref_treeError_L3 d1) (fun s => Res.nx s) ()) fun j_18 =>
 bindR (σ := Unit) (ρ := Int) (
  rforE (d1.Nodes.length : Int) (ref_treeError_L4 d1) (fun s => Res.nx s) ()) fun j_26 =>
 some 0

/-- drawref1.edgeError$1 -/
noncomputable def ref_edgeError_1 (y1 : DEdge) (c0_1 : DEdge) : Option Bool :=
 some (decide (y1.Id = c0_1.Id))

/-- slices.ContainsFunc[[]api.Edge,api.Edge] -/
noncomputable def slices_ContainsFunc_Edge (s1 : (List DEdge)) (f1 : (DEdge → Option Bool)) : Option Bool :=
 Option.bind (slices_IndexFunc_Edge s1 f1) fun r1 =>
 some (decide (0 ≤ r1))

/-- drawref1.PortError -/
noncomputable def ref_PortError (side1 : Int) (at1 : Int) : Option Int :=
 Option.bind (ref_In side1 1 4) fun r1 =>
 Option.bind (gd (!(!r1)) (ref_In at1 0 1000)) fun r2 =>
 Option.bind (ref_When ((!r1) || (!r2)) 3) fun r3 =>
 some r3

noncomputable def ref_PointsError_L1 (l1 : (List Point)) (i : Int) (s : Unit) : Option (Res Unit (Res Unit Int)) :=
 need (inR l1 i) <|
 bnd (gx l1 i) fun v1 =>
 Option.bind (ref_PointError v1) fun e1 =>
 bif !decide (e1 = 0) then (
  some (Res.ab (Res.ab e1)))
 else (
  some (Res.nx ()))

/-- drawref1.PointsError -/
noncomputable def ref_PointsError (l1 : (List Point)) : Option Int :=
 bif decide (1000 < (l1.length : Int)) then (
  some 4)
 else (
  bindR (σ := Unit) (ρ := Int) (
   rforE (l1.length : Int) (ref_PointsError_L1 l1) (fun s => Res.nx s) ()) fun j_2 =>
  some 0)

noncomputable def ref_edgeError_L1 (d1 : Doc) (v2 : (List DEnd)) (i : Int) (s : Unit) : Option (Res Unit (Res Unit Int)) :=
 need (inR v2 i) <|
 bnd (gx v2 i) fun v3 =>
 Option.bind (ref_NodeAt d1 v3.Node) fun k1 =>
 bif decide (k1 < 0) then (
  some (Res.ab (Res.ab 10)))
 else (
  need (inR d1.Nodes k1) <|
  Option.bind (ref_When (decide (((gx d1.Nodes k1).Kind) = 6)) 1) fun r6 =>
  Option.bind (ref_PortError v3.Side v3.At) fun r7 =>
  Option.bind (ref_First [r6, r7]) fun e2 =>
  bif !decide (e2 = 0) then (
   some (Res.ab (Res.ab e2)))
  else (
   some (Res.nx ())))

/-- drawref1.edgeError -/
noncomputable def ref_edgeError (d1 : Doc) (i1 : Int) : Option Int :=
 need (inR d1.Edges i1) <|
 bnd (gx d1.Edges i1) fun v1 =>
 Option.bind (ref_NodeAt d1 v1.Id) fun r1 =>
 need ((decide (0 ≤ r1)) = false → segR d1.Edges.length 0 i1) <|
 Option.bind (gd (!(decide (0 ≤ r1))) (slices_ContainsFunc_Edge (seg d1.Edges 0 i1) (fun x0 => ref_edgeError_1 x0 v1))) fun r2 =>
 Option.bind (ref_NameOf v1.Id) fun r3 =>
 Option.bind (ref_When (!r3) 5) fun r4 =>
 Option.bind (ref_When ((decide (0 ≤ r1)) || r2) 6) fun r5 =>
 Option.bind (ref_First [r4, r5]) fun e1 =>
 bif !decide (e1 = 0) then (
  some e1)
 else (
  bnd ([v1.From, v1.To]) fun v2 =>
  bindR (σ := Unit) (ρ := Int) (
   rforE (v2.length : Int) (ref_edgeError_L1 d1 v2) (fun s => Res.nx s) ()) fun j_12 =>
  bif decide (50 < (v1.Bends.length : Int)) then (
   some 4)
  else (
   Option.bind (ref_PointsError v1.Bends) fun r8 =>
   Option.bind (ref_TextError v1.Text) fun r9 =>
   Option.bind (ref_classError v1.Class) fun r10 =>
   Option.bind (ref_First [r8, r9, r10]) fun r11 =>
   some r11))

noncomputable def ref_HullOf_L1 (l1 : (List Box)) (i : Int) (s : (Int × Int × Int × Int)) : Option (Int × Int × Int × Int) :=
 need (inR l1 i) <|
 bnd (gx l1 i) fun v3 =>
 bnd (min s.1 v3.X) fun x2 =>
 bnd (min s.2.1 v3.Y) fun y2 =>
 bnd (max s.2.2.1 (W (v3.X + v3.W_))) fun r2 =>
 bnd (max s.2.2.2 (W (v3.Y + v3.H))) fun d2 =>
 some (x2, y2, r2, d2)

/-- drawref1.HullOf -/
noncomputable def ref_HullOf (l1 : (List Box)) : Option (Box × Int) :=
 bnd ((⟨(0 : Int), (0 : Int), (0 : Int), (0 : Int)⟩ : Box)) fun v1 =>
 bif decide ((l1.length : Int) = 0) then (
  bnd ((⟨(0 : Int), (0 : Int), (0 : Int), (0 : Int)⟩ : Box)) fun v2 =>
  some (v2, 9))
 else (
  need (inR l1 0) <|
  need (inR l1 0) <|
  need (inR l1 0) <|
  need (inR l1 0) <|
  bnd ((gx l1 0).X) fun x1 =>
  bnd ((gx l1 0).Y) fun y1 =>
  bnd ((gx l1 0).X) fun r1 =>
  bnd ((gx l1 0).Y) fun d1 =>
  Option.bind (α := (Int × Int × Int × Int)) (
   rfor (l1.length : Int) (ref_HullOf_L1 l1) (x1, y1, r1, d1)) fun j_12 =>
  bif (decide (20000 < (W (j_12.2.2.1 - j_12.1)))) || (decide (20000 < (W (j_12.2.2.2 - j_12.2.1)))) then (
   bnd ((⟨(0 : Int), (0 : Int), (0 : Int), (0 : Int)⟩ : Box)) fun v4 =>
   some (v4, 4))
  else (
   bnd ((⟨j_12.1, j_12.2.1, W (j_12.2.2.1 - j_12.1), W (j_12.2.2.2 - j_12.2.1)⟩ : Box)) fun v5 =>
   some (v5, 0)))

noncomputable def ref_BoxOfNode_L1 (self : (Doc × Str) → Option (Box × Int)) (x : (Doc × Str)) (r2 : (List DNode)) (i : Int) (s : (List Box)) : Option (Res (List Box) (Res (List Box) (Box × Int))) :=
 need (inR r2 i) <|
 bnd (gx r2 i) fun v3 =>
 Option.bind (self (x.1, v3.Id)) fun r3 =>
 bif !decide (r3.2 = 0) then (
  bnd ((⟨(0 : Int), (0 : Int), (0 : Int), (0 : Int)⟩ : Box)) fun v4 =>
  some (Res.ab (Res.ab (v4, r3.2))))
 else (
  need (room (s.length + [r3.1].length)) <|
  some (Res.nx (s ++ [r3.1])))

/-- drawref1.BoxOfNode -/
noncomputable def ref_BoxOfNode_body (self : (Doc × Str) → Option (Box × Int)) (x : (Doc × Str)) : Option (Box × Int) :=
 bnd ((⟨(0 : Int), (0 : Int), (0 : Int), (0 : Int)⟩ : Box)) fun v1 =>
 Option.bind (ref_NodeAt x.1 x.2) fun r1 =>
 need (inR x.1.Nodes r1) <|
 bnd (gx x.1.Nodes r1) fun v2 =>
 bif !decide (v2.Kind = 6) then (
  some (v2.Box, 0))
 else (
  Option.bind (ref_members x.1 x.2) fun r2 =>
  bindR (σ := (List Box)) (ρ := (Box × Int)) (
   rforE (r2.length : Int) (ref_BoxOfNode_L1 self x r2) (fun s => Res.nx s) ([] : List Box)) fun j_7 =>
  Option.bind (ref_HullOf j_7) fun r4 =>
  bif !decide (r4.2 = 0) then (
   bnd ((⟨(0 : Int), (0 : Int), (0 : Int), (0 : Int)⟩ : Box)) fun v5 =>
   some (v5, r4.2))
  else (
   bnd ((⟨W (r4.1.X - 10), W (r4.1.Y - 10), W (r4.1.W_ + 20), W (r4.1.H + 20)⟩ : Box)) fun v6 =>
   Option.bind (ref_BoxError v6) fun r5 =>
   some (v6, r5)))

noncomputable def ref_BoxOfNode (d1 : Doc) (id1 : Str) : Option (Box × Int) := fixp ref_BoxOfNode_body (d1, id1)

noncomputable def ref_DocError_L1 (d1 : Doc) (i : Int) (s : Unit) : Option (Res Unit (Res Unit Int)) :=
 Option.bind (ref_nodeError d1 i) fun e1 =>
 bif !decide (e1 = 0) then (
  some (Res.ab (Res.ab e1)))
 else (
  some (Res.nx ()))

noncomputable def ref_DocError_L2 (d1 : Doc) (i : Int) (s : Unit) : Option (Res Unit (Res Unit Int)) :=
 Option.bind (ref_edgeError d1 i) fun e3 =>
 bif !decide (e3 = 0) then (
  some (Res.ab (Res.ab e3)))
 else (
  some (Res.nx ()))

noncomputable def ref_DocError_L3 (d1 : Doc) (i : Int) (s : Unit) : Option (Res Unit (Res Unit Int)) :=
 need (inR d1.Nodes i) <|
 bnd (gx d1.Nodes i) fun v1 =>
 Option.bind (ref_BoxOfNode d1 v1.Id) fun r1 =>
 bif !decide (r1.2 = 0) then (
  some (Res.ab (Res.ab r1.2)))
 else (
  some (Res.nx ()))

/-- drawref1.DocError -/
noncomputable def ref_DocError (d1 : Doc) : Option Int :=
 bif (decide (500 < (d1.Nodes.length : Int))) || (decide (1000 < (d1.Edges.length : Int))) then (
  some 4)
 else (
  bindR (σ := Unit) (ρ := Int) (
   rforE (d1.Nodes.length : Int) (ref_DocError_L1 d1) (fun s => Res.nx s) ()) fun j_2 =>
  Option.bind (ref_treeError d1) fun e2 =>
  bif !decide (e2 = 0) then (
   some e2)
  else (
   bindR (σ := Unit) (ρ := Int) (
    rforE (d1.Edges.length : Int) (ref_DocError_L2 d1) (fun s => Res.nx s) ()) fun j_10 =>
   bindR (σ := Unit) (ρ := Int) (
    rforE (d1.Nodes.length : Int) (ref_DocError_L3 d1) (fun s => Res.nx s) ()) fun j_16 =>
   some 0))

/-- drawref1.Down -/
noncomputable def ref_Down (a1 : Int) (b1 : Int) : Option Int :=
 need (0 < b1) <|
 bnd (a1.tdiv b1) fun q1 =>
 Option.bind (α := Int) (
  bif decide (a1 < (W (q1 * b1))) then (
   bnd (W (q1 - 1)) fun q2 =>
   some q2)
  else (
   some q1)) fun j_3 =>
 some j_3

noncomputable def ref_OrderOf_1_L1 (self : (Str × Doc × (List Str)) → Option (List Str)) (x : (Str × Doc × (List Str))) (r1 : (List DNode)) (i : Int) (s : (List Str)) : Option (List Str) :=
 need (inR r1 i) <|
 bnd (gx r1 i) fun v1 =>
 need (room (s.length + [v1.Id].length)) <|
 bnd (s ++ [v1.Id]) fun c1 =>
 bif decide (v1.Kind = 6) then (
  Option.bind (self (v1.Id, x.2.1, c1)) fun r2 =>
  some r2)
 else (
  some c1)

/-- drawref1.OrderOf$1 -/
noncomputable def ref_OrderOf_1_body (self : (Str × Doc × (List Str)) → Option (List Str)) (x : (Str × Doc × (List Str))) : Option (List Str) :=
 Option.bind (ref_members x.2.1 x.1) fun r1 =>
 Option.bind (α := (List Str)) (
  rfor (r1.length : Int) (ref_OrderOf_1_L1 self x r1) x.2.2) fun j_2 =>
 some j_2

noncomputable def ref_OrderOf_1 (parent1 : Str) (c0_1 : Doc) (c1_1 : (List Str)) : Option (List Str) := fixp ref_OrderOf_1_body (parent1, c0_1, c1_1)

noncomputable def ref_OrderOf_L1 (d1 : Doc) (i : Int) (s : (List Str)) : Option (List Str) :=
 need (inR d1.Edges i) <|
 bnd (gx d1.Edges i) fun v1 =>
 need (room (s.length + [v1.Id].length)) <|
 some (s ++ [v1.Id])

/-- drawref1.OrderOf -/
noncomputable def ref_OrderOf (d1 : Doc) : Option (List Str) :=
 Option.bind (ref_OrderOf_1 Str.nil d1 ([] : List Str)) fun r1 =>
 Option.bind (α := (List Str)) (
  rfor (d1.Edges.length : Int) (ref_OrderOf_L1 d1) r1) fun j_2 =>
 some j_2

/-- drawref1.Sign -/
noncomputable def ref_Sign (n1 : Int) : Option Int :=
 some (min (max n1 (-1)) 1)

/-- drawref1.HasOf$1 -/
noncomputable def ref_HasOf_1 (n1 : Int) (most1 : Int) : Option Int :=
 Option.bind (ref_Sign (W (most1 - n1))) fun r1 =>
 some r1

/-- drawref1.Abs -/
noncomputable def ref_Abs (n1 : Int) : Option Int :=
 some (max n1 (W (-n1)))

/-- drawref1.HasOf -/
noncomputable def ref_HasOf (kind1 : Int) (b1 : Box) (p1 : Point) : Option Int :=
 bnd (W ((W (2 * (W (p1.X - b1.X)))) - b1.W_)) fun u1 =>
 bnd (W ((W (2 * (W (p1.Y - b1.Y)))) - b1.H)) fun v1 =>
 Option.bind (ref_Abs u1) fun r1 =>
 Option.bind (gd (!(decide (b1.W_ < r1))) (ref_Abs v1)) fun r2 =>
 bif (decide (b1.W_ < r1)) || (decide (b1.H < r2)) then (
  some (-1))
 else (
  Option.bind (ref_Abs u1) fun r3 =>
  Option.bind (gd (!(decide (r3 = b1.W_))) (ref_Abs v1)) fun r4 =>
  Option.bind (α := Int) (
   bif (decide (r3 = b1.W_)) || (decide (r4 = b1.H)) then (
    some 0)
   else (
    some 1)) fun j_8 =>
  bindR (σ := Unit) (ρ := Int) (
   bif decide (kind1 = 3) then (
    Option.bind (ref_HasOf_1 (W ((W ((W ((W (u1 * u1)) * b1.H)) * b1.H)) + (W ((W ((W (v1 * v1)) * b1.W_)) * b1.W_)))) (W ((W ((W (b1.W_ * b1.W_)) * b1.H)) * b1.H))) fun r5 =>
    some (Res.ab r5))
   else (
    bif decide (kind1 = 4) then (
     Option.bind (ref_Abs u1) fun r6 =>
     Option.bind (ref_Abs v1) fun r7 =>
     Option.bind (ref_HasOf_1 (W ((W (r6 * b1.H)) + (W (r7 * b1.W_)))) (W (b1.W_ * b1.H))) fun r8 =>
     some (Res.ab r8))
    else (
     bif decide (kind1 = 2) then (
      Option.bind (α := (Int × Int × Int × Int)) (
       bif decide (b1.W_ < b1.H) then (
        some (v1, u1, b1.H, b1.W_))
       else (
        some (u1, v1, b1.W_, b1.H))) fun j_18 =>
      Option.bind (ref_Abs j_18.1) fun r9 =>
      bnd (max (W (r9 - (W (j_18.2.2.1 - j_18.2.2.2)))) 0) fun s1 =>
      Option.bind (ref_HasOf_1 (W ((W (s1 * s1)) + (W (j_18.2.1 * j_18.2.1)))) (W (j_18.2.2.2 * j_18.2.2.2))) fun r10 =>
      some (Res.ab r10))
     else (
      bif decide (kind1 = 5) then (
       bnd ((min b1.W_ b1.H).tdiv 4) fun n1 =>
       bnd (W ((W ((W ((W (p1.X - b1.X)) - b1.W_)) + n1)) - (W (p1.Y - b1.Y)))) fun d1 =>
       bif (decide (0 < d1)) && (decide (0 < n1)) then (
        some (Res.ab (-1)))
       else (
        bif (decide (d1 = 0)) && (decide (0 < n1)) then (
         some (Res.ab 0))
        else (
         some (Res.nx ()))))
      else (
       some (Res.nx ())))))) fun j_10 =>
  some j_8)

noncomputable def ref_HitOf_L1 (d1 : Doc) (p1 : Point) (r1 : (List Str)) (i : Int) (s : (Str × Str)) : Option (Str × Str) :=
 need (inR r1 i) <|
 bnd (gx r1 i) fun id1 =>
 Option.bind (ref_NodeAt d1 id1) fun k1 =>
 bif decide (k1 < 0) then (
  some (s.1, s.2))
 else (
  Option.bind (ref_BoxOfNode d1 id1) fun r2 =>
  need (inR d1.Nodes k1) <|
  need ((!decide (((gx d1.Nodes k1).Kind) = 6)) = true → inR d1.Nodes k1) <|
  Option.bind (gd ((!decide (((gx d1.Nodes k1).Kind) = 6))) (ref_HasOf ((gx d1.Nodes k1).Kind) r2.1 p1)) fun r3 =>
  bif (!decide (((gx d1.Nodes k1).Kind) = 6)) && (decide (0 ≤ r3)) then (
   some (id1, s.2))
  else (
   need (inR d1.Nodes k1) <|
   Option.bind (gd ((decide (((gx d1.Nodes k1).Kind) = 6))) (ref_In p1.X r2.1.X (W (r2.1.X + r2.1.W_)))) fun r4 =>
   Option.bind (gd (((decide (((gx d1.Nodes k1).Kind) = 6)) && r4)) (ref_In p1.Y r2.1.Y (W (r2.1.Y + r2.1.H)))) fun r5 =>
   bif ((decide (((gx d1.Nodes k1).Kind) = 6)) && r4) && r5 then (
    some (s.1, id1))
   else (
    some (s.1, s.2))))

/-- drawref1.HitOf -/
noncomputable def ref_HitOf (d1 : Doc) (p1 : Point) : Option Str :=
 Option.bind (ref_OrderOf d1) fun r1 =>
 Option.bind (α := (Str × Str)) (
  rfor (r1.length : Int) (ref_HitOf_L1 d1 p1 r1) (Str.nil, Str.nil)) fun j_2 =>
 bif !decide (j_2.1 = Str.nil) then (
  some j_2.1)
 else (
  some j_2.2)

noncomputable def ref_PortOf_L1 (b1 : Box) (x1 : Int) (kind1 : Int) (s8_ : Int) : Option (Step Int (Res Unit Point)) :=
 bif decide (s8_ ≤ (W (b1.Y + b1.H))) then (
  bnd ((⟨x1, s8_⟩ : Point)) fun v2 =>
  Option.bind (ref_HasOf kind1 b1 v2) fun r3 =>
  bif decide (0 ≤ r3) then (
   some (Step.done (Res.ab v2)))
  else (
   bnd (W (s8_ + 1)) fun k1 =>
   some (Step.again k1)))
 else (
  some (Step.done (Res.nx ())))

noncomputable def ref_PortOf_L2 (b1 : Box) (x1 : Int) (kind1 : Int) (s16_ : Int) : Option (Step Int (Res Unit Point)) :=
 bif decide (b1.Y ≤ s16_) then (
  bnd ((⟨x1, s16_⟩ : Point)) fun v3 =>
  Option.bind (ref_HasOf kind1 b1 v3) fun r4 =>
  bif decide (0 ≤ r4) then (
   some (Step.done (Res.ab v3)))
  else (
   bnd (W (s16_ - 1)) fun k3 =>
   some (Step.again k3)))
 else (
  some (Step.done (Res.nx ())))

noncomputable def ref_PortOf_L3 (b1 : Box) (y1 : Int) (kind1 : Int) (s23_ : Int) : Option (Step Int (Res Unit Point)) :=
 bif decide (s23_ ≤ (W (b1.X + b1.W_))) then (
  bnd ((⟨s23_, y1⟩ : Point)) fun v4 =>
  Option.bind (ref_HasOf kind1 b1 v4) fun r5 =>
  bif decide (0 ≤ r5) then (
   some (Step.done (Res.ab v4)))
  else (
   bnd (W (s23_ + 1)) fun k4 =>
   some (Step.again k4)))
 else (
  some (Step.done (Res.nx ())))

noncomputable def ref_PortOf_L4 (b1 : Box) (y1 : Int) (kind1 : Int) (s30_ : Int) : Option (Step Int (Res Unit Point)) :=
 bif decide (b1.X ≤ s30_) then (
  bnd ((⟨s30_, y1⟩ : Point)) fun v5 =>
  Option.bind (ref_HasOf kind1 b1 v5) fun r6 =>
  bif decide (0 ≤ r6) then (
   some (Step.done (Res.ab v5)))
  else (
   bnd (W (s30_ - 1)) fun k6 =>
   some (Step.again k6)))
 else (
  some (Step.done (Res.nx ())))

/-- drawref1.PortOf -/
noncomputable def ref_PortOf (kind1 : Int) (b1 : Box) (side1 : Int) (at1 : Int) : Option Point :=
 bnd ((⟨(0 : Int), (0 : Int)⟩ : Point)) fun v1 =>
 Option.bind (ref_Down (W (b1.W_ * at1)) 1000) fun r1 =>
 Option.bind (ref_Down (W (b1.H * at1)) 1000) fun r2 =>
 bnd (W (b1.X + r1)) fun x1 =>
 bnd (W (b1.Y + r2)) fun y1 =>
 bindR (σ := Unit) (ρ := Point) (
  bif decide (side1 = 1) then (
   loop (ref_PortOf_L1 b1 x1 kind1) b1.Y)
  else (
   bif decide (side1 = 3) then (
    bnd (W (b1.Y + b1.H)) fun k2 =>
    loop (ref_PortOf_L2 b1 x1 kind1) k2)
   else (
    bif decide (side1 = 4) then (
     loop (ref_PortOf_L3 b1 y1 kind1) b1.X)
    else (
     bnd (W (b1.X + b1.W_)) fun k5 =>
     loop (ref_PortOf_L4 b1 y1 kind1) k5)))) fun j_6 =>
 bif (decide (side1 = 1)) || (decide (side1 = 3)) then (
  Option.bind (ref_Down b1.H 2) fun r7 =>
  bnd ((⟨x1, W (b1.Y + r7)⟩ : Point)) fun v6 =>
  some v6)
 else (
  Option.bind (ref_Down b1.W_ 2) fun r8 =>
  bnd ((⟨W (b1.X + r8), y1⟩ : Point)) fun v7 =>
  some v7)

/-- drawref1.PortPoint -/
noncomputable def ref_PortPoint (d1 : Doc) (x1 : DEnd) : Option Point :=
 bnd ((⟨(0 : Int), (0 : Int)⟩ : Point)) fun v1 =>
 Option.bind (ref_NodeAt d1 x1.Node) fun r1 =>
 need (inR d1.Nodes r1) <|
 bnd (gx d1.Nodes r1) fun v2 =>
 Option.bind (ref_PortOf v2.Kind v2.Box x1.Side x1.At) fun r2 =>
 some r2

/-- drawref1.LineOf -/
noncomputable def ref_LineOf (d1 : Doc) (x1 : DEdge) : Option (List Point) :=
 Option.bind (ref_PortPoint d1 x1.From) fun r1 =>
 need (room ([r1].length + x1.Bends.length)) <|
 bnd ([r1] ++ x1.Bends) fun l1 =>
 Option.bind (ref_PortPoint d1 x1.To) fun r2 =>
 need (room (l1.length + [r2].length)) <|
 some (l1 ++ [r2])

noncomputable def law_sign_L2 (c1 : Box) (l1 : (List Point)) (s20_ : Int) : Option (Step Int (Res Unit (Res Unit Str))) :=
 bif decide (s20_ < (l1.length : Int)) then (
  bindR (σ := Unit) (ρ := (Step Int (Res Unit (Res Unit Str)))) (
   need (inR l1 (W (s20_ - 1))) <|
   bnd (gx l1 (W (s20_ - 1))) fun v3 =>
   need (inR l1 s20_) <|
   bnd (gx l1 s20_) fun v4 =>
   bif decide ((decide (v3.X = v4.X)) = (decide (v3.Y = v4.Y))) then (
    some (Res.nx ()))
   else (
    bif (((decide ((min v3.X v4.X) < (W (c1.X + c1.W_)))) && (decide (c1.X ≤ (max v3.X v4.X)))) && (decide ((min v3.Y v4.Y) < (W (c1.Y + c1.H))))) && (decide (c1.Y ≤ (max v3.Y v4.Y))) then (
     some (Res.ab (Step.done (Res.ab (Res.ab (⟨[42]⟩ : Str))))))
    else (
     some (Res.nx ())))) fun j_22 =>
  bnd (W (s20_ + 1)) fun i1 =>
  some (Step.again i1))
 else (
  some (Step.done (Res.nx ())))

noncomputable def law_sign_L1 (c1 : Box) (d1 : Doc) (i : Int) (s : Unit) : Option (Res Unit (Res Unit Str)) :=
 need (inR d1.Edges i) <|
 bnd (gx d1.Edges i) fun v2 =>
 Option.bind (ref_LineOf d1 v2) fun l1 =>
 loop (law_sign_L2 c1 l1) 1

/-- drawlaw1.sign -/
noncomputable def law_sign (d1 : Doc) (c1 : Box) : Option Str :=
 Option.bind (ref_Down c1.W_ 2) fun r1 =>
 Option.bind (ref_Down c1.H 2) fun r2 =>
 bnd ((⟨W (c1.X + r1), W (c1.Y + r2)⟩ : Point)) fun v1 =>
 Option.bind (ref_PointError v1) fun r3 =>
 bindR (σ := Unit) (ρ := Str) (
  bif decide (r3 = 0) then (
   Option.bind (ref_HitOf d1 v1) fun r4 =>
   Option.bind (ref_NodeAt d1 r4) fun k1 =>
   need ((decide (0 ≤ k1)) = true → inR d1.Nodes k1) <|
   bif (decide (0 ≤ k1)) && (!decide (((gx d1.Nodes k1).Kind) = 6)) then (
    need (inR d1.Nodes k1) <|
    need (segR ((gx d1.Nodes k1).Id).b.length 0 1) <|
    some (Res.ab (⟨seg ((gx d1.Nodes k1).Id).b 0 1⟩ : Str)))
   else (
    some (Res.nx ())))
  else (
   some (Res.nx ()))) fun j_5 =>
 bindR (σ := Unit) (ρ := Str) (
  rforE (d1.Edges.length : Int) (law_sign_L1 c1 d1) (fun s => Res.nx s) ()) fun j_13 =>
 some (⟨[46]⟩ : Str)

noncomputable def law_sketchOf_L1 (d1 : Doc) (i : Int) (s : (List Box)) : Option (List Box) :=
 need (inR d1.Nodes i) <|
 bnd (gx d1.Nodes i) fun v1 =>
 bif !decide (v1.Kind = 6) then (
  need (room (s.length + [v1.Box].length)) <|
  some (s ++ [v1.Box]))
 else (
  some s)

noncomputable def law_sketchOf_L2 (j_1 : (List Box)) (i : Int) (s : (Int × Int × Int × Int)) : Option (Int × Int × Int × Int) :=
 need (inR j_1 i) <|
 bnd (gx j_1 i) fun v2 =>
 bnd (min s.1 v2.X) fun x2 =>
 bnd (min s.2.1 v2.Y) fun y2 =>
 bnd (max s.2.2.1 (W (v2.X + v2.W_))) fun r2 =>
 bnd (max s.2.2.2 (W (v2.Y + v2.H))) fun b2 =>
 some (x2, y2, r2, b2)

noncomputable def law_sketchOf_L4 (d1 : Doc) (h1 : Int) (w1 : Int) (j_18 : (Int × Int × Int × Int)) (p34_ : Int × Str) (i : Int) (s : Str) : Option Str :=
 Option.bind (law_sign d1 (⟨W (j_18.1 + (W (i * w1))), W (j_18.2.1 + (W (p34_.1 * h1))), w1, h1⟩ : Box)) fun r5 =>
 need ((s.b.length : Int) + r5.b.length ≤ 9223372036854775807) <|
 bnd ((⟨s.b ++ r5.b⟩ : Str)) fun s1 =>
 some s1

noncomputable def law_sketchOf_L3 (d1 : Doc) (h1 : Int) (w1 : Int) (j_18 : (Int × Int × Int × Int)) (columns1 : Int) (i : Int) (s : Str) : Option Str :=
 Option.bind (α := Str) (
  rfor columns1 (law_sketchOf_L4 d1 h1 w1 j_18 (i, s)) s) fun j_37 =>
 need ((j_37.b.length : Int) + (⟨[10]⟩ : Str).b.length ≤ 9223372036854775807) <|
 bnd ((⟨j_37.b ++ (⟨[10]⟩ : Str).b⟩ : Str)) fun s2 =>
 some s2

/-- drawlaw1.sketchOf -/
noncomputable def law_sketchOf (d1 : Doc) (w1 : Int) (h1 : Int) : Option (Str × Int) :=
 Option.bind (α := (List Box)) (
  rfor (d1.Nodes.length : Int) (law_sketchOf_L1 d1) ([] : List Box)) fun j_1 =>
 bif decide ((j_1.length : Int) = 0) then (
  some (Str.nil, 9))
 else (
  need (inR j_1 0) <|
  need (inR j_1 0) <|
  need (inR j_1 0) <|
  need (inR j_1 0) <|
  bnd ((gx j_1 0).X) fun x1 =>
  bnd ((gx j_1 0).Y) fun y1 =>
  bnd ((gx j_1 0).X) fun r1 =>
  bnd ((gx j_1 0).Y) fun b1 =>
  Option.bind (α := (Int × Int × Int × Int)) (
   rfor (j_1.length : Int) (law_sketchOf_L2 j_1) (x1, y1, r1, b1)) fun j_18 =>
  Option.bind (ref_Down (W (j_18.1 - j_18.2.2.1)) w1) fun r3 =>
  Option.bind (ref_Down (W (j_18.2.1 - j_18.2.2.2)) h1) fun r4 =>
  bnd (W (-r3)) fun columns1 =>
  bnd (W (-r4)) fun rows1 =>
  bif (decide (200 < columns1)) || (decide (200 < rows1)) then (
   some (Str.nil, 4))
  else (
   Option.bind (α := Str) (
    rfor rows1 (law_sketchOf_L3 d1 h1 w1 j_18 columns1) Str.nil) fun j_33 =>
   some (j_33, 0)))

/-- desk.isName -/
noncomputable def desk_isName (s1 : Str) : Option Bool :=
 need (((!decide (s1 = Str.nil)) && (decide ((s1.b.length : Int) ≤ 40))) = true → inR s1.b 0) <|
 need ((((!decide (s1 = Str.nil)) && (decide ((s1.b.length : Int) ≤ 40))) && (decide ((⟨97⟩ : KI .u8).n ≤ (⟨((gx s1.b 0).toNat : Int)⟩ : KI .u8).n))) = true → inR s1.b 0) <|
 Option.bind (gd (((((!decide (s1 = Str.nil)) && (decide ((s1.b.length : Int) ≤ 40))) && (decide ((⟨97⟩ : KI .u8).n ≤ (⟨((gx s1.b 0).toNat : Int)⟩ : KI .u8).n))) && (decide ((⟨((gx s1.b 0).toNat : Int)⟩ : KI .u8).n ≤ (⟨122⟩ : KI .u8).n)))) (strings_Trim s1 (⟨[97, 98, 99, 100, 101, 102, 103, 104, 105, 106, 107, 108, 109, 110, 111, 112, 113, 114, 115, 116, 117, 118, 119, 120, 121, 122, 48, 49, 50, 51, 52, 53, 54, 55, 56, 57, 45]⟩ : Str))) fun r1 =>
 some (((((!decide (s1 = Str.nil)) && (decide ((s1.b.length : Int) ≤ 40))) && (decide ((⟨97⟩ : KI .u8).n ≤ (⟨((gx s1.b 0).toNat : Int)⟩ : KI .u8).n))) && (decide ((⟨((gx s1.b 0).toNat : Int)⟩ : KI .u8).n ≤ (⟨122⟩ : KI .u8).n))) && (decide (r1 = Str.nil)))

noncomputable def desk_isValue_L1 (s1 : Str) (i : Int) (s : Unit) : Option (Res Unit (Res Unit Bool)) :=
 need (inR s1.b i) <|
 need ((decide ((⟨((gx s1.b i).toNat : Int)⟩ : KI .u8).n < (⟨33⟩ : KI .u8).n)) = false → inR s1.b i) <|
 need (((decide ((⟨((gx s1.b i).toNat : Int)⟩ : KI .u8).n < (⟨33⟩ : KI .u8).n)) || (decide ((⟨126⟩ : KI .u8).n < (⟨((gx s1.b i).toNat : Int)⟩ : KI .u8).n))) = false → inR s1.b i) <|
 bif ((decide ((⟨((gx s1.b i).toNat : Int)⟩ : KI .u8).n < (⟨33⟩ : KI .u8).n)) || (decide ((⟨126⟩ : KI .u8).n < (⟨((gx s1.b i).toNat : Int)⟩ : KI .u8).n))) || (decide ((⟨((gx s1.b i).toNat : Int)⟩ : KI .u8).n = (⟨34⟩ : KI .u8).n)) then (
  some (Res.ab (Res.ab false)))
 else (
  some (Res.nx ()))

/-- desk.isValue -/
noncomputable def desk_isValue (s1 : Str) : Option Bool :=
 bif (decide (s1 = Str.nil)) || (decide (40 < (s1.b.length : Int))) then (
  some false)
 else (
  bindR (σ := Unit) (ρ := Bool) (
   rforE (s1.b.length : Int) (desk_isValue_L1 s1) (fun s => Res.nx s) ()) fun j_2 =>
  some true)

noncomputable def desk_CheckRules_L1 (l1 : (List Rule)) (i : Int) (s : Unit) : Option (Res Unit (Res Unit Int)) :=
 need (inR l1 i) <|
 bnd (gx l1 i) fun v1 =>
 Option.bind (gd ((!decide (v1.Class = Str.nil))) (desk_isName v1.Class)) fun r1 =>
 bnd ((!decide (v1.Class = Str.nil)) && (!r1)) fun v2 =>
 Option.bind (α := Bool) (
  bif v2 then (
   some v2)
  else (
   Option.bind (desk_isName v1.Prop_) fun r2 =>
   bnd (!r2) fun v3 =>
   some v3)) fun j_10 =>
 bif j_10 then (
  some (Res.ab (Res.ab 5)))
 else (
  Option.bind (desk_isValue v1.Value) fun r3 =>
  bif !r3 then (
   some (Res.ab (Res.ab 2)))
  else (
   some (Res.nx ())))

/-- desk.CheckRules -/
noncomputable def desk_CheckRules (l1 : (List Rule)) : Option Int :=
 bif decide (100 < (l1.length : Int)) then (
  some 4)
 else (
  bindR (σ := Unit) (ρ := Int) (
   rforE (l1.length : Int) (desk_CheckRules_L1 l1) (fun s => Res.nx s) ()) fun j_2 =>
  some 0)

/-- drawlaw1.desks -/
noncomputable def law_desks  : Option Bool :=
 Option.bind (desk_CheckRules ([] : (List Rule))) fun r1 =>
 Option.bind (gd ((decide (r1 = 0))) (desk_CheckRules [(⟨Str.nil, Str.nil, Str.nil⟩ : Rule)])) fun r2 =>
 some ((decide (r1 = 0)) && (decide (r2 = 5)))

/-- drawlaw1.SketchesMatch$1 -/
noncomputable def law_SketchesMatch_1 (c0_1 : Str) : Option Str :=
 some c0_1

/-- drawlaw1.is[string] -/
noncomputable def law_is_string (got1 : Str) (e1 : Int) (want1 : Int) (right1 : (Option Str)) : Option Bool :=
 bif !decide (want1 = 0) then (
  some ((decide (got1 = Str.nil)) && (decide (e1 = want1))))
 else (
  Option.bind (gd ((decide (e1 = 0))) (right1)) fun r1 =>
  some ((decide (e1 = 0)) && (decide (got1 = r1))))

/-- drawlaw1.SketchesMatch -/
noncomputable def law_SketchesMatch (d1 : Doc) (w1 : Int) (h1 : Int) : Option Bool :=
 Option.bind (desk_Sketch d1 w1 h1) fun r1 =>
 Option.bind (ref_DocError d1) fun r2 =>
 Option.bind (ref_In w1 1 20000) fun r3 =>
 Option.bind (gd (!(!r3)) (ref_In h1 1 20000)) fun r4 =>
 Option.bind (ref_When ((!r3) || (!r4)) 3) fun r5 =>
 Option.bind (ref_First [r2, r5]) fun want1 =>
 Option.bind (α := (Int × Str)) (
  bif decide (want1 = 0) then (
   Option.bind (law_sketchOf d1 w1 h1) fun r6 =>
   some (r6.2, r6.1))
  else (
   some (want1, Str.nil))) fun j_7 =>
 Option.bind (law_desks) fun r7 =>
 Option.bind (gd (r7) (law_is_string r1.1 r1.2 j_7.1 (law_SketchesMatch_1 j_7.2))) fun r8 =>
 some (r7 && r8)


end Go.DB
