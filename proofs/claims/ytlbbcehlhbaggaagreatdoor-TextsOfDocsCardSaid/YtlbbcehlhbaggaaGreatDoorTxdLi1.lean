/-
  What the functions compute, as plain functions (printed by a program of one's own).
-/
import Derived.Test.YtlbbcehlhbaggaaGreatDoorTxdTy
set_option maxRecDepth 100000
set_option linter.unusedSimpArgs false
set_option linter.unusedVariables false
namespace Go.DB
open Go Go.RowKit

/-- strings.Count (of one byte) -/
noncomputable def strings_Count (s sep : Str) : Option Int := need (sep.b.length = 1) (some (countByteS s (sep.b.headD 0)))

/-- drawboard/drawref1.Quote -/
noncomputable def ref_Quote (s : Str) : Option Str := need (s.b.length ≤ 4294967296) (some (quoteS s))

/-- strconv.Itoa -/
noncomputable def strconv_Itoa (n : Int) : Option Str := need ((itoaS n).b.length ≤ 1000000) (some (itoaS n))

/-- strings.Fields -/
noncomputable def strings_Fields (s : Str) : Option (List Str) := need (s.b.length ≤ 1000000000) (some (fieldsS s))

/-- unicode/utf8.ValidString -/
noncomputable def utf8_ValidString (s : Str) : Option Bool := some (validS s)

/-- strings.Trim -/
noncomputable def strings_Trim (s cs : Str) : Option Str := need ((cs.b.length : Int) < 4294967281 ∧ cs.b.all (fun b => decide (b.toNat < 128)) = true) (some (trimS s cs))

/-- strconv.Atoi -/
noncomputable def strconv_Atoi (s : Str) : Option (Int × ErrB) := need (s.b.length ≤ 4294967281) (some (atoiI s))

/-- strings.Split -/
noncomputable def strings_Split (s sep : Str) : Option (List Str) := need ((s.b.length : Int) < 4294967281 ∧ sep.b ≠ []) (some (splitS s sep))

/-- strings.IndexByte -/
noncomputable def strings_IndexByte (s : Str) (c : KI .u8) : Option Int := need ((s.b.length : Int) < 4611686018427387904) (some (indexByteS s c))

/-- strings.Cut -/
noncomputable def strings_Cut (s sep : Str) : Option (Str × Str × Bool) := need ((s.b.length : Int) < 4294967281 ∧ (cutS s sep).1.b.length ≤ 4294967281 ∧ (cutS s sep).2.1.b.length ≤ 4294967281) (some (cutS s sep))

/-- (*strings.Builder).String -/
noncomputable def strings_Builder_String (c : Str) : Option Str := need (c.b.length ≤ 70368744177664) (some c)

/-- (*strings.Builder).Len -/
noncomputable def strings_Builder_Len (c : Str) : Option (Int × Str) := need (c.b.length ≤ 70368744177664) (some ((c.b.length : Int), c))

/-- (*strings.Builder).WriteString -/
noncomputable def strings_Builder_WriteString (c s : Str) : Option Str := need (c.b.length + s.b.length ≤ 70368744177664) (some ⟨c.b ++ s.b⟩)

/-- drawboard/edit.Quoted -/
noncomputable def edit_Quoted (s : Str) : Option Str := need (s.b.length ≤ 4294967296) (some (quoteS s))

/-- strings.Join -/
noncomputable def strings_Join (l : List Str) (sep : Str) : Option Str := need (l.length ≤ 1000000000 ∧ (joinS l sep).b.length ≤ 1000000000) (some (joinS l sep))

/-- page.isName -/
noncomputable def page_isName (s1 : Str) : Option Bool :=
 need (((!decide (s1 = Str.nil)) && (decide ((s1.b.length : Int) ≤ 40))) = true → inR s1.b 0) <|
 need (((!decide (s1 = Str.nil)) && (decide ((s1.b.length : Int) ≤ 40))) = true → (decide ((⟨97⟩ : KI .u8).n ≤ (⟨((gx s1.b 0).toNat : Int)⟩ : KI .u8).n)) = true → inR s1.b 0) <|
 Option.bind (gd ((((!decide (s1 = Str.nil)) && (decide ((s1.b.length : Int) ≤ 40))) && ((decide ((⟨97⟩ : KI .u8).n ≤ (⟨((gx s1.b 0).toNat : Int)⟩ : KI .u8).n)) && (decide ((⟨((gx s1.b 0).toNat : Int)⟩ : KI .u8).n ≤ (⟨122⟩ : KI .u8).n))))) (strings_Trim s1 (⟨[97, 98, 99, 100, 101, 102, 103, 104, 105, 106, 107, 108, 109, 110, 111, 112, 113, 114, 115, 116, 117, 118, 119, 120, 121, 122, 48, 49, 50, 51, 52, 53, 54, 55, 56, 57, 45]⟩ : Str))) fun r1 =>
 some ((((!decide (s1 = Str.nil)) && (decide ((s1.b.length : Int) ≤ 40))) && ((decide ((⟨97⟩ : KI .u8).n ≤ (⟨((gx s1.b 0).toNat : Int)⟩ : KI .u8).n)) && (decide ((⟨((gx s1.b 0).toNat : Int)⟩ : KI .u8).n ≤ (⟨122⟩ : KI .u8).n)))) && (decide (r1 = Str.nil)))

/-- geom.out -/
noncomputable def geom_out (n1 : Int) : Option Bool :=
 some ((decide (n1 < (-1000000))) || (decide (1000000 < n1)))

/-- geom.CheckBox -/
noncomputable def geom_CheckBox (b1 : Box) : Option Int :=
 Option.bind (geom_out b1.X) fun r1 =>
 Option.bind (gd (!r1) (geom_out b1.Y)) fun r2 =>
 bif ((((r1 || r2) || (decide (b1.W_ < 1))) || (decide (20000 < b1.W_))) || (decide (b1.H < 1))) || (decide (20000 < b1.H)) then (
  some 3)
 else (
  some 0)

noncomputable def shape_CheckText_L1 (s1 : Str) (i : Int) (s : Unit) : Option (Res Unit (Res Unit Int)) :=
 need (inR s1.b i) <|
 need ((decide ((⟨((gx s1.b i).toNat : Int)⟩ : KI .u8).n < (⟨32⟩ : KI .u8).n)) = true → inR s1.b i) <|
 need (((decide ((⟨((gx s1.b i).toNat : Int)⟩ : KI .u8).n < (⟨32⟩ : KI .u8).n)) && (!decide ((⟨((gx s1.b i).toNat : Int)⟩ : KI .u8).n = (⟨10⟩ : KI .u8).n))) = false → inR s1.b i) <|
 bif ((decide ((⟨((gx s1.b i).toNat : Int)⟩ : KI .u8).n < (⟨32⟩ : KI .u8).n)) && (!decide ((⟨((gx s1.b i).toNat : Int)⟩ : KI .u8).n = (⟨10⟩ : KI .u8).n))) || (decide ((⟨((gx s1.b i).toNat : Int)⟩ : KI .u8).n = (⟨127⟩ : KI .u8).n)) then (
  some (Res.ab (Res.ab 2)))
 else (
  some (Res.nx ()))

/-- shape.CheckText -/
noncomputable def shape_CheckText (s1 : Str) : Option Int :=
 bif decide (1000 < (s1.b.length : Int)) then (
  some 4)
 else (
  Option.bind (utf8_ValidString s1) fun r1 =>
  bif !r1 then (
   some 2)
  else (
   bindR (σ := Unit) (ρ := Int) (
    rforE (s1.b.length : Int) (shape_CheckText_L1 s1) (fun s => Res.nx s) ()) fun j_4 =>
   some 0))

/-- page.checkNode -/
noncomputable def page_checkNode (n1 : DNode) (twice1 : Bool) : Option Int :=
 Option.bind (page_isName n1.Id) fun r1 =>
 bif !r1 then (
  some 5)
 else (
  bif twice1 then (
   some 6)
  else (
   bif (decide (n1.Kind < 1)) || (decide (6 < n1.Kind)) then (
    some 1)
   else (
    bif (decide (n1.Kind = 6)) && (!decide (n1.Box = (⟨(0 : Int), (0 : Int), (0 : Int), (0 : Int)⟩ : Box))) then (
     some 2)
    else (
     bindR (σ := Unit) (ρ := Int) (
      bif !decide (n1.Kind = 6) then (
       Option.bind (geom_CheckBox n1.Box) fun e1 =>
       bif !decide (e1 = 0) then (
        some (Res.ab e1))
       else (
        some (Res.nx ())))
      else (
       some (Res.nx ()))) fun j_6 =>
     Option.bind (shape_CheckText n1.Text) fun e2 =>
     bif !decide (e2 = 0) then (
      some e2)
     else (
      Option.bind (gd ((!decide (n1.Class = Str.nil))) (page_isName n1.Class)) fun r2 =>
      bif (!decide (n1.Class = Str.nil)) && (!r2) then (
       some 5)
      else (
       some 0))))))

noncomputable def page_viewOf_L1 (d1 : Doc) (i : Int) (s : ((GMap Str Int) × (GMap Str (List Int)))) : Option ((GMap Str Int) × (GMap Str (List Int))) :=
 need (inR d1.Nodes i) <|
 bnd (gx d1.Nodes i) fun v1 =>
 bnd (s.1.set v1.Id i) fun c3 =>
 bif !decide (v1.Parent = Str.nil) then (
  need (room ((s.2.getD v1.Parent ([] : (List Int))).length + [i].length)) <|
  some (c3, s.2.set v1.Parent ((s.2.getD v1.Parent ([] : (List Int))) ++ [i])))
 else (
  some (c3, s.2))

/-- page.viewOf -/
noncomputable def page_viewOf (d1 : Doc) : Option (Option Page_view) :=
 bnd ((GMap.nil : (GMap Str Int))) fun c1 =>
 bnd ((GMap.nil : (GMap Str (List Int)))) fun c2 =>
 Option.bind (α := ((GMap Str Int) × (GMap Str (List Int)))) (
  rfor (d1.Nodes.length : Int) (page_viewOf_L1 d1) (c1, c2)) fun j_3 =>
 some (some (⟨d1, j_3.1, j_3.2⟩ : Page_view))

/-- (*page.view).node -/
noncomputable def page_view_node (v1 : Page_view) (id1 : Str) : Option DNode :=
 bnd ((⟨Str.nil, (0 : Int), (⟨(0 : Int), (0 : Int), (0 : Int), (0 : Int)⟩ : Box), Str.nil, Str.nil, Str.nil, false⟩ : DNode)) fun v2 =>
 need (inR v1.d.Nodes (v1.number.getD id1 (0 : Int))) <|
 bnd (gx v1.d.Nodes (v1.number.getD id1 (0 : Int))) fun v3 =>
 some v3

noncomputable def page_view_above_L1 (n1 : DNode) (v1 : Page_view) (s2_ : (Int × DNode)) : Option (Step (Int × DNode) (Res Int (Int × Bool))) :=
 bif !decide (s2_.2.Parent = Str.nil) then (
  bnd (W (s2_.1 + 1)) fun many1 =>
  bif (decide (s2_.2.Parent = n1.Id)) || (decide ((v1.d.Nodes.length : Int) < many1)) then (
   some (Step.done (Res.ab (many1, !decide (s2_.2.Parent = n1.Id)))))
  else (
   Option.bind (page_view_node v1 s2_.2.Parent) fun r1 =>
   some (Step.again (many1, r1))))
 else (
  some (Step.done (Res.nx s2_.1)))

/-- (*page.view).above -/
noncomputable def page_view_above (v1 : Page_view) (n1 : DNode) : Option (Int × Bool) :=
 bindR (σ := Int) (ρ := (Int × Bool)) (
  loop (page_view_above_L1 n1 v1) (0, n1)) fun j_1 =>
 some (j_1, true)

noncomputable def page_view_checkGroups_L1 (v1 : Page_view) (i : Int) (s : Unit) : Option (Res Unit (Res Unit Int)) :=
 need (inR v1.d.Nodes i) <|
 bnd (gx v1.d.Nodes i) fun v2 =>
 need ((!decide (v2.Parent = Str.nil)) = true → (!(v1.number.has v2.Parent)) = false → inR v1.d.Nodes (v1.number.getD v2.Parent (0 : Int))) <|
 bif (!decide (v2.Parent = Str.nil)) && ((!(v1.number.has v2.Parent)) || (!decide (((gx v1.d.Nodes (v1.number.getD v2.Parent (0 : Int))).Kind) = 6))) then (
  some (Res.ab (Res.ab 10)))
 else (
  some (Res.nx ()))

noncomputable def page_view_checkGroups_L2 (v1 : Page_view) (i : Int) (s : Unit) : Option (Res Unit (Res Unit Int)) :=
 need (inR v1.d.Nodes i) <|
 bnd (gx v1.d.Nodes i) fun v3 =>
 Option.bind (page_view_above v1 v3) fun r1 =>
 bif !r1.2 then (
  some (Res.ab (Res.ab 13)))
 else (
  some (Res.nx ()))

noncomputable def page_view_checkGroups_L3 (v1 : Page_view) (i : Int) (s : Unit) : Option (Res Unit (Res Unit Int)) :=
 need (inR v1.d.Nodes i) <|
 bnd (gx v1.d.Nodes i) fun v4 =>
 Option.bind (page_view_above v1 v4) fun r2 =>
 bif decide (8 < r2.1) then (
  some (Res.ab (Res.ab 4)))
 else (
  some (Res.nx ()))

noncomputable def page_view_checkGroups_L4 (v1 : Page_view) (i : Int) (s : Unit) : Option (Res Unit (Res Unit Int)) :=
 need (inR v1.d.Nodes i) <|
 bnd (gx v1.d.Nodes i) fun v5 =>
 bif (decide (v5.Kind = 6)) && (decide (((v1.members.getD v5.Id ([] : (List Int))).length : Int) = 0)) then (
  some (Res.ab (Res.ab 9)))
 else (
  some (Res.nx ()))

/-- (*page.view).checkGroups -/
noncomputable def page_view_checkGroups (v1 : Page_view) : Option Int :=
 bindR (σ := Unit) (ρ := Int) (
  rforE (v1.d.Nodes.length : Int) (page_view_checkGroups_L1 v1) (fun s => Res.nx s) ()) fun j_1 =>
 bindR (σ := Unit) (ρ := Int) (
  rforE (v1.d.Nodes.length : Int) (page_view_checkGroups_L2 v1) (fun s => Res.nx s) ()) fun j_9 =>
 bindR (σ := Unit) (ρ := Int) (
  rforE (v1.d.Nodes.length : Int) (page_view_checkGroups_L3 v1) (fun s => Res.nx s) ()) fun j_17 =>
 bindR (σ := Unit) (ρ := Int) (
  rforE (v1.d.Nodes.length : Int) (page_view_checkGroups_L4 v1) (fun s => Res.nx s) ()) fun j_25 =>
 some 0

/-- (*page.view).checkEnd -/
noncomputable def page_view_checkEnd (v1 : Page_view) (x1 : DEnd) : Option Int :=
 bif !(v1.number.has x1.Node) then (
  some 10)
 else (
  need (inR v1.d.Nodes (v1.number.getD x1.Node (0 : Int))) <|
  bif decide (((gx v1.d.Nodes (v1.number.getD x1.Node (0 : Int))).Kind) = 6) then (
   some 1)
  else (
   bif (((decide (x1.Side < 1)) || (decide (4 < x1.Side))) || (decide (x1.At < 0))) || (decide (1000 < x1.At)) then (
    some 3)
   else (
    some 0)))

/-- geom.CheckPoint -/
noncomputable def geom_CheckPoint (p1 : Point) : Option Int :=
 Option.bind (geom_out p1.X) fun r1 =>
 Option.bind (gd (!r1) (geom_out p1.Y)) fun r2 =>
 bif r1 || r2 then (
  some 3)
 else (
  some 0)

noncomputable def geom_points_L1 (l1 : (List Point)) (i : Int) (s : Unit) : Option (Res Unit (Res Unit Int)) :=
 need (inR l1 i) <|
 bnd (gx l1 i) fun v1 =>
 Option.bind (geom_CheckPoint v1) fun e1 =>
 bif !decide (e1 = 0) then (
  some (Res.ab (Res.ab e1)))
 else (
  some (Res.nx ()))

/-- geom.points -/
noncomputable def geom_points (l1 : (List Point)) : Option Int :=
 bindR (σ := Unit) (ρ := Int) (
  rforE (l1.length : Int) (geom_points_L1 l1) (fun s => Res.nx s) ()) fun j_1 =>
 some 0

/-- geom.CheckPoints -/
noncomputable def geom_CheckPoints (l1 : (List Point)) : Option Int :=
 bif decide (1000 < (l1.length : Int)) then (
  some 4)
 else (
  Option.bind (geom_points l1) fun r1 =>
  some r1)

noncomputable def page_view_checkEdge_L1 (v1 : Page_view) (v2 : (List DEnd)) (i : Int) (s : Unit) : Option (Res Unit (Res Unit Int)) :=
 need (inR v2 i) <|
 bnd (gx v2 i) fun v3 =>
 Option.bind (page_view_checkEnd v1 v3) fun e1 =>
 bif !decide (e1 = 0) then (
  some (Res.ab (Res.ab e1)))
 else (
  some (Res.nx ()))

/-- (*page.view).checkEdge -/
noncomputable def page_view_checkEdge (v1 : Page_view) (x1 : DEdge) (twice1 : Bool) : Option Int :=
 Option.bind (page_isName x1.Id) fun r1 =>
 bif !r1 then (
  some 5)
 else (
  bif twice1 then (
   some 6)
  else (
   bnd ([x1.From, x1.To]) fun v2 =>
   bindR (σ := Unit) (ρ := Int) (
    rforE (v2.length : Int) (page_view_checkEdge_L1 v1 v2) (fun s => Res.nx s) ()) fun j_5 =>
   bif decide (50 < (x1.Bends.length : Int)) then (
    some 4)
   else (
    Option.bind (geom_CheckPoints x1.Bends) fun e2 =>
    bif !decide (e2 = 0) then (
     some e2)
    else (
     Option.bind (shape_CheckText x1.Text) fun e3 =>
     bif !decide (e3 = 0) then (
      some e3)
     else (
      Option.bind (gd ((!decide (x1.Class = Str.nil))) (page_isName x1.Class)) fun r2 =>
      bif (!decide (x1.Class = Str.nil)) && (!r2) then (
       some 5)
      else (
       some 0))))))

noncomputable def geom_boxes_L1 (l1 : (List Box)) (i : Int) (s : Unit) : Option (Res Unit (Res Unit Int)) :=
 need (inR l1 i) <|
 bnd (gx l1 i) fun v1 =>
 Option.bind (geom_CheckBox v1) fun e1 =>
 bif !decide (e1 = 0) then (
  some (Res.ab (Res.ab e1)))
 else (
  some (Res.nx ()))

/-- geom.boxes -/
noncomputable def geom_boxes (l1 : (List Box)) : Option Int :=
 bindR (σ := Unit) (ρ := Int) (
  rforE (l1.length : Int) (geom_boxes_L1 l1) (fun s => Res.nx s) ()) fun j_1 =>
 some 0

noncomputable def geom_Hull_L1 (l1 : (List Box)) (i : Int) (s : Box) : Option Box :=
 need (inR l1 i) <|
 bnd (gx l1 i) fun v6 =>
 bnd (min s.X v6.X) fun x1 =>
 bnd (min s.Y v6.Y) fun y1 =>
 bnd ((⟨x1, y1, W ((max (W (s.X + s.W_)) (W (v6.X + v6.W_))) - x1), W ((max (W (s.Y + s.H)) (W (v6.Y + v6.H))) - y1)⟩ : Box)) fun v7 =>
 some v7

/-- geom.Hull -/
noncomputable def geom_Hull (l1 : (List Box)) : Option (Box × Int) :=
 bnd ((⟨(0 : Int), (0 : Int), (0 : Int), (0 : Int)⟩ : Box)) fun v1 =>
 bif decide (1000 < (l1.length : Int)) then (
  bnd ((⟨(0 : Int), (0 : Int), (0 : Int), (0 : Int)⟩ : Box)) fun v2 =>
  some (v2, 4))
 else (
  Option.bind (geom_boxes l1) fun e1 =>
  bif !decide (e1 = 0) then (
   bnd ((⟨(0 : Int), (0 : Int), (0 : Int), (0 : Int)⟩ : Box)) fun v3 =>
   some (v3, e1))
  else (
   bif decide ((l1.length : Int) = 0) then (
    bnd ((⟨(0 : Int), (0 : Int), (0 : Int), (0 : Int)⟩ : Box)) fun v4 =>
    some (v4, 9))
   else (
    need (inR l1 0) <|
    bnd (gx l1 0) fun v5 =>
    Option.bind (α := Box) (
     rfor (l1.length : Int) (geom_Hull_L1 l1) v5) fun j_11 =>
    bif (decide (20000 < j_11.W_)) || (decide (20000 < j_11.H)) then (
     bnd ((⟨(0 : Int), (0 : Int), (0 : Int), (0 : Int)⟩ : Box)) fun v8 =>
     some (v8, 4))
    else (
     some (j_11, 0)))))

/-- geom.Grow -/
noncomputable def geom_Grow (b1 : Box) (n1 : Int) : Option (Box × Int) :=
 bnd ((⟨(0 : Int), (0 : Int), (0 : Int), (0 : Int)⟩ : Box)) fun v1 =>
 Option.bind (geom_CheckBox b1) fun e1 =>
 bif !decide (e1 = 0) then (
  bnd ((⟨(0 : Int), (0 : Int), (0 : Int), (0 : Int)⟩ : Box)) fun v2 =>
  some (v2, e1))
 else (
  bif (decide (n1 < (-20000))) || (decide (20000 < n1)) then (
   bnd ((⟨(0 : Int), (0 : Int), (0 : Int), (0 : Int)⟩ : Box)) fun v3 =>
   some (v3, 3))
  else (
   bnd ((⟨W (b1.X - n1), W (b1.Y - n1), W (b1.W_ + (W (2 * n1))), W (b1.H + (W (2 * n1)))⟩ : Box)) fun v4 =>
   bif (decide (v4.W_ < 1)) || (decide (v4.H < 1)) then (
    bnd ((⟨(0 : Int), (0 : Int), (0 : Int), (0 : Int)⟩ : Box)) fun v5 =>
    some (v5, 9))
   else (
    Option.bind (geom_CheckBox v4) fun e2 =>
    bif !decide (e2 = 0) then (
     bnd ((⟨(0 : Int), (0 : Int), (0 : Int), (0 : Int)⟩ : Box)) fun v6 =>
     some (v6, e2))
    else (
     some (v4, 0)))))

noncomputable def page_view_boxOf_L1 (self : (Page_view × Int) → Option (Box × Int)) (x : (Page_view × Int)) (v4 : (List Int)) (i : Int) (s : (List Box)) : Option (Res (List Box) (Res (List Box) (Box × Int))) :=
 need (inR v4 i) <|
 Option.bind (self (x.1, (gx v4 i))) fun r1 =>
 bif !decide (r1.2 = 0) then (
  bnd ((⟨(0 : Int), (0 : Int), (0 : Int), (0 : Int)⟩ : Box)) fun v5 =>
  some (Res.ab (Res.ab (v5, r1.2))))
 else (
  need (room (s.length + [r1.1].length)) <|
  some (Res.nx (s ++ [r1.1])))

/-- (*page.view).boxOf -/
noncomputable def page_view_boxOf_body (self : (Page_view × Int) → Option (Box × Int)) (x : (Page_view × Int)) : Option (Box × Int) :=
 bnd ((⟨(0 : Int), (0 : Int), (0 : Int), (0 : Int)⟩ : Box)) fun v2 =>
 need (inR x.1.d.Nodes x.2) <|
 bnd (gx x.1.d.Nodes x.2) fun v3 =>
 bif !decide (v3.Kind = 6) then (
  some (v3.Box, 0))
 else (
  bnd (x.1.members.getD v3.Id ([] : (List Int))) fun v4 =>
  bindR (σ := (List Box)) (ρ := (Box × Int)) (
   rforE (v4.length : Int) (page_view_boxOf_L1 self x v4) (fun s => Res.nx s) ([] : List Box)) fun j_6 =>
  Option.bind (geom_Hull j_6) fun r2 =>
  bif !decide (r2.2 = 0) then (
   bnd ((⟨(0 : Int), (0 : Int), (0 : Int), (0 : Int)⟩ : Box)) fun v6 =>
   some (v6, r2.2))
  else (
   Option.bind (geom_Grow r2.1 10) fun r3 =>
   some (r3.1, r3.2)))

noncomputable def page_view_boxOf (v1 : Page_view) (i1 : Int) : Option (Box × Int) := fixp page_view_boxOf_body (v1, i1)

noncomputable def page_Check_L1 (d1 : Doc) (i : Int) (s : (GMap Str Bool)) : Option (Res (GMap Str Bool) (Res (GMap Str Bool) Int)) :=
 need (inR d1.Nodes i) <|
 bnd (gx d1.Nodes i) fun v1 =>
 Option.bind (page_checkNode v1 (s.getD v1.Id false)) fun e1 =>
 bif !decide (e1 = 0) then (
  some (Res.ab (Res.ab e1)))
 else (
  some (Res.nx (s.set v1.Id true)))

noncomputable def page_Check_L2 (d1 : Doc) (p1 : Page_view) (i : Int) (s : (GMap Str Bool)) : Option (Res (GMap Str Bool) (Res (GMap Str Bool) Int)) :=
 need (inR d1.Edges i) <|
 bnd (gx d1.Edges i) fun v3 =>
 Option.bind (page_view_checkEdge p1 v3 (s.getD v3.Id false)) fun e3 =>
 bif !decide (e3 = 0) then (
  some (Res.ab (Res.ab e3)))
 else (
  some (Res.nx (s.set v3.Id true)))

noncomputable def page_Check_L3 (p1 : Page_view) (i : Int) (s : Unit) : Option (Res Unit (Res Unit Int)) :=
 Option.bind (page_view_boxOf p1 i) fun r1 =>
 bif !decide (r1.2 = 0) then (
  some (Res.ab (Res.ab r1.2)))
 else (
  some (Res.nx ()))

/-- page.Check -/
noncomputable def page_Check (d1 : Doc) : Option Int :=
 bif (decide (500 < (d1.Nodes.length : Int))) || (decide (1000 < (d1.Edges.length : Int))) then (
  some 4)
 else (
  bnd ((GMap.nil : (GMap Str Bool))) fun known1 =>
  bindR (σ := (GMap Str Bool)) (ρ := Int) (
   rforE (d1.Nodes.length : Int) (page_Check_L1 d1) (fun s => Res.nx s) known1) fun j_3 =>
  Option.bind (page_viewOf d1) fun v2 =>
  Option.bind v2 fun p1 =>
  Option.bind (page_view_checkGroups p1) fun e2 =>
  bif !decide (e2 = 0) then (
   some e2)
  else (
   bindR (σ := (GMap Str Bool)) (ρ := Int) (
    rforE (d1.Edges.length : Int) (page_Check_L2 d1 p1) (fun s => Res.nx s) j_3) fun j_15 =>
   bindR (σ := Unit) (ρ := Int) (
    rforE (d1.Nodes.length : Int) (page_Check_L3 p1) (fun s => Res.nx s) ()) fun j_23 =>
   some 0))

/-- desk.isName -/
noncomputable def desk_isName (s1 : Str) : Option Bool :=
 need (((!decide (s1 = Str.nil)) && (decide ((s1.b.length : Int) ≤ 40))) = true → inR s1.b 0) <|
 need ((((!decide (s1 = Str.nil)) && (decide ((s1.b.length : Int) ≤ 40))) && (decide ((⟨97⟩ : KI .u8).n ≤ (⟨((gx s1.b 0).toNat : Int)⟩ : KI .u8).n))) = true → inR s1.b 0) <|
 Option.bind (gd (((((!decide (s1 = Str.nil)) && (decide ((s1.b.length : Int) ≤ 40))) && (decide ((⟨97⟩ : KI .u8).n ≤ (⟨((gx s1.b 0).toNat : Int)⟩ : KI .u8).n))) && (decide ((⟨((gx s1.b 0).toNat : Int)⟩ : KI .u8).n ≤ (⟨122⟩ : KI .u8).n)))) (strings_Trim s1 (⟨[97, 98, 99, 100, 101, 102, 103, 104, 105, 106, 107, 108, 109, 110, 111, 112, 113, 114, 115, 116, 117, 118, 119, 120, 121, 122, 48, 49, 50, 51, 52, 53, 54, 55, 56, 57, 45]⟩ : Str))) fun r1 =>
 some (((((!decide (s1 = Str.nil)) && (decide ((s1.b.length : Int) ≤ 40))) && (decide ((⟨97⟩ : KI .u8).n ≤ (⟨((gx s1.b 0).toNat : Int)⟩ : KI .u8).n))) && (decide ((⟨((gx s1.b 0).toNat : Int)⟩ : KI .u8).n ≤ (⟨122⟩ : KI .u8).n))) && (decide (r1 = Str.nil)))

noncomputable def desk_isValue_L1 (s1 : Str) (i : Int) (s : Unit) : Option (Res Unit (Res Unit Bool)) :=
 need (inR s1.b i) <|
 need ((decide ((⟨((gx s1.b i).toNat : Int)⟩ : KI .u8).n < (⟨33⟩ : KI .u8).n)) = false → inR s1.b i) <|
 need (((decide ((⟨((gx s1.b i).toNat : Int)⟩ : KI .u8).n < (⟨33⟩ : KI .u8).n)) || (decide ((⟨126⟩ : KI .u8).n < (⟨((gx s1.b i).toNat : Int)⟩ : KI .u8).n))) = false → inR s1.b i) <|
 bif ((decide ((⟨((gx s1.b i).toNat : Int)⟩ : KI .u8).n < (⟨33⟩ : KI .u8).n)) || (decide ((⟨126⟩ : KI .u8).n < (⟨((gx s1.b i).toNat : Int)⟩ : KI .u8).n))) || (decide ((⟨((gx s1.b i).toNat : Int)⟩ : KI .u8).n = (⟨34⟩ : KI .u8).n)) then (
  some (Res.ab (Res.ab false)))
 else (
  some (Res.nx ()))

/-- desk.isValue -/
noncomputable def desk_isValue (s1 : Str) : Option Bool :=
 bif (decide (s1 = Str.nil)) || (decide (40 < (s1.b.length : Int))) then (
  some false)
 else (
  bindR (σ := Unit) (ρ := Bool) (
   rforE (s1.b.length : Int) (desk_isValue_L1 s1) (fun s => Res.nx s) ()) fun j_2 =>
  some true)

noncomputable def desk_CheckRules_L1 (l1 : (List Rule)) (i : Int) (s : Unit) : Option (Res Unit (Res Unit Int)) :=
 need (inR l1 i) <|
 bnd (gx l1 i) fun v1 =>
 Option.bind (gd ((!decide (v1.Class = Str.nil))) (desk_isName v1.Class)) fun r1 =>
 bnd ((!decide (v1.Class = Str.nil)) && (!r1)) fun v2 =>
 Option.bind (α := Bool) (
  bif v2 then (
   some v2)
  else (
   Option.bind (desk_isName v1.Prop_) fun r2 =>
   bnd (!r2) fun v3 =>
   some v3)) fun j_10 =>
 bif j_10 then (
  some (Res.ab (Res.ab 5)))
 else (
  Option.bind (desk_isValue v1.Value) fun r3 =>
  bif !r3 then (
   some (Res.ab (Res.ab 2)))
  else (
   some (Res.nx ())))

/-- desk.CheckRules -/
noncomputable def desk_CheckRules (l1 : (List Rule)) : Option Int :=
 bif decide (100 < (l1.length : Int)) then (
  some 4)
 else (
  bindR (σ := Unit) (ρ := Int) (
   rforE (l1.length : Int) (desk_CheckRules_L1 l1) (fun s => Res.nx s) ()) fun j_2 =>
  some 0)

/-- desk.ruleLine -/
noncomputable def desk_ruleLine (r1 : Rule) : Option Str :=
 Option.bind (α := Str) (
  bif decide (r1.Class = Str.nil) then (
   bnd ((⟨[42]⟩ : Str)) fun class1 =>
   some class1)
  else (
   some r1.Class)) fun j_1 =>
 need (((⟨[115, 116, 121, 108, 101, 32]⟩ : Str).b.length : Int) + j_1.b.length ≤ 9223372036854775807) <|
 need (((⟨(⟨[115, 116, 121, 108, 101, 32]⟩ : Str).b ++ j_1.b⟩ : Str).b.length : Int) + (⟨[32]⟩ : Str).b.length ≤ 9223372036854775807) <|
 need (((⟨(⟨(⟨[115, 116, 121, 108, 101, 32]⟩ : Str).b ++ j_1.b⟩ : Str).b ++ (⟨[32]⟩ : Str).b⟩ : Str).b.length : Int) + r1.Prop_.b.length ≤ 9223372036854775807) <|
 need (((⟨(⟨(⟨(⟨[115, 116, 121, 108, 101, 32]⟩ : Str).b ++ j_1.b⟩ : Str).b ++ (⟨[32]⟩ : Str).b⟩ : Str).b ++ r1.Prop_.b⟩ : Str).b.length : Int) + (⟨[32]⟩ : Str).b.length ≤ 9223372036854775807) <|
 need (((⟨(⟨(⟨(⟨(⟨[115, 116, 121, 108, 101, 32]⟩ : Str).b ++ j_1.b⟩ : Str).b ++ (⟨[32]⟩ : Str).b⟩ : Str).b ++ r1.Prop_.b⟩ : Str).b ++ (⟨[32]⟩ : Str).b⟩ : Str).b.length : Int) + r1.Value.b.length ≤ 9223372036854775807) <|
 some (⟨(⟨(⟨(⟨(⟨(⟨[115, 116, 121, 108, 101, 32]⟩ : Str).b ++ j_1.b⟩ : Str).b ++ (⟨[32]⟩ : Str).b⟩ : Str).b ++ r1.Prop_.b⟩ : Str).b ++ (⟨[32]⟩ : Str).b⟩ : Str).b ++ r1.Value.b⟩ : Str)

/-- edit.KindWords -/
noncomputable def edit_KindWords  : Option (List Str) :=
 some [Str.nil, (⟨[98, 111, 120]⟩ : Str), (⟨[114, 111, 117, 110, 100]⟩ : Str), (⟨[111, 118, 97, 108]⟩ : Str), (⟨[100, 105, 97, 109, 111, 110, 100]⟩ : Str), (⟨[110, 111, 116, 101]⟩ : Str), (⟨[103, 114, 111, 117, 112]⟩ : Str)]

noncomputable def edit_Numbers_L1 (l1 : (List Int)) (i : Int) (s : (List Str)) : Option (List Str) :=
 need (inR l1 i) <|
 Option.bind (strconv_Itoa (gx l1 i)) fun r1 =>
 need (room (s.length + [r1].length)) <|
 some (s ++ [r1])

/-- edit.Numbers -/
noncomputable def edit_Numbers (l1 : (List Int)) : Option Str :=
 Option.bind (α := (List Str)) (
  rfor (l1.length : Int) (edit_Numbers_L1 l1) ([] : List Str)) fun j_1 =>
 Option.bind (strings_Join j_1 (⟨[32]⟩ : Str)) fun r2 =>
 some r2

/-- desk.tail -/
noncomputable def desk_tail (class1 : Str) (parent1 : Str) (locked1 : Bool) (text1 : Str) : Option Str :=
 Option.bind (α := Str) (
  bif !decide (class1 = Str.nil) then (
   need (((⟨[32, 99, 108, 97, 115, 115, 32]⟩ : Str).b.length : Int) + class1.b.length ≤ 9223372036854775807) <|
   need ((Str.nil.b.length : Int) + (⟨(⟨[32, 99, 108, 97, 115, 115, 32]⟩ : Str).b ++ class1.b⟩ : Str).b.length ≤ 9223372036854775807) <|
   bnd ((⟨Str.nil.b ++ (⟨(⟨[32, 99, 108, 97, 115, 115, 32]⟩ : Str).b ++ class1.b⟩ : Str).b⟩ : Str)) fun s1 =>
   some s1)
  else (
   some Str.nil)) fun j_1 =>
 Option.bind (α := Str) (
  bif !decide (parent1 = Str.nil) then (
   need (((⟨[32, 105, 110, 32]⟩ : Str).b.length : Int) + parent1.b.length ≤ 9223372036854775807) <|
   need ((j_1.b.length : Int) + (⟨(⟨[32, 105, 110, 32]⟩ : Str).b ++ parent1.b⟩ : Str).b.length ≤ 9223372036854775807) <|
   bnd ((⟨j_1.b ++ (⟨(⟨[32, 105, 110, 32]⟩ : Str).b ++ parent1.b⟩ : Str).b⟩ : Str)) fun s2 =>
   some s2)
  else (
   some j_1)) fun j_6 =>
 Option.bind (α := Str) (
  bif locked1 then (
   need ((j_6.b.length : Int) + (⟨[32, 108, 111, 99, 107, 101, 100]⟩ : Str).b.length ≤ 9223372036854775807) <|
   bnd ((⟨j_6.b ++ (⟨[32, 108, 111, 99, 107, 101, 100]⟩ : Str).b⟩ : Str)) fun s3 =>
   some s3)
  else (
   some j_6)) fun j_11 =>
 Option.bind (α := Str) (
  bif !decide (text1 = Str.nil) then (
   Option.bind (edit_Quoted text1) fun r1 =>
   need (((⟨[32]⟩ : Str).b.length : Int) + r1.b.length ≤ 9223372036854775807) <|
   need ((j_11.b.length : Int) + (⟨(⟨[32]⟩ : Str).b ++ r1.b⟩ : Str).b.length ≤ 9223372036854775807) <|
   bnd ((⟨j_11.b ++ (⟨(⟨[32]⟩ : Str).b ++ r1.b⟩ : Str).b⟩ : Str)) fun s4 =>
   some s4)
  else (
   some j_11)) fun j_15 =>
 some j_15

/-- desk.nodeLine -/
noncomputable def desk_nodeLine (n1 : DNode) : Option Str :=
 Option.bind (edit_KindWords) fun r1 =>
 need (inR r1 n1.Kind) <|
 need (((gx r1 n1.Kind).b.length : Int) + (⟨[32]⟩ : Str).b.length ≤ 9223372036854775807) <|
 need (((⟨(gx r1 n1.Kind).b ++ (⟨[32]⟩ : Str).b⟩ : Str).b.length : Int) + n1.Id.b.length ≤ 9223372036854775807) <|
 bnd ((⟨(⟨(gx r1 n1.Kind).b ++ (⟨[32]⟩ : Str).b⟩ : Str).b ++ n1.Id.b⟩ : Str)) fun s1 =>
 Option.bind (α := Str) (
  bif !decide (n1.Kind = 6) then (
   Option.bind (edit_Numbers [n1.Box.X, n1.Box.Y, n1.Box.W_, n1.Box.H]) fun r2 =>
   need (((⟨[32]⟩ : Str).b.length : Int) + r2.b.length ≤ 9223372036854775807) <|
   need ((s1.b.length : Int) + (⟨(⟨[32]⟩ : Str).b ++ r2.b⟩ : Str).b.length ≤ 9223372036854775807) <|
   bnd ((⟨s1.b ++ (⟨(⟨[32]⟩ : Str).b ++ r2.b⟩ : Str).b⟩ : Str)) fun s2 =>
   some s2)
  else (
   some s1)) fun j_6 =>
 Option.bind (desk_tail n1.Class n1.Parent n1.Locked n1.Text) fun r3 =>
 need ((j_6.b.length : Int) + r3.b.length ≤ 9223372036854775807) <|
 some (⟨j_6.b ++ r3.b⟩ : Str)

/-- edit.SideWords -/
noncomputable def edit_SideWords  : Option (List Str) :=
 some [Str.nil, (⟨[117, 112]⟩ : Str), (⟨[114, 105, 103, 104, 116]⟩ : Str), (⟨[100, 111, 119, 110]⟩ : Str), (⟨[108, 101, 102, 116]⟩ : Str)]

/-- edit.EndText -/
noncomputable def edit_EndText (x1 : DEnd) : Option Str :=
 need ((x1.Node.b.length : Int) + (⟨[32]⟩ : Str).b.length ≤ 9223372036854775807) <|
 Option.bind (edit_SideWords) fun r1 =>
 need (inR r1 x1.Side) <|
 need (((⟨x1.Node.b ++ (⟨[32]⟩ : Str).b⟩ : Str).b.length : Int) + (gx r1 x1.Side).b.length ≤ 9223372036854775807) <|
 need (((⟨(⟨x1.Node.b ++ (⟨[32]⟩ : Str).b⟩ : Str).b ++ (gx r1 x1.Side).b⟩ : Str).b.length : Int) + (⟨[32]⟩ : Str).b.length ≤ 9223372036854775807) <|
 Option.bind (strconv_Itoa x1.At) fun r2 =>
 need (((⟨(⟨(⟨x1.Node.b ++ (⟨[32]⟩ : Str).b⟩ : Str).b ++ (gx r1 x1.Side).b⟩ : Str).b ++ (⟨[32]⟩ : Str).b⟩ : Str).b.length : Int) + r2.b.length ≤ 9223372036854775807) <|
 some (⟨(⟨(⟨(⟨x1.Node.b ++ (⟨[32]⟩ : Str).b⟩ : Str).b ++ (gx r1 x1.Side).b⟩ : Str).b ++ (⟨[32]⟩ : Str).b⟩ : Str).b ++ r2.b⟩ : Str)

noncomputable def edit_Coords_L1 (l1 : (List Point)) (i : Int) (s : (List Int)) : Option (List Int) :=
 need (inR l1 i) <|
 bnd (gx l1 i) fun v1 =>
 need (room (s.length + [v1.X, v1.Y].length)) <|
 some (s ++ [v1.X, v1.Y])

/-- edit.Coords -/
noncomputable def edit_Coords (l1 : (List Point)) : Option (List Int) :=
 Option.bind (α := (List Int)) (
  rfor (l1.length : Int) (edit_Coords_L1 l1) ([] : List Int)) fun j_1 =>
 some j_1

/-- desk.edgeLine -/
noncomputable def desk_edgeLine (x1 : DEdge) : Option Str :=
 need (((⟨[101, 100, 103, 101, 32]⟩ : Str).b.length : Int) + x1.Id.b.length ≤ 9223372036854775807) <|
 need (((⟨(⟨[101, 100, 103, 101, 32]⟩ : Str).b ++ x1.Id.b⟩ : Str).b.length : Int) + (⟨[32]⟩ : Str).b.length ≤ 9223372036854775807) <|
 Option.bind (edit_EndText x1.From) fun r1 =>
 need (((⟨(⟨(⟨[101, 100, 103, 101, 32]⟩ : Str).b ++ x1.Id.b⟩ : Str).b ++ (⟨[32]⟩ : Str).b⟩ : Str).b.length : Int) + r1.b.length ≤ 9223372036854775807) <|
 need (((⟨(⟨(⟨(⟨[101, 100, 103, 101, 32]⟩ : Str).b ++ x1.Id.b⟩ : Str).b ++ (⟨[32]⟩ : Str).b⟩ : Str).b ++ r1.b⟩ : Str).b.length : Int) + (⟨[32]⟩ : Str).b.length ≤ 9223372036854775807) <|
 Option.bind (edit_EndText x1.To) fun r2 =>
 need (((⟨(⟨(⟨(⟨(⟨[101, 100, 103, 101, 32]⟩ : Str).b ++ x1.Id.b⟩ : Str).b ++ (⟨[32]⟩ : Str).b⟩ : Str).b ++ r1.b⟩ : Str).b ++ (⟨[32]⟩ : Str).b⟩ : Str).b.length : Int) + r2.b.length ≤ 9223372036854775807) <|
 bnd ((⟨(⟨(⟨(⟨(⟨(⟨[101, 100, 103, 101, 32]⟩ : Str).b ++ x1.Id.b⟩ : Str).b ++ (⟨[32]⟩ : Str).b⟩ : Str).b ++ r1.b⟩ : Str).b ++ (⟨[32]⟩ : Str).b⟩ : Str).b ++ r2.b⟩ : Str)) fun s1 =>
 Option.bind (α := Str) (
  bif decide (0 < (x1.Bends.length : Int)) then (
   Option.bind (edit_Coords x1.Bends) fun r3 =>
   Option.bind (edit_Numbers r3) fun r4 =>
   need (((⟨[32, 98, 121, 32]⟩ : Str).b.length : Int) + r4.b.length ≤ 9223372036854775807) <|
   need ((s1.b.length : Int) + (⟨(⟨[32, 98, 121, 32]⟩ : Str).b ++ r4.b⟩ : Str).b.length ≤ 9223372036854775807) <|
   bnd ((⟨s1.b ++ (⟨(⟨[32, 98, 121, 32]⟩ : Str).b ++ r4.b⟩ : Str).b⟩ : Str)) fun s2 =>
   some s2)
  else (
   some s1)) fun j_9 =>
 Option.bind (desk_tail x1.Class Str.nil false x1.Text) fun r5 =>
 need ((j_9.b.length : Int) + r5.b.length ≤ 9223372036854775807) <|
 some (⟨j_9.b ++ r5.b⟩ : Str)

noncomputable def desk_Print_L1 (l1 : (List Rule)) (i : Int) (s : Str) : Option Str :=
 need (inR l1 i) <|
 bnd (gx l1 i) fun v1 =>
 Option.bind (desk_ruleLine v1) fun r1 =>
 need ((r1.b.length : Int) + (⟨[10]⟩ : Str).b.length ≤ 9223372036854775807) <|
 Option.bind (strings_Builder_WriteString s (⟨r1.b ++ (⟨[10]⟩ : Str).b⟩ : Str)) fun r2 =>
 some r2

noncomputable def desk_Print_L2 (d1 : Doc) (i : Int) (s : Str) : Option Str :=
 need (inR d1.Nodes i) <|
 bnd (gx d1.Nodes i) fun v2 =>
 Option.bind (desk_nodeLine v2) fun r3 =>
 need ((r3.b.length : Int) + (⟨[10]⟩ : Str).b.length ≤ 9223372036854775807) <|
 Option.bind (strings_Builder_WriteString s (⟨r3.b ++ (⟨[10]⟩ : Str).b⟩ : Str)) fun r4 =>
 some r4

noncomputable def desk_Print_L3 (d1 : Doc) (i : Int) (s : Str) : Option Str :=
 need (inR d1.Edges i) <|
 bnd (gx d1.Edges i) fun v3 =>
 Option.bind (desk_edgeLine v3) fun r5 =>
 need ((r5.b.length : Int) + (⟨[10]⟩ : Str).b.length ≤ 9223372036854775807) <|
 Option.bind (strings_Builder_WriteString s (⟨r5.b ++ (⟨[10]⟩ : Str).b⟩ : Str)) fun r6 =>
 some r6

/-- desk.Print -/
noncomputable def desk_Print (d1 : Doc) (l1 : (List Rule)) : Option (Str × Int) :=
 Option.bind (page_Check d1) fun e1 =>
 bif !decide (e1 = 0) then (
  some (Str.nil, e1))
 else (
  Option.bind (desk_CheckRules l1) fun e2 =>
  bif !decide (e2 = 0) then (
   some (Str.nil, e2))
  else (
   bnd ((⟨[]⟩ : Str)) fun b1 =>
   Option.bind (α := Str) (
    rfor (l1.length : Int) (desk_Print_L1 l1) b1) fun j_6 =>
   Option.bind (α := Str) (
    rfor (d1.Nodes.length : Int) (desk_Print_L2 d1) j_6) fun j_15 =>
   Option.bind (α := Str) (
    rfor (d1.Edges.length : Int) (desk_Print_L3 d1) j_15) fun j_24 =>
   Option.bind (strings_Builder_Len j_24) fun r7 =>
   bif decide (1048576 < r7.1) then (
    some (Str.nil, 4))
   else (
    Option.bind (strings_Builder_String r7.2) fun r8 =>
    some (r8, 0))))

/-- drawref1.nodeError$1 -/
noncomputable def ref_nodeError_1 (m1 : DNode) (c0_1 : DNode) : Option Bool :=
 some (decide (m1.Id = c0_1.Id))

noncomputable def slices_IndexFunc_Node_L1 (f1 : (DNode → Option Bool)) (s1 : (List DNode)) (i : Int) (s : Unit) : Option (Res Unit (Res Unit Int)) :=
 need (inR s1 i) <|
 Option.bind (f1 (gx s1 i)) fun r1 =>
 bif r1 then (
  some (Res.ab (Res.ab i)))
 else (
  some (Res.nx ()))

/-- slices.IndexFunc[[]api.Node,api.Node] -/
noncomputable def slices_IndexFunc_Node (s1 : (List DNode)) (f1 : (DNode → Option Bool)) : Option Int :=
 bindR (σ := Unit) (ρ := Int) (
  rforE (s1.length : Int) (slices_IndexFunc_Node_L1 f1 s1) (fun s => Res.nx s) ()) fun j_1 =>
 some (-1)

/-- slices.ContainsFunc[[]api.Node,api.Node] -/
noncomputable def slices_ContainsFunc_Node (s1 : (List DNode)) (f1 : (DNode → Option Bool)) : Option Bool :=
 Option.bind (slices_IndexFunc_Node s1 f1) fun r1 =>
 some (decide (0 ≤ r1))

noncomputable def ref_NameOf_L1 (s1 : Str) (i : Int) (s : Unit) : Option (Res Unit (Res Unit Bool)) :=
 need (inR s1.b i) <|
 bnd ((⟨((gx s1.b i).toNat : Int)⟩ : KI .u8)) fun c1 =>
 bif (!((decide ((⟨97⟩ : KI .u8).n ≤ c1.n)) && (decide (c1.n ≤ (⟨122⟩ : KI .u8).n)))) && ((decide (i = 0)) || ((!((decide ((⟨48⟩ : KI .u8).n ≤ c1.n)) && (decide (c1.n ≤ (⟨57⟩ : KI .u8).n)))) && (!decide (c1.n = (⟨45⟩ : KI .u8).n)))) then (
  some (Res.ab (Res.ab false)))
 else (
  some (Res.nx ()))

/-- drawref1.NameOf -/
noncomputable def ref_NameOf (s1 : Str) : Option Bool :=
 bindR (σ := Unit) (ρ := Bool) (
  rforE (s1.b.length : Int) (ref_NameOf_L1 s1) (fun s => Res.nx s) ()) fun j_1 =>
 some ((!decide (s1 = Str.nil)) && (decide ((s1.b.length : Int) ≤ 40)))

/-- drawref1.When -/
noncomputable def ref_When (is1 : Bool) (e1 : Int) : Option Int :=
 bif is1 then (
  some e1)
 else (
  some 0)

/-- drawref1.In -/
noncomputable def ref_In (n1 : Int) (low1 : Int) (high1 : Int) : Option Bool :=
 some ((decide (low1 ≤ n1)) && (decide (n1 ≤ high1)))

noncomputable def ref_First_L1 (l1 : (List Int)) (i : Int) (s : Unit) : Option (Res Unit (Res Unit Int)) :=
 need (inR l1 i) <|
 bnd (gx l1 i) fun e1 =>
 bif !decide (e1 = 0) then (
  some (Res.ab (Res.ab e1)))
 else (
  some (Res.nx ()))

/-- drawref1.First -/
noncomputable def ref_First (l1 : (List Int)) : Option Int :=
 bindR (σ := Unit) (ρ := Int) (
  rforE (l1.length : Int) (ref_First_L1 l1) (fun s => Res.nx s) ()) fun j_1 =>
 some 0

/-- drawref1.PointError -/
noncomputable def ref_PointError (p1 : Point) : Option Int :=
 Option.bind (ref_In p1.X (-1000000) 1000000) fun r1 =>
 Option.bind (gd (!(!r1)) (ref_In p1.Y (-1000000) 1000000)) fun r2 =>
 Option.bind (ref_When ((!r1) || (!r2)) 3) fun r3 =>
 some r3

/-- drawref1.BoxError -/
noncomputable def ref_BoxError (b1 : Box) : Option Int :=
 Option.bind (ref_PointError (⟨b1.X, b1.Y⟩ : Point)) fun r1 =>
 Option.bind (ref_In b1.W_ 1 20000) fun r2 =>
 Option.bind (gd (!(!r2)) (ref_In b1.H 1 20000)) fun r3 =>
 Option.bind (ref_When ((!r2) || (!r3)) 3) fun r4 =>
 Option.bind (ref_First [r1, r4]) fun r5 =>
 some r5

noncomputable def ref_TextError_L1 (s1 : Str) (i : Int) (s : Bool) : Option Bool :=
 need (s = false → inR s1.b i) <|
 need (s = false → (decide ((⟨((gx s1.b i).toNat : Int)⟩ : KI .u8).n < (⟨32⟩ : KI .u8).n)) = true → inR s1.b i) <|
 need ((s || ((decide ((⟨((gx s1.b i).toNat : Int)⟩ : KI .u8).n < (⟨32⟩ : KI .u8).n)) && (!decide ((⟨((gx s1.b i).toNat : Int)⟩ : KI .u8).n = (⟨10⟩ : KI .u8).n)))) = false → inR s1.b i) <|
 bnd ((s || ((decide ((⟨((gx s1.b i).toNat : Int)⟩ : KI .u8).n < (⟨32⟩ : KI .u8).n)) && (!decide ((⟨((gx s1.b i).toNat : Int)⟩ : KI .u8).n = (⟨10⟩ : KI .u8).n)))) || (decide ((⟨((gx s1.b i).toNat : Int)⟩ : KI .u8).n = (⟨127⟩ : KI .u8).n))) fun bad2 =>
 some bad2

/-- drawref1.TextError -/
noncomputable def ref_TextError (s1 : Str) : Option Int :=
 Option.bind (utf8_ValidString s1) fun r1 =>
 bnd (!r1) fun bad1 =>
 Option.bind (α := Bool) (
  rfor (s1.b.length : Int) (ref_TextError_L1 s1) bad1) fun j_3 =>
 Option.bind (ref_When (decide (1000 < (s1.b.length : Int))) 4) fun r2 =>
 Option.bind (ref_When j_3 2) fun r3 =>
 Option.bind (ref_First [r2, r3]) fun r4 =>
 some r4

/-- drawref1.classError -/
noncomputable def ref_classError (s1 : Str) : Option Int :=
 Option.bind (gd ((!decide (s1 = Str.nil))) (ref_NameOf s1)) fun r1 =>
 Option.bind (ref_When ((!decide (s1 = Str.nil)) && (!r1)) 5) fun r2 =>
 some r2

/-- drawref1.nodeError -/
noncomputable def ref_nodeError (d1 : Doc) (i1 : Int) : Option Int :=
 need (inR d1.Nodes i1) <|
 bnd (gx d1.Nodes i1) fun v1 =>
 need (segR d1.Nodes.length 0 i1) <|
 Option.bind (slices_ContainsFunc_Node (seg d1.Nodes 0 i1) (fun x0 => ref_nodeError_1 x0 v1)) fun twice1 =>
 Option.bind (ref_NameOf v1.Id) fun r1 =>
 Option.bind (ref_When (!r1) 5) fun r2 =>
 Option.bind (ref_When twice1 6) fun r3 =>
 Option.bind (ref_In v1.Kind 1 6) fun r4 =>
 Option.bind (ref_When (!r4) 1) fun r5 =>
 Option.bind (ref_First [r2, r3, r5]) fun e1 =>
 bif !decide (e1 = 0) then (
  some e1)
 else (
  Option.bind (ref_When (!decide (v1.Box = (⟨(0 : Int), (0 : Int), (0 : Int), (0 : Int)⟩ : Box))) 2) fun box1 =>
  Option.bind (α := Int) (
   bif !decide (v1.Kind = 6) then (
    Option.bind (ref_BoxError v1.Box) fun box2 =>
    some box2)
   else (
    some box1)) fun j_13 =>
  Option.bind (ref_TextError v1.Text) fun r6 =>
  Option.bind (ref_classError v1.Class) fun r7 =>
  Option.bind (ref_First [j_13, r6, r7]) fun r8 =>
  some r8)

/-- drawref1.NodeAt$1 -/
noncomputable def ref_NodeAt_1 (n1 : DNode) (c0_1 : Str) : Option Bool :=
 some (decide (n1.Id = c0_1))

/-- drawref1.NodeAt -/
noncomputable def ref_NodeAt (d1 : Doc) (id1 : Str) : Option Int :=
 Option.bind (slices_IndexFunc_Node d1.Nodes (fun x0 => ref_NodeAt_1 x0 id1)) fun r1 =>
 some r1

noncomputable def ref_above_L1 (d1 : Doc) (n1 : DNode) (s2_ : (Int × Str)) : Option (Step (Int × Str) (Res Int (Int × Bool))) :=
 bif !decide (s2_.2 = Str.nil) then (
  bnd (W (s2_.1 + 1)) fun many1 =>
  bif (decide (s2_.2 = n1.Id)) || (decide ((d1.Nodes.length : Int) < many1)) then (
   some (Step.done (Res.ab (many1, decide (s2_.2 = n1.Id)))))
  else (
   Option.bind (ref_NodeAt d1 s2_.2) fun r1 =>
   need (inR d1.Nodes r1) <|
   bnd ((gx d1.Nodes r1).Parent) fun id1 =>
   some (Step.again (many1, id1))))
 else (
  some (Step.done (Res.nx s2_.1)))

/-- drawref1.above -/
noncomputable def ref_above (d1 : Doc) (n1 : DNode) : Option (Int × Bool) :=
 bindR (σ := Int) (ρ := (Int × Bool)) (
  loop (ref_above_L1 d1 n1) (0, n1.Parent)) fun j_1 =>
 some (j_1, false)

noncomputable def ref_members_L1 (d1 : Doc) (id1 : Str) (i : Int) (s : (List DNode)) : Option (List DNode) :=
 need (inR d1.Nodes i) <|
 bnd (gx d1.Nodes i) fun v1 =>
 bif decide (v1.Parent = id1) then (
  need (room (s.length + [v1].length)) <|
  some (s ++ [v1]))
 else (
  some s)

/-- drawref1.members -/
noncomputable def ref_members (d1 : Doc) (id1 : Str) : Option (List DNode) :=
 Option.bind (α := (List DNode)) (
  rfor (d1.Nodes.length : Int) (ref_members_L1 d1 id1) ([] : List DNode)) fun j_1 =>
 some j_1

noncomputable def ref_treeError_L1 (d1 : Doc) (i : Int) (s : Unit) : Option (Res Unit (Res Unit Int)) :=
 need (inR d1.Nodes i) <|
 bnd (gx d1.Nodes i) fun v1 =>
 Option.bind (ref_NodeAt d1 v1.Parent) fun k1 =>
 need ((!decide (v1.Parent = Str.nil)) = true → (decide (k1 < 0)) = false → inR d1.Nodes k1) <|
 bif (!decide (v1.Parent = Str.nil)) && ((decide (k1 < 0)) || (!decide (((gx d1.Nodes k1).Kind) = 6))) then (
  some (Res.ab (Res.ab 10)))
 else (
  some (Res.nx ()))

noncomputable def ref_treeError_L2 (d1 : Doc) (i : Int) (s : Unit) : Option (Res Unit (Res Unit Int)) :=
 need (inR d1.Nodes i) <|
 bnd (gx d1.Nodes i) fun v2 =>
 Option.bind (ref_above d1 v2) fun r1 =>
 bif r1.2 then (
  some (Res.ab (Res.ab 13)))
 else (
  some (Res.nx ()))

noncomputable def ref_treeError_L3 (d1 : Doc) (i : Int) (s : Unit) : Option (Res Unit (Res Unit Int)) :=
 need (inR d1.Nodes i) <|
 bnd (gx d1.Nodes i) fun v3 =>
 Option.bind (ref_above d1 v3) fun r2 =>
 bif decide (8 < r2.1) then (
  some (Res.ab (Res.ab 4)))
 else (
  some (Res.nx ()))

noncomputable def ref_treeError_L4 (d1 : Doc) (i : Int) (s : Unit) : Option (Res Unit (Res Unit Int)) :=
 need (inR d1.Nodes i) <|
 bnd (gx d1.Nodes i) fun v4 =>
 Option.bind (gd ((decide (v4.Kind = 6))) (ref_members d1 v4.Id)) fun r3 =>
 bif (decide (v4.Kind = 6)) && (decide ((r3.length : Int) = 0)) then (
  some (Res.ab (Res.ab 9)))
 else (
  some (Res.nx ()))

/-- drawref1.treeError -/
noncomputable def ref_treeError (d1 : Doc) : Option Int :=
 bindR (σ := Unit) (ρ := Int) (
  rforE (d1.Nodes.length : Int) (ref_treeError_L1 d1) (fun s => Res.nx s) ()) fun j_1 =>
 bindR (σ := Unit) (ρ := Int) (
  rforE (d1.Nodes.length : Int) (ref_treeError_L2 d1) (fun s => Res.nx s) ()) fun j_10 =>
 bindR (σ := Unit) (ρ := Int) (
  rforE (d1.Nodes.length : Int) (ref_treeError_L3 d1) (fun s => Res.nx s) ()) fun j_18 =>
 bindR (σ := Unit) (ρ := Int) (
  rforE (d1.Nodes.length : Int) (ref_treeError_L4 d1) (fun s => Res.nx s) ()) fun j_26 =>
 some 0

/-- drawref1.edgeError$1 -/
noncomputable def ref_edgeError_1 (y1 : DEdge) (c0_1 : DEdge) : Option Bool :=
 some (decide (y1.Id = c0_1.Id))

noncomputable def slices_IndexFunc_Edge_L1 (f1 : (DEdge → Option Bool)) (s1 : (List DEdge)) (i : Int) (s : Unit) : Option (Res Unit (Res Unit Int)) :=
 need (inR s1 i) <|
 Option.bind (f1 (gx s1 i)) fun r1 =>
 bif r1 then (
  some (Res.ab (Res.ab i)))
 else (
  some (Res.nx ()))

/-- slices.IndexFunc[[]api.Edge,api.Edge] -/
noncomputable def slices_IndexFunc_Edge (s1 : (List DEdge)) (f1 : (DEdge → Option Bool)) : Option Int :=
 bindR (σ := Unit) (ρ := Int) (
  rforE (s1.length : Int) (slices_IndexFunc_Edge_L1 f1 s1) (fun s => Res.nx s) ()) fun j_1 =>
 some (-1)

/-- slices.ContainsFunc[[]api.Edge,api.Edge] -/
noncomputable def slices_ContainsFunc_Edge (s1 : (List DEdge)) (f1 : (DEdge → Option Bool)) : Option Bool :=
 Option.bind (slices_IndexFunc_Edge s1 f1) fun r1 =>
 some (decide (0 ≤ r1))

/-- drawref1.PortError -/
noncomputable def ref_PortError (side1 : Int) (at1 : Int) : Option Int :=
 Option.bind (ref_In side1 1 4) fun r1 =>
 Option.bind (gd (!(!r1)) (ref_In at1 0 1000)) fun r2 =>
 Option.bind (ref_When ((!r1) || (!r2)) 3) fun r3 =>
 some r3

noncomputable def ref_PointsError_L1 (l1 : (List Point)) (i : Int) (s : Unit) : Option (Res Unit (Res Unit Int)) :=
 need (inR l1 i) <|
 bnd (gx l1 i) fun v1 =>
 Option.bind (ref_PointError v1) fun e1 =>
 bif !decide (e1 = 0) then (
  some (Res.ab (Res.ab e1)))
 else (
  some (Res.nx ()))

/-- drawref1.PointsError -/
noncomputable def ref_PointsError (l1 : (List Point)) : Option Int :=
 bif decide (1000 < (l1.length : Int)) then (
  some 4)
 else (
  bindR (σ := Unit) (ρ := Int) (
   rforE (l1.length : Int) (ref_PointsError_L1 l1) (fun s => Res.nx s) ()) fun j_2 =>
  some 0)

noncomputable def ref_edgeError_L1 (d1 : Doc) (v2 : (List DEnd)) (i : Int) (s : Unit) : Option (Res Unit (Res Unit Int)) :=
 need (inR v2 i) <|
 bnd (gx v2 i) fun v3 =>
 Option.bind (ref_NodeAt d1 v3.Node) fun k1 =>
 bif decide (k1 < 0) then (
  some (Res.ab (Res.ab 10)))
 else (
  need (inR d1.Nodes k1) <|
  Option.bind (ref_When (decide (((gx d1.Nodes k1).Kind) = 6)) 1) fun r6 =>
  Option.bind (ref_PortError v3.Side v3.At) fun r7 =>
  Option.bind (ref_First [r6, r7]) fun e2 =>
  bif !decide (e2 = 0) then (
   some (Res.ab (Res.ab e2)))
  else (
   some (Res.nx ())))

/-- drawref1.edgeError -/
noncomputable def ref_edgeError (d1 : Doc) (i1 : Int) : Option Int :=
 need (inR d1.Edges i1) <|
 bnd (gx d1.Edges i1) fun v1 =>
 Option.bind (ref_NodeAt d1 v1.Id) fun r1 =>
 need ((decide (0 ≤ r1)) = false → segR d1.Edges.length 0 i1) <|
 Option.bind (gd (!(decide (0 ≤ r1))) (slices_ContainsFunc_Edge (seg d1.Edges 0 i1) (fun x0 => ref_edgeError_1 x0 v1))) fun r2 =>
 Option.bind (ref_NameOf v1.Id) fun r3 =>
 Option.bind (ref_When (!r3) 5) fun r4 =>
 Option.bind (ref_When ((decide (0 ≤ r1)) || r2) 6) fun r5 =>
 Option.bind (ref_First [r4, r5]) fun e1 =>
 bif !decide (e1 = 0) then (
  some e1)
 else (
  bnd ([v1.From, v1.To]) fun v2 =>
  bindR (σ := Unit) (ρ := Int) (
   rforE (v2.length : Int) (ref_edgeError_L1 d1 v2) (fun s => Res.nx s) ()) fun j_12 =>
  bif decide (50 < (v1.Bends.length : Int)) then (
   some 4)
  else (
   Option.bind (ref_PointsError v1.Bends) fun r8 =>
   Option.bind (ref_TextError v1.Text) fun r9 =>
   Option.bind (ref_classError v1.Class) fun r10 =>
   Option.bind (ref_First [r8, r9, r10]) fun r11 =>
   some r11))

noncomputable def ref_HullOf_L1 (l1 : (List Box)) (i : Int) (s : (Int × Int × Int × Int)) : Option (Int × Int × Int × Int) :=
 need (inR l1 i) <|
 bnd (gx l1 i) fun v3 =>
 bnd (min s.1 v3.X) fun x2 =>
 bnd (min s.2.1 v3.Y) fun y2 =>
 bnd (max s.2.2.1 (W (v3.X + v3.W_))) fun r2 =>
 bnd (max s.2.2.2 (W (v3.Y + v3.H))) fun d2 =>
 some (x2, y2, r2, d2)

/-- drawref1.HullOf -/
noncomputable def ref_HullOf (l1 : (List Box)) : Option (Box × Int) :=
 bnd ((⟨(0 : Int), (0 : Int), (0 : Int), (0 : Int)⟩ : Box)) fun v1 =>
 bif decide ((l1.length : Int) = 0) then (
  bnd ((⟨(0 : Int), (0 : Int), (0 : Int), (0 : Int)⟩ : Box)) fun v2 =>
  some (v2, 9))
 else (
  need (inR l1 0) <|
  need (inR l1 0) <|
  need (inR l1 0) <|
  need (inR l1 0) <|
  bnd ((gx l1 0).X) fun x1 =>
  bnd ((gx l1 0).Y) fun y1 =>
  bnd ((gx l1 0).X) fun r1 =>
  bnd ((gx l1 0).Y) fun d1 =>
  Option.bind (α := (Int × Int × Int × Int)) (
   rfor (l1.length : Int) (ref_HullOf_L1 l1) (x1, y1, r1, d1)) fun j_12 =>
  bif (decide (20000 < (W (j_12.2.2.1 - j_12.1)))) || (decide (20000 < (W (j_12.2.2.2 - j_12.2.1)))) then (
   bnd ((⟨(0 : Int), (0 : Int), (0 : Int), (0 : Int)⟩ : Box)) fun v4 =>
   some (v4, 4))
  else (
   bnd ((⟨j_12.1, j_12.2.1, W (j_12.2.2.1 - j_12.1), W (j_12.2.2.2 - j_12.2.1)⟩ : Box)) fun v5 =>
   some (v5, 0)))

noncomputable def ref_BoxOfNode_L1 (self : (Doc × Str) → Option (Box × Int)) (x : (Doc × Str)) (r2 : (List DNode)) (i : Int) (s : (List Box)) : Option (Res (List Box) (Res (List Box) (Box × Int))) :=
 need (inR r2 i) <|
 bnd (gx r2 i) fun v3 =>
 Option.bind (self (x.1, v3.Id)) fun r3 =>
 bif !decide (r3.2 = 0) then (
  bnd ((⟨(0 : Int), (0 : Int), (0 : Int), (0 : Int)⟩ : Box)) fun v4 =>
  some (Res.ab (Res.ab (v4, r3.2))))
 else (
  need (room (s.length + [r3.1].length)) <|
  some (Res.nx (s ++ [r3.1])))

/-- drawref1.BoxOfNode -/
noncomputable def ref_BoxOfNode_body (self : (Doc × Str) → Option (Box × Int)) (x : (Doc × Str)) : Option (Box × Int) :=
 bnd ((⟨(0 : Int), (0 : Int), (0 : Int), (0 : Int)⟩ : Box)) fun v1 =>
 Option.bind (ref_NodeAt x.1 x.2) fun r1 =>
 need (inR x.1.Nodes r1) <|
 bnd (gx x.1.Nodes r1) fun v2 =>
 bif !decide (v2.Kind = 6) then (
  some (v2.Box, 0))
 else (
  Option.bind (ref_members x.1 x.2) fun r2 =>
  bindR (σ := (List Box)) (ρ := (Box × Int)) (
   rforE (r2.length : Int) (ref_BoxOfNode_L1 self x r2) (fun s => Res.nx s) ([] : List Box)) fun j_7 =>
  Option.bind (ref_HullOf j_7) fun r4 =>
  bif !decide (r4.2 = 0) then (
   bnd ((⟨(0 : Int), (0 : Int), (0 : Int), (0 : Int)⟩ : Box)) fun v5 =>
   some (v5, r4.2))
  else (
   bnd ((⟨W (r4.1.X - 10), W (r4.1.Y - 10), W (r4.1.W_ + 20), W (r4.1.H + 20)⟩ : Box)) fun v6 =>
   Option.bind (ref_BoxError v6) fun r5 =>
   some (v6, r5)))

noncomputable def ref_BoxOfNode (d1 : Doc) (id1 : Str) : Option (Box × Int) := fixp ref_BoxOfNode_body (d1, id1)

noncomputable def ref_DocError_L1 (d1 : Doc) (i : Int) (s : Unit) : Option (Res Unit (Res Unit Int)) :=
 Option.bind (ref_nodeError d1 i) fun e1 =>
 bif !decide (e1 = 0) then (
  some (Res.ab (Res.ab e1)))
 else (
  some (Res.nx ()))

noncomputable def ref_DocError_L2 (d1 : Doc) (i : Int) (s : Unit) : Option (Res Unit (Res Unit Int)) :=
 Option.bind (ref_edgeError d1 i) fun e3 =>
 bif !decide (e3 = 0) then (
  some (Res.ab (Res.ab e3)))
 else (
  some (Res.nx ()))

noncomputable def ref_DocError_L3 (d1 : Doc) (i : Int) (s : Unit) : Option (Res Unit (Res Unit Int)) :=
 need (inR d1.Nodes i) <|
 bnd (gx d1.Nodes i) fun v1 =>
 Option.bind (ref_BoxOfNode d1 v1.Id) fun r1 =>
 bif !decide (r1.2 = 0) then (
  some (Res.ab (Res.ab r1.2)))
 else (
  some (Res.nx ()))

/-- drawref1.DocError -/
noncomputable def ref_DocError (d1 : Doc) : Option Int :=
 bif (decide (500 < (d1.Nodes.length : Int))) || (decide (1000 < (d1.Edges.length : Int))) then (
  some 4)
 else (
  bindR (σ := Unit) (ρ := Int) (
   rforE (d1.Nodes.length : Int) (ref_DocError_L1 d1) (fun s => Res.nx s) ()) fun j_2 =>
  Option.bind (ref_treeError d1) fun e2 =>
  bif !decide (e2 = 0) then (
   some e2)
  else (
   bindR (σ := Unit) (ρ := Int) (
    rforE (d1.Edges.length : Int) (ref_DocError_L2 d1) (fun s => Res.nx s) ()) fun j_10 =>
   bindR (σ := Unit) (ρ := Int) (
    rforE (d1.Nodes.length : Int) (ref_DocError_L3 d1) (fun s => Res.nx s) ()) fun j_16 =>
   some 0))

noncomputable def law_rulesError_L2 (v1 : Rule) (i : Int) (s : Bool) : Option Bool :=
 need (s = false → inR v1.Value.b i) <|
 need ((s || (decide ((⟨((gx v1.Value.b i).toNat : Int)⟩ : KI .u8).n < (⟨33⟩ : KI .u8).n))) = false → inR v1.Value.b i) <|
 need (((s || (decide ((⟨((gx v1.Value.b i).toNat : Int)⟩ : KI .u8).n < (⟨33⟩ : KI .u8).n))) || (decide ((⟨126⟩ : KI .u8).n < (⟨((gx v1.Value.b i).toNat : Int)⟩ : KI .u8).n))) = false → inR v1.Value.b i) <|
 bnd (((s || (decide ((⟨((gx v1.Value.b i).toNat : Int)⟩ : KI .u8).n < (⟨33⟩ : KI .u8).n))) || (decide ((⟨126⟩ : KI .u8).n < (⟨((gx v1.Value.b i).toNat : Int)⟩ : KI .u8).n))) || (decide ((⟨((gx v1.Value.b i).toNat : Int)⟩ : KI .u8).n = (⟨34⟩ : KI .u8).n))) fun bad2 =>
 some bad2

noncomputable def law_rulesError_L1 (l1 : (List Rule)) (i : Int) (s : Unit) : Option (Res Unit (Res Unit Int)) :=
 need (inR l1 i) <|
 bnd (gx l1 i) fun v1 =>
 Option.bind (ref_In (v1.Value.b.length : Int) 1 40) fun r1 =>
 bnd (!r1) fun bad1 =>
 Option.bind (α := Bool) (
  rfor (v1.Value.b.length : Int) (law_rulesError_L2 v1) bad1) fun j_10 =>
 Option.bind (gd ((!decide (v1.Class = Str.nil))) (ref_NameOf v1.Class)) fun r2 =>
 Option.bind (gd (!((!decide (v1.Class = Str.nil)) && (!r2))) (ref_NameOf v1.Prop_)) fun r3 =>
 Option.bind (ref_When (((!decide (v1.Class = Str.nil)) && (!r2)) || (!r3)) 5) fun r4 =>
 Option.bind (ref_When j_10 2) fun r5 =>
 Option.bind (ref_First [r4, r5]) fun e1 =>
 bif !decide (e1 = 0) then (
  some (Res.ab (Res.ab e1)))
 else (
  some (Res.nx ()))

/-- drawlaw1.rulesError -/
noncomputable def law_rulesError (l1 : (List Rule)) : Option Int :=
 bif decide (100 < (l1.length : Int)) then (
  some 4)
 else (
  bindR (σ := Unit) (ρ := Int) (
   rforE (l1.length : Int) (law_rulesError_L1 l1) (fun s => Res.nx s) ()) fun j_2 =>
  some 0)

/-- drawlaw1.star -/
noncomputable def law_star (class1 : Str) : Option Str :=
 bif decide (class1 = Str.nil) then (
  some (⟨[42]⟩ : Str))
 else (
  some class1)

/-- drawref1.KindWord -/
noncomputable def ref_KindWord (kind1 : Int) : Option Str :=
 Option.bind (strings_Fields (⟨[98, 111, 120, 32, 114, 111, 117, 110, 100, 32, 111, 118, 97, 108, 32, 100, 105, 97, 109, 111, 110, 100, 32, 110, 111, 116, 101, 32, 103, 114, 111, 117, 112]⟩ : Str)) fun r1 =>
 need (inR r1 (W (kind1 - 1))) <|
 some (gx r1 (W (kind1 - 1)))

noncomputable def law_ints_L1 (l1 : (List Int)) (i : Int) (s : Str) : Option Str :=
 need (inR l1 i) <|
 Option.bind (strconv_Itoa (gx l1 i)) fun r1 =>
 need (((⟨[32]⟩ : Str).b.length : Int) + r1.b.length ≤ 9223372036854775807) <|
 need ((s.b.length : Int) + (⟨(⟨[32]⟩ : Str).b ++ r1.b⟩ : Str).b.length ≤ 9223372036854775807) <|
 bnd ((⟨s.b ++ (⟨(⟨[32]⟩ : Str).b ++ r1.b⟩ : Str).b⟩ : Str)) fun s1 =>
 some s1

/-- drawlaw1.ints -/
noncomputable def law_ints (l1 : (List Int)) : Option Str :=
 Option.bind (α := Str) (
  rfor (l1.length : Int) (law_ints_L1 l1) Str.nil) fun j_1 =>
 some j_1

/-- drawlaw1.tail -/
noncomputable def law_tail (class1 : Str) (text1 : Str) : Option Str :=
 Option.bind (α := Str) (
  bif !decide (class1 = Str.nil) then (
   need (((⟨[32, 99, 108, 97, 115, 115, 32]⟩ : Str).b.length : Int) + class1.b.length ≤ 9223372036854775807) <|
   need ((Str.nil.b.length : Int) + (⟨(⟨[32, 99, 108, 97, 115, 115, 32]⟩ : Str).b ++ class1.b⟩ : Str).b.length ≤ 9223372036854775807) <|
   bnd ((⟨Str.nil.b ++ (⟨(⟨[32, 99, 108, 97, 115, 115, 32]⟩ : Str).b ++ class1.b⟩ : Str).b⟩ : Str)) fun s1 =>
   some s1)
  else (
   some Str.nil)) fun j_1 =>
 Option.bind (α := Str) (
  bif !decide (text1 = Str.nil) then (
   Option.bind (ref_Quote text1) fun r1 =>
   need (((⟨[32]⟩ : Str).b.length : Int) + r1.b.length ≤ 9223372036854775807) <|
   need ((j_1.b.length : Int) + (⟨(⟨[32]⟩ : Str).b ++ r1.b⟩ : Str).b.length ≤ 9223372036854775807) <|
   bnd ((⟨j_1.b ++ (⟨(⟨[32]⟩ : Str).b ++ r1.b⟩ : Str).b⟩ : Str)) fun s2 =>
   some s2)
  else (
   some j_1)) fun j_6 =>
 some j_6

/-- drawlaw1.nodeLine -/
noncomputable def law_nodeLine (n1 : DNode) : Option Str :=
 Option.bind (ref_KindWord n1.Kind) fun r1 =>
 need ((r1.b.length : Int) + (⟨[32]⟩ : Str).b.length ≤ 9223372036854775807) <|
 need (((⟨r1.b ++ (⟨[32]⟩ : Str).b⟩ : Str).b.length : Int) + n1.Id.b.length ≤ 9223372036854775807) <|
 bnd ((⟨(⟨r1.b ++ (⟨[32]⟩ : Str).b⟩ : Str).b ++ n1.Id.b⟩ : Str)) fun s1 =>
 Option.bind (α := Str) (
  bif !decide (n1.Kind = 6) then (
   Option.bind (law_ints [n1.Box.X, n1.Box.Y, n1.Box.W_, n1.Box.H]) fun r2 =>
   need ((s1.b.length : Int) + r2.b.length ≤ 9223372036854775807) <|
   bnd ((⟨s1.b ++ r2.b⟩ : Str)) fun s2 =>
   some s2)
  else (
   some s1)) fun j_5 =>
 Option.bind (law_tail n1.Class Str.nil) fun r3 =>
 need ((j_5.b.length : Int) + r3.b.length ≤ 9223372036854775807) <|
 bnd ((⟨j_5.b ++ r3.b⟩ : Str)) fun s3 =>
 Option.bind (α := Str) (
  bif !decide (n1.Parent = Str.nil) then (
   need (((⟨[32, 105, 110, 32]⟩ : Str).b.length : Int) + n1.Parent.b.length ≤ 9223372036854775807) <|
   need ((s3.b.length : Int) + (⟨(⟨[32, 105, 110, 32]⟩ : Str).b ++ n1.Parent.b⟩ : Str).b.length ≤ 9223372036854775807) <|
   bnd ((⟨s3.b ++ (⟨(⟨[32, 105, 110, 32]⟩ : Str).b ++ n1.Parent.b⟩ : Str).b⟩ : Str)) fun s4 =>
   some s4)
  else (
   some s3)) fun j_13 =>
 Option.bind (α := Str) (
  bif n1.Locked then (
   need ((j_13.b.length : Int) + (⟨[32, 108, 111, 99, 107, 101, 100]⟩ : Str).b.length ≤ 9223372036854775807) <|
   bnd ((⟨j_13.b ++ (⟨[32, 108, 111, 99, 107, 101, 100]⟩ : Str).b⟩ : Str)) fun s5 =>
   some s5)
  else (
   some j_13)) fun j_18 =>
 Option.bind (law_tail Str.nil n1.Text) fun r4 =>
 need ((j_18.b.length : Int) + r4.b.length ≤ 9223372036854775807) <|
 some (⟨j_18.b ++ r4.b⟩ : Str)

/-- drawref1.SideWord -/
noncomputable def ref_SideWord (side1 : Int) : Option Str :=
 Option.bind (strings_Fields (⟨[117, 112, 32, 114, 105, 103, 104, 116, 32, 100, 111, 119, 110, 32, 108, 101, 102, 116]⟩ : Str)) fun r1 =>
 need (inR r1 (W (side1 - 1))) <|
 some (gx r1 (W (side1 - 1)))

/-- drawref1.EndText -/
noncomputable def ref_EndText (x1 : DEnd) : Option Str :=
 need ((x1.Node.b.length : Int) + (⟨[32]⟩ : Str).b.length ≤ 9223372036854775807) <|
 Option.bind (ref_SideWord x1.Side) fun r1 =>
 need (((⟨x1.Node.b ++ (⟨[32]⟩ : Str).b⟩ : Str).b.length : Int) + r1.b.length ≤ 9223372036854775807) <|
 need (((⟨(⟨x1.Node.b ++ (⟨[32]⟩ : Str).b⟩ : Str).b ++ r1.b⟩ : Str).b.length : Int) + (⟨[32]⟩ : Str).b.length ≤ 9223372036854775807) <|
 Option.bind (strconv_Itoa x1.At) fun r2 =>
 need (((⟨(⟨(⟨x1.Node.b ++ (⟨[32]⟩ : Str).b⟩ : Str).b ++ r1.b⟩ : Str).b ++ (⟨[32]⟩ : Str).b⟩ : Str).b.length : Int) + r2.b.length ≤ 9223372036854775807) <|
 some (⟨(⟨(⟨(⟨x1.Node.b ++ (⟨[32]⟩ : Str).b⟩ : Str).b ++ r1.b⟩ : Str).b ++ (⟨[32]⟩ : Str).b⟩ : Str).b ++ r2.b⟩ : Str)

noncomputable def law_edgeLine_L1 (x1 : DEdge) (i : Int) (s : Str) : Option Str :=
 need (inR x1.Bends i) <|
 bnd (gx x1.Bends i) fun v1 =>
 Option.bind (law_ints [v1.X, v1.Y]) fun r3 =>
 need ((s.b.length : Int) + r3.b.length ≤ 9223372036854775807) <|
 bnd ((⟨s.b ++ r3.b⟩ : Str)) fun s3 =>
 some s3

/-- drawlaw1.edgeLine -/
noncomputable def law_edgeLine (x1 : DEdge) : Option Str :=
 need (((⟨[101, 100, 103, 101, 32]⟩ : Str).b.length : Int) + x1.Id.b.length ≤ 9223372036854775807) <|
 need (((⟨(⟨[101, 100, 103, 101, 32]⟩ : Str).b ++ x1.Id.b⟩ : Str).b.length : Int) + (⟨[32]⟩ : Str).b.length ≤ 9223372036854775807) <|
 Option.bind (ref_EndText x1.From) fun r1 =>
 need (((⟨(⟨(⟨[101, 100, 103, 101, 32]⟩ : Str).b ++ x1.Id.b⟩ : Str).b ++ (⟨[32]⟩ : Str).b⟩ : Str).b.length : Int) + r1.b.length ≤ 9223372036854775807) <|
 need (((⟨(⟨(⟨(⟨[101, 100, 103, 101, 32]⟩ : Str).b ++ x1.Id.b⟩ : Str).b ++ (⟨[32]⟩ : Str).b⟩ : Str).b ++ r1.b⟩ : Str).b.length : Int) + (⟨[32]⟩ : Str).b.length ≤ 9223372036854775807) <|
 Option.bind (ref_EndText x1.To) fun r2 =>
 need (((⟨(⟨(⟨(⟨(⟨[101, 100, 103, 101, 32]⟩ : Str).b ++ x1.Id.b⟩ : Str).b ++ (⟨[32]⟩ : Str).b⟩ : Str).b ++ r1.b⟩ : Str).b ++ (⟨[32]⟩ : Str).b⟩ : Str).b.length : Int) + r2.b.length ≤ 9223372036854775807) <|
 bnd ((⟨(⟨(⟨(⟨(⟨(⟨[101, 100, 103, 101, 32]⟩ : Str).b ++ x1.Id.b⟩ : Str).b ++ (⟨[32]⟩ : Str).b⟩ : Str).b ++ r1.b⟩ : Str).b ++ (⟨[32]⟩ : Str).b⟩ : Str).b ++ r2.b⟩ : Str)) fun s1 =>
 Option.bind (α := Str) (
  bif decide (0 < (x1.Bends.length : Int)) then (
   need ((s1.b.length : Int) + (⟨[32, 98, 121]⟩ : Str).b.length ≤ 9223372036854775807) <|
   bnd ((⟨s1.b ++ (⟨[32, 98, 121]⟩ : Str).b⟩ : Str)) fun s2 =>
   rfor (x1.Bends.length : Int) (law_edgeLine_L1 x1) s2)
  else (
   some s1)) fun j_9 =>
 Option.bind (law_tail x1.Class x1.Text) fun r4 =>
 need ((j_9.b.length : Int) + r4.b.length ≤ 9223372036854775807) <|
 some (⟨j_9.b ++ r4.b⟩ : Str)

noncomputable def law_docText_L1 (l1 : (List Rule)) (i : Int) (s : Str) : Option Str :=
 need (inR l1 i) <|
 bnd (gx l1 i) fun v1 =>
 Option.bind (law_star v1.Class) fun r1 =>
 need (((⟨[115, 116, 121, 108, 101, 32]⟩ : Str).b.length : Int) + r1.b.length ≤ 9223372036854775807) <|
 need (((⟨(⟨[115, 116, 121, 108, 101, 32]⟩ : Str).b ++ r1.b⟩ : Str).b.length : Int) + (⟨[32]⟩ : Str).b.length ≤ 9223372036854775807) <|
 need (((⟨(⟨(⟨[115, 116, 121, 108, 101, 32]⟩ : Str).b ++ r1.b⟩ : Str).b ++ (⟨[32]⟩ : Str).b⟩ : Str).b.length : Int) + v1.Prop_.b.length ≤ 9223372036854775807) <|
 need (((⟨(⟨(⟨(⟨[115, 116, 121, 108, 101, 32]⟩ : Str).b ++ r1.b⟩ : Str).b ++ (⟨[32]⟩ : Str).b⟩ : Str).b ++ v1.Prop_.b⟩ : Str).b.length : Int) + (⟨[32]⟩ : Str).b.length ≤ 9223372036854775807) <|
 need (((⟨(⟨(⟨(⟨(⟨[115, 116, 121, 108, 101, 32]⟩ : Str).b ++ r1.b⟩ : Str).b ++ (⟨[32]⟩ : Str).b⟩ : Str).b ++ v1.Prop_.b⟩ : Str).b ++ (⟨[32]⟩ : Str).b⟩ : Str).b.length : Int) + v1.Value.b.length ≤ 9223372036854775807) <|
 need (((⟨(⟨(⟨(⟨(⟨(⟨[115, 116, 121, 108, 101, 32]⟩ : Str).b ++ r1.b⟩ : Str).b ++ (⟨[32]⟩ : Str).b⟩ : Str).b ++ v1.Prop_.b⟩ : Str).b ++ (⟨[32]⟩ : Str).b⟩ : Str).b ++ v1.Value.b⟩ : Str).b.length : Int) + (⟨[10]⟩ : Str).b.length ≤ 9223372036854775807) <|
 need ((s.b.length : Int) + (⟨(⟨(⟨(⟨(⟨(⟨(⟨[115, 116, 121, 108, 101, 32]⟩ : Str).b ++ r1.b⟩ : Str).b ++ (⟨[32]⟩ : Str).b⟩ : Str).b ++ v1.Prop_.b⟩ : Str).b ++ (⟨[32]⟩ : Str).b⟩ : Str).b ++ v1.Value.b⟩ : Str).b ++ (⟨[10]⟩ : Str).b⟩ : Str).b.length ≤ 9223372036854775807) <|
 bnd ((⟨s.b ++ (⟨(⟨(⟨(⟨(⟨(⟨(⟨[115, 116, 121, 108, 101, 32]⟩ : Str).b ++ r1.b⟩ : Str).b ++ (⟨[32]⟩ : Str).b⟩ : Str).b ++ v1.Prop_.b⟩ : Str).b ++ (⟨[32]⟩ : Str).b⟩ : Str).b ++ v1.Value.b⟩ : Str).b ++ (⟨[10]⟩ : Str).b⟩ : Str).b⟩ : Str)) fun s1 =>
 some s1

noncomputable def law_docText_L2 (d1 : Doc) (i : Int) (s : Str) : Option Str :=
 need (inR d1.Nodes i) <|
 bnd (gx d1.Nodes i) fun v2 =>
 Option.bind (law_nodeLine v2) fun r2 =>
 need ((r2.b.length : Int) + (⟨[10]⟩ : Str).b.length ≤ 9223372036854775807) <|
 need ((s.b.length : Int) + (⟨r2.b ++ (⟨[10]⟩ : Str).b⟩ : Str).b.length ≤ 9223372036854775807) <|
 bnd ((⟨s.b ++ (⟨r2.b ++ (⟨[10]⟩ : Str).b⟩ : Str).b⟩ : Str)) fun s2 =>
 some s2

noncomputable def law_docText_L3 (d1 : Doc) (i : Int) (s : Str) : Option Str :=
 need (inR d1.Edges i) <|
 bnd (gx d1.Edges i) fun v3 =>
 Option.bind (law_edgeLine v3) fun r3 =>
 need ((r3.b.length : Int) + (⟨[10]⟩ : Str).b.length ≤ 9223372036854775807) <|
 need ((s.b.length : Int) + (⟨r3.b ++ (⟨[10]⟩ : Str).b⟩ : Str).b.length ≤ 9223372036854775807) <|
 bnd ((⟨s.b ++ (⟨r3.b ++ (⟨[10]⟩ : Str).b⟩ : Str).b⟩ : Str)) fun s3 =>
 some s3

/-- drawlaw1.docText -/
noncomputable def law_docText (d1 : Doc) (l1 : (List Rule)) : Option Str :=
 Option.bind (α := Str) (
  rfor (l1.length : Int) (law_docText_L1 l1) Str.nil) fun j_1 =>
 Option.bind (α := Str) (
  rfor (d1.Nodes.length : Int) (law_docText_L2 d1) j_1) fun j_16 =>
 Option.bind (α := Str) (
  rfor (d1.Edges.length : Int) (law_docText_L3 d1) j_16) fun j_26 =>
 some j_26

/-- drawlaw1.desks -/
noncomputable def law_desks  : Option Bool :=
 Option.bind (desk_CheckRules ([] : (List Rule))) fun r1 =>
 Option.bind (gd ((decide (r1 = 0))) (desk_CheckRules [(⟨Str.nil, Str.nil, Str.nil⟩ : Rule)])) fun r2 =>
 some ((decide (r1 = 0)) && (decide (r2 = 5)))

/-- drawlaw1.TextsOfDocs$1 -/
noncomputable def law_TextsOfDocs_1 (c0_1 : Doc) (c1_1 : (List Rule)) : Option Str :=
 Option.bind (law_docText c0_1 c1_1) fun r1 =>
 some r1

/-- drawlaw1.is[string] -/
noncomputable def law_is_string (got1 : Str) (e1 : Int) (want1 : Int) (right1 : (Option Str)) : Option Bool :=
 bif !decide (want1 = 0) then (
  some ((decide (got1 = Str.nil)) && (decide (e1 = want1))))
 else (
  Option.bind (gd ((decide (e1 = 0))) (right1)) fun r1 =>
  some ((decide (e1 = 0)) && (decide (got1 = r1))))

noncomputable def edit_Unquoted_L1 (s1 : Str) (s2_ : ((List (KI .u8)) × Int)) : Option (Step ((List (KI .u8)) × Int) (Res Unit (Str × Bool))) :=
 bif decide (s2_.2 < (s1.b.length : Int)) then (
  need (inR s1.b s2_.2) <|
  bnd ((⟨((gx s1.b s2_.2).toNat : Int)⟩ : KI .u8)) fun c1 =>
  bindR (σ := (Int × (KI .u8))) (ρ := (Step ((List (KI .u8)) × Int) (Res Unit (Str × Bool)))) (
   bif decide (c1.n = (⟨34⟩ : KI .u8).n) then (
    need ((decide (s2_.2 = (W ((s1.b.length : Int) - 1)))) = true → inR s1.b 0) <|
    some (Res.ab (Step.done (Res.ab (strB s2_.1, (decide (s2_.2 = (W ((s1.b.length : Int) - 1)))) && (decide ((⟨((gx s1.b 0).toNat : Int)⟩ : KI .u8).n = (⟨34⟩ : KI .u8).n)))))))
   else (
    bif decide (c1.n = (⟨10⟩ : KI .u8).n) then (
     some (Res.ab (Step.done (Res.ab (Str.nil, false)))))
    else (
     bif decide (c1.n = (⟨92⟩ : KI .u8).n) then (
      bnd (W (s2_.2 + 1)) fun i1 =>
      bif decide (i1 = (s1.b.length : Int)) then (
       some (Res.ab (Step.done (Res.ab (Str.nil, false)))))
      else (
       need (inR s1.b i1) <|
       Option.bind (strings_IndexByte (⟨[34, 92, 110]⟩ : Str) (⟨((gx s1.b i1).toNat : Int)⟩ : KI .u8)) fun k1 =>
       bif decide (k1 < 0) then (
        some (Res.ab (Step.done (Res.ab (Str.nil, false)))))
       else (
        need (inR (⟨[34, 92, 10]⟩ : Str).b k1) <|
        bnd ((⟨((gx (⟨[34, 92, 10]⟩ : Str).b k1).toNat : Int)⟩ : KI .u8)) fun c2 =>
        some (Res.nx (i1, c2)))))
     else (
      some (Res.nx (s2_.2, c1)))))) fun j_6 =>
  need (room (s2_.1.length + [j_6.2].length)) <|
  bnd (s2_.1 ++ [j_6.2]) fun b1 =>
  bnd (W (j_6.1 + 1)) fun i2 =>
  some (Step.again (b1, i2)))
 else (
  some (Step.done (Res.nx ())))

/-- edit.Unquoted -/
noncomputable def edit_Unquoted (s1 : Str) : Option (Str × Bool) :=
 bindR (σ := Unit) (ρ := (Str × Bool)) (
  loop (edit_Unquoted_L1 s1) (([] : List (KI .u8)), 1)) fun j_1 =>
 some (Str.nil, false)

noncomputable def slices_Index_string_L1 (s1 : (List Str)) (v1 : Str) (i : Int) (s : Unit) : Option (Res Unit (Res Unit Int)) :=
 need (inR s1 i) <|
 bif decide (v1 = (gx s1 i)) then (
  some (Res.ab (Res.ab i)))
 else (
  some (Res.nx ()))

/-- slices.Index[[]string,string] -/
noncomputable def slices_Index_string (s1 : (List Str)) (v1 : Str) : Option Int :=
 bindR (σ := Unit) (ρ := Int) (
  rforE (s1.length : Int) (slices_Index_string_L1 s1 v1) (fun s => Res.nx s) ()) fun j_1 =>
 some (-1)

/-- slices.Contains[[]string,string] -/
noncomputable def slices_Contains_string (s1 : (List Str)) (v1 : Str) : Option Bool :=
 Option.bind (slices_Index_string s1 v1) fun r1 =>
 some (decide (0 ≤ r1))

/-- desk.split -/
noncomputable def desk_split (line1 : Str) : Option ((List Str) × Str × Bool × Bool) :=
 Option.bind (strings_Cut line1 (⟨[32, 34]⟩ : Str)) fun r1 =>
 bindR (σ := Str) (ρ := ((List Str) × Str × Bool × Bool)) (
  bif r1.2.2 then (
   need (((⟨[34]⟩ : Str).b.length : Int) + r1.2.1.b.length ≤ 9223372036854775807) <|
   Option.bind (edit_Unquoted (⟨(⟨[34]⟩ : Str).b ++ r1.2.1.b⟩ : Str)) fun r2 =>
   bif !r2.2 then (
    some (Res.ab (([] : (List Str)), Str.nil, false, false)))
   else (
    some (Res.nx r2.1)))
  else (
   some (Res.nx Str.nil))) fun j_2 =>
 Option.bind (strings_Split r1.1 (⟨[32]⟩ : Str)) fun words1 =>
 Option.bind (slices_Contains_string words1 Str.nil) fun r3 =>
 some (words1, j_2, r1.2.2, !r3)

/-- desk.readRule -/
noncomputable def desk_readRule (l1 : (List Str)) : Option (Rule × Bool) :=
 bnd ((⟨Str.nil, Str.nil, Str.nil⟩ : Rule)) fun r1 =>
 bif !decide ((l1.length : Int) = 4) then (
  some (r1, false))
 else (
  need (inR l1 1) <|
  need (inR l1 2) <|
  need (inR l1 3) <|
  bnd ((⟨gx l1 1, gx l1 2, gx l1 3⟩ : Rule)) fun v1 =>
  Option.bind (α := Rule) (
   bif decide (v1.Class = (⟨[42]⟩ : Str)) then (
    some ({ v1 with Class := Str.nil }))
   else (
    some v1)) fun j_7 =>
  some (j_7, true))

/-- (*desk.words).take -/
noncomputable def desk_words_take (w1 : Desk_words) : Option (Str × Desk_words) :=
 bif decide ((w1.l.length : Int) = 0) then (
  some (Str.nil, w1))
 else (
  need (inR w1.l 0) <|
  need (segR w1.l.length 1 (w1.l.length : Int)) <|
  bnd (seg w1.l 1 (w1.l.length : Int)) fun v1 =>
  bnd ({ w1 with l := v1 }) fun c1 =>
  some (gx w1.l 0, c1))

/-- internal/stringslite.HasPrefix -/
noncomputable def stringslite_HasPrefix (s1 : Str) (prefix1 : Str) : Option Bool :=
 need ((decide ((prefix1.b.length : Int) ≤ (s1.b.length : Int))) = true → segR s1.b.length 0 (prefix1.b.length : Int)) <|
 some ((decide ((prefix1.b.length : Int) ≤ (s1.b.length : Int))) && (decide ((⟨seg s1.b 0 (prefix1.b.length : Int)⟩ : Str) = prefix1)))

/-- internal/stringslite.TrimPrefix -/
noncomputable def stringslite_TrimPrefix (s1 : Str) (prefix1 : Str) : Option Str :=
 Option.bind (stringslite_HasPrefix s1 prefix1) fun r1 =>
 bif r1 then (
  need (segR s1.b.length (prefix1.b.length : Int) (s1.b.length : Int)) <|
  some (⟨seg s1.b (prefix1.b.length : Int) (s1.b.length : Int)⟩ : Str))
 else (
  some s1)

/-- strings.TrimPrefix -/
noncomputable def strings_TrimPrefix (s1 : Str) (prefix1 : Str) : Option Str :=
 Option.bind (stringslite_TrimPrefix s1 prefix1) fun r1 =>
 some r1

/-- edit.Number -/
noncomputable def edit_Number (s1 : Str) : Option (Int × Bool) :=
 Option.bind (strings_TrimPrefix s1 (⟨[45]⟩ : Str)) fun digits1 =>
 Option.bind (strconv_Atoi s1) fun r1 =>
 Option.bind (gd (((!r1.2.is) && (decide ((digits1.b.length : Int) ≤ 7)))) (strconv_Itoa r1.1)) fun r2 =>
 some (r1.1, ((!r1.2.is) && (decide ((digits1.b.length : Int) ≤ 7))) && (decide (r2 = s1)))

/-- edit.ReadEnd -/
noncomputable def edit_ReadEnd (w1 : (List Str)) : Option (DEnd × Bool) :=
 bnd ((⟨Str.nil, (0 : Int), (0 : Int)⟩ : DEnd)) fun x1 =>
 need ((!decide ((w1.length : Int) = 3)) = false → inR w1 0) <|
 need (((!decide ((w1.length : Int) = 3)) || (decide ((gx w1 0) = Str.nil))) = false → inR w1 1) <|
 bif ((!decide ((w1.length : Int) = 3)) || (decide ((gx w1 0) = Str.nil))) || (decide ((gx w1 1) = Str.nil)) then (
  some (x1, false))
 else (
  need (inR w1 0) <|
  bnd (gx w1 0) fun v1 =>
  Option.bind (edit_SideWords) fun r1 =>
  need (inR w1 1) <|
  Option.bind (slices_Index_string r1 (gx w1 1)) fun r2 =>
  bnd ({ { x1 with Node := v1 } with Side := r2 }) fun x2 =>
  need (inR w1 2) <|
  Option.bind (edit_Number (gx w1 2)) fun r3 =>
  bnd ({ x2 with At := r3.1 }) fun x3 =>
  some (x3, r3.2 && (decide (0 < x3.Side))))

noncomputable def edit_ReadNumbers_L1 (w1 : (List Str)) (i : Int) (s : (List Int)) : Option (Res (List Int) (Res (List Int) ((List Int) × Bool))) :=
 need (inR w1 i) <|
 Option.bind (edit_Number (gx w1 i)) fun r1 =>
 bif !r1.2 then (
  some (Res.ab (Res.ab (([] : (List Int)), false))))
 else (
  need (room (s.length + [r1.1].length)) <|
  some (Res.nx (s ++ [r1.1])))

/-- edit.ReadNumbers -/
noncomputable def edit_ReadNumbers (w1 : (List Str)) : Option ((List Int) × Bool) :=
 bindR (σ := (List Int)) (ρ := ((List Int) × Bool)) (
  rforE (w1.length : Int) (edit_ReadNumbers_L1 w1) (fun s => Res.nx s) ([] : List Int)) fun j_1 =>
 some (j_1, true)

/-- (*desk.words).numbers -/
noncomputable def desk_words_numbers (w1 : Desk_words) (many1 : Int) : Option ((List Int) × Bool × Desk_words) :=
 bif decide ((w1.l.length : Int) < many1) then (
  some (([] : (List Int)), false, w1))
 else (
  need (segR w1.l.length 0 many1) <|
  Option.bind (edit_ReadNumbers (seg w1.l 0 many1)) fun r1 =>
  need (segR w1.l.length many1 (w1.l.length : Int)) <|
  bnd (seg w1.l many1 (w1.l.length : Int)) fun v1 =>
  bnd ({ w1 with l := v1 }) fun c1 =>
  some (r1.1, r1.2, c1))

noncomputable def edit_Points_L1 (l1 : (List Int)) (s3_ : ((List Point) × Int)) : Option (Step ((List Point) × Int) (List Point)) :=
 bif decide (s3_.2 < (l1.length : Int)) then (
  need (inR l1 s3_.2) <|
  need (inR l1 (W (s3_.2 + 1))) <|
  need (room (s3_.1.length + [(⟨gx l1 s3_.2, gx l1 (W (s3_.2 + 1))⟩ : Point)].length)) <|
  bnd (s3_.1 ++ [(⟨gx l1 s3_.2, gx l1 (W (s3_.2 + 1))⟩ : Point)]) fun out1 =>
  bnd (W (s3_.2 + 2)) fun i1 =>
  some (Step.again (out1, i1)))
 else (
  some (Step.done s3_.1))

/-- edit.Points -/
noncomputable def edit_Points (l1 : (List Int)) : Option ((List Point) × Bool) :=
 bif (decide (((l1.length : Int).tmod 2) = 1)) || (decide ((l1.length : Int) = 0)) then (
  some (([] : (List Point)), false))
 else (
  Option.bind (α := (List Point)) (
   loop (edit_Points_L1 l1) (([] : List Point), 0)) fun j_2 =>
  some (j_2, true))

/-- (*desk.words).option -/
noncomputable def desk_words_option (w1 : Desk_words) (word1 : Str) : Option (Str × Desk_words) :=
 need ((decide ((w1.l.length : Int) < 2)) = false → inR w1.l 0) <|
 bif (decide ((w1.l.length : Int) < 2)) || (!decide ((gx w1.l 0) = word1)) then (
  some (Str.nil, w1))
 else (
  Option.bind (desk_words_take w1) fun r1 =>
  Option.bind (desk_words_take r1.2) fun r2 =>
  some (r2.1, r2.2))

noncomputable def desk_readEdge_L1 (r4 : (Str × Desk_words)) (s21_ : Int) : Option (Step Int Int) :=
 need ((decide (s21_ < (r4.2.l.length : Int))) = true → inR r4.2.l s21_) <|
 bif (decide (s21_ < (r4.2.l.length : Int))) && (!decide ((gx r4.2.l s21_) = (⟨[99, 108, 97, 115, 115]⟩ : Str))) then (
  bnd (W (s21_ + 1)) fun many1 =>
  some (Step.again many1))
 else (
  some (Step.done s21_))

/-- desk.readEdge -/
noncomputable def desk_readEdge (l1 : (List Str)) (text1 : Str) : Option (DEdge × Bool) :=
 bnd ((⟨Str.nil, (⟨Str.nil, (0 : Int), (0 : Int)⟩ : DEnd), (⟨Str.nil, (0 : Int), (0 : Int)⟩ : DEnd), ([] : (List Point)), Str.nil, Str.nil⟩ : DEdge)) fun x1 =>
 need (segR l1.length 1 (l1.length : Int)) <|
 bnd ((⟨seg l1 1 (l1.length : Int)⟩ : Desk_words)) fun v1 =>
 Option.bind (desk_words_take v1) fun r1 =>
 bnd ({ { x1 with Id := r1.1 } with Text := text1 }) fun x2 =>
 bif (decide (x2.Id = Str.nil)) || (decide ((r1.2.l.length : Int) < 6)) then (
  some (x2, false))
 else (
  need (segR r1.2.l.length 0 3) <|
  Option.bind (edit_ReadEnd (seg r1.2.l 0 3)) fun r2 =>
  need (segR r1.2.l.length 3 6) <|
  Option.bind (edit_ReadEnd (seg r1.2.l 3 6)) fun r3 =>
  bnd ({ { x2 with From := r2.1 } with To := r3.1 }) fun x3 =>
  need (segR r1.2.l.length 6 (r1.2.l.length : Int)) <|
  bnd (seg r1.2.l 6 (r1.2.l.length : Int)) fun v2 =>
  bnd ({ r1.2 with l := v2 }) fun w1 =>
  bif (!r2.2) || (!r3.2) then (
   some (x3, false))
  else (
   need ((decide (0 < (w1.l.length : Int))) = true → inR w1.l 0) <|
   bindR (σ := (DEdge × Desk_words)) (ρ := (DEdge × Bool)) (
    bif (decide (0 < (w1.l.length : Int))) && (decide ((gx w1.l 0) = (⟨[98, 121]⟩ : Str))) then (
     Option.bind (desk_words_take w1) fun r4 =>
     Option.bind (α := Int) (
      loop (desk_readEdge_L1 r4) 0) fun j_20 =>
     Option.bind (desk_words_numbers r4.2 j_20) fun r5 =>
     bif !r5.2.1 then (
      some (Res.ab (x3, false)))
     else (
      Option.bind (edit_Points r5.1) fun r6 =>
      bnd ({ x3 with Bends := r6.1 }) fun x4 =>
      bif !r6.2 then (
       some (Res.ab (x4, false)))
      else (
       some (Res.nx (x4, r5.2.2)))))
    else (
     some (Res.nx (x3, w1)))) fun j_17 =>
   Option.bind (desk_words_option j_17.2 (⟨[99, 108, 97, 115, 115]⟩ : Str)) fun r7 =>
   bnd ({ j_17.1 with Class := r7.1 }) fun x5 =>
   some (x5, decide ((r7.2.l.length : Int) = 0))))

/-- desk.readNode -/
noncomputable def desk_readNode (l1 : (List Str)) (text1 : Str) : Option (DNode × Bool) :=
 bnd ((⟨Str.nil, (0 : Int), (⟨(0 : Int), (0 : Int), (0 : Int), (0 : Int)⟩ : Box), Str.nil, Str.nil, Str.nil, false⟩ : DNode)) fun n1 =>
 bnd ((⟨l1⟩ : Desk_words)) fun v1 =>
 Option.bind (edit_KindWords) fun r1 =>
 Option.bind (desk_words_take v1) fun r2 =>
 Option.bind (slices_Index_string r1 r2.1) fun r3 =>
 bnd ({ n1 with Kind := r3 }) fun n2 =>
 Option.bind (desk_words_take r2.2) fun r4 =>
 bnd ({ { n2 with Id := r4.1 } with Text := text1 }) fun n3 =>
 bif (decide (n3.Kind < 1)) || (decide (n3.Id = Str.nil)) then (
  some (n3, false))
 else (
  bindR (σ := (DNode × Desk_words)) (ρ := (DNode × Bool)) (
   bif !decide (n3.Kind = 6) then (
    Option.bind (desk_words_numbers r4.2 4) fun r5 =>
    bif !r5.2.1 then (
     some (Res.ab (n3, false)))
    else (
     need (inR r5.1 0) <|
     need (inR r5.1 1) <|
     need (inR r5.1 2) <|
     need (inR r5.1 3) <|
     bnd ((⟨gx r5.1 0, gx r5.1 1, gx r5.1 2, gx r5.1 3⟩ : Box)) fun v2 =>
     some (Res.nx ({ n3 with Box := v2 }, r5.2.2))))
   else (
    some (Res.nx (n3, r4.2)))) fun j_10 =>
  Option.bind (desk_words_option j_10.2 (⟨[99, 108, 97, 115, 115]⟩ : Str)) fun r6 =>
  bnd ({ j_10.1 with Class := r6.1 }) fun n4 =>
  Option.bind (desk_words_option r6.2 (⟨[105, 110]⟩ : Str)) fun r7 =>
  bnd ({ n4 with Parent := r7.1 }) fun n5 =>
  need ((decide (0 < (r7.2.l.length : Int))) = true → inR r7.2.l 0) <|
  Option.bind (α := (DNode × Desk_words)) (
   bif (decide (0 < (r7.2.l.length : Int))) && (decide ((gx r7.2.l 0) = (⟨[108, 111, 99, 107, 101, 100]⟩ : Str))) then (
    bnd ({ n5 with Locked := true }) fun n6 =>
    Option.bind (desk_words_take r7.2) fun r8 =>
    some (n6, r8.2))
   else (
    some (n5, r7.2))) fun j_24 =>
  some (j_24.1, decide ((j_24.2.l.length : Int) = 0)))

noncomputable def desk_Parse_L1  (s5_ : (Str × (List Rule) × Int × Doc)) : Option (Step (Str × (List Rule) × Int × Doc) (Res ((List Rule) × Doc) (Doc × (List Rule) × Int × Int))) :=
 bif !decide (s5_.1 = Str.nil) then (
  Option.bind (strings_Cut s5_.1 (⟨[10]⟩ : Str)) fun r1 =>
  Option.bind (desk_split r1.1) fun r2 =>
  bnd ((r2.2.2.2 && r1.2.2) && (!(r2.2.2.1 && (decide (r2.2.1 = Str.nil))))) fun ok1 =>
  Option.bind (α := ((List Rule) × Bool × Doc)) (
   bif !ok1 then (
    some (s5_.2.1, ok1, { s5_.2.2.2 with Nodes := s5_.2.2.2.Nodes, Edges := s5_.2.2.2.Edges }))
   else (
    need (inR r2.1 0) <|
    bif decide ((gx r2.1 0) = (⟨[115, 116, 121, 108, 101]⟩ : Str)) then (
     Option.bind (desk_readRule r2.1) fun r3 =>
     bnd (((r3.2 && (!r2.2.2.1)) && (decide ((s5_.2.2.2.Nodes.length : Int) = 0))) && (decide ((s5_.2.2.2.Edges.length : Int) = 0))) fun ok2 =>
     need (room (s5_.2.1.length + [r3.1].length)) <|
     some (s5_.2.1 ++ [r3.1], ok2, { s5_.2.2.2 with Nodes := s5_.2.2.2.Nodes, Edges := s5_.2.2.2.Edges }))
    else (
     need (inR r2.1 0) <|
     bif decide ((gx r2.1 0) = (⟨[101, 100, 103, 101]⟩ : Str)) then (
      Option.bind (desk_readEdge r2.1 r2.2.1) fun r4 =>
      need (room (s5_.2.2.2.Edges.length + [r4.1].length)) <|
      some (s5_.2.1, r4.2, { s5_.2.2.2 with Nodes := s5_.2.2.2.Nodes, Edges := s5_.2.2.2.Edges ++ [r4.1] }))
     else (
      Option.bind (desk_readNode r2.1 r2.2.1) fun r5 =>
      bnd (r5.2 && (decide ((s5_.2.2.2.Edges.length : Int) = 0))) fun ok3 =>
      need (room (s5_.2.2.2.Nodes.length + [r5.1].length)) <|
      some (s5_.2.1, ok3, { s5_.2.2.2 with Nodes := s5_.2.2.2.Nodes ++ [r5.1], Edges := s5_.2.2.2.Edges }))))) fun j_10 =>
  bif !j_10.2.1 then (
   bnd ((⟨([] : (List DNode)), ([] : (List DEdge))⟩ : Doc)) fun v3 =>
   some (Step.done (Res.ab (v3, ([] : (List Rule)), s5_.2.2.1, 8))))
  else (
   bnd (W (s5_.2.2.1 + 1)) fun at1 =>
   some (Step.again (r1.2.1, j_10.1, at1, { j_10.2.2 with Nodes := j_10.2.2.Nodes, Edges := j_10.2.2.Edges }))))
 else (
  some (Step.done (Res.nx (s5_.2.1, { s5_.2.2.2 with Nodes := s5_.2.2.2.Nodes, Edges := s5_.2.2.2.Edges }))))

/-- desk.Parse -/
noncomputable def desk_Parse (text1 : Str) : Option (Doc × (List Rule) × Int × Int) :=
 bnd ((⟨([] : (List DNode)), ([] : (List DEdge))⟩ : Doc)) fun v1 =>
 bif decide (1048576 < (text1.b.length : Int)) then (
  bnd ((⟨([] : (List DNode)), ([] : (List DEdge))⟩ : Doc)) fun v2 =>
  some (v2, ([] : (List Rule)), 0, 4))
 else (
  bindR (σ := ((List Rule) × Doc)) (ρ := (Doc × (List Rule) × Int × Int)) (
   loop desk_Parse_L1 (text1, ([] : List Rule), 0, (⟨([] : List DNode), ([] : List DEdge)⟩ : Doc))) fun j_4 =>
  Option.bind (page_Check ({ j_4.2 with Nodes := j_4.2.Nodes, Edges := j_4.2.Edges })) fun e1 =>
  bif !decide (e1 = 0) then (
   bnd ((⟨([] : (List DNode)), ([] : (List DEdge))⟩ : Doc)) fun v4 =>
   some (v4, ([] : (List Rule)), 0, e1))
  else (
   Option.bind (desk_CheckRules j_4.1) fun e2 =>
   bif !decide (e2 = 0) then (
    bnd ((⟨([] : (List DNode)), ([] : (List DEdge))⟩ : Doc)) fun v5 =>
    some (v5, ([] : (List Rule)), 0, e2))
   else (
    bnd ({ j_4.2 with Nodes := j_4.2.Nodes, Edges := j_4.2.Edges }) fun v6 =>
    some (v6, j_4.1, 0, 0))))

noncomputable def slices_Equal_Node_L1 (s1_1 : (List DNode)) (s2_1 : (List DNode)) (i : Int) (s : Unit) : Option (Res Unit (Res Unit Bool)) :=
 need (inR s1_1 i) <|
 need (inR s2_1 i) <|
 bif !decide ((gx s1_1 i) = (gx s2_1 i)) then (
  some (Res.ab (Res.ab false)))
 else (
  some (Res.nx ()))

/-- slices.Equal[[]api.Node,api.Node] -/
noncomputable def slices_Equal_Node (s1_1 : (List DNode)) (s2_1 : (List DNode)) : Option Bool :=
 bif !decide ((s1_1.length : Int) = (s2_1.length : Int)) then (
  some false)
 else (
  bindR (σ := Unit) (ρ := Bool) (
   rforE (s1_1.length : Int) (slices_Equal_Node_L1 s1_1 s2_1) (fun s => Res.nx s) ()) fun j_2 =>
  some true)

noncomputable def slices_EqualFunc_Edge_L1 (eq1 : (DEdge → DEdge → Option Bool)) (s1_1 : (List DEdge)) (s2_1 : (List DEdge)) (i : Int) (s : Unit) : Option (Res Unit (Res Unit Bool)) :=
 need (inR s1_1 i) <|
 bnd (gx s1_1 i) fun v1 =>
 need (inR s2_1 i) <|
 bnd (gx s2_1 i) fun v2 =>
 Option.bind (eq1 v1 v2) fun r1 =>
 bif !r1 then (
  some (Res.ab (Res.ab false)))
 else (
  some (Res.nx ()))

/-- slices.EqualFunc[[]api.Edge,[]api.Edge,api.Edge,api.Edge] -/
noncomputable def slices_EqualFunc_Edge (s1_1 : (List DEdge)) (s2_1 : (List DEdge)) (eq1 : (DEdge → DEdge → Option Bool)) : Option Bool :=
 bif !decide ((s1_1.length : Int) = (s2_1.length : Int)) then (
  some false)
 else (
  bindR (σ := Unit) (ρ := Bool) (
   rforE (s1_1.length : Int) (slices_EqualFunc_Edge_L1 eq1 s1_1 s2_1) (fun s => Res.nx s) ()) fun j_2 =>
  some true)

noncomputable def slices_Equal_Point_L1 (s1_1 : (List Point)) (s2_1 : (List Point)) (i : Int) (s : Unit) : Option (Res Unit (Res Unit Bool)) :=
 need (inR s1_1 i) <|
 need (inR s2_1 i) <|
 bif !decide ((gx s1_1 i) = (gx s2_1 i)) then (
  some (Res.ab (Res.ab false)))
 else (
  some (Res.nx ()))

/-- slices.Equal[[]api.Point,api.Point] -/
noncomputable def slices_Equal_Point (s1_1 : (List Point)) (s2_1 : (List Point)) : Option Bool :=
 bif !decide ((s1_1.length : Int) = (s2_1.length : Int)) then (
  some false)
 else (
  bindR (σ := Unit) (ρ := Bool) (
   rforE (s1_1.length : Int) (slices_Equal_Point_L1 s1_1 s2_1) (fun s => Res.nx s) ()) fun j_2 =>
  some true)

/-- drawref1.SameDoc$1 -/
noncomputable def ref_SameDoc_1 (x1 : DEdge) (y1 : DEdge) : Option Bool :=
 Option.bind (gd ((((decide (x1.Id = y1.Id)) && (decide (x1.From = y1.From))) && (decide (x1.To = y1.To)))) (slices_Equal_Point x1.Bends y1.Bends)) fun r1 =>
 some ((((((decide (x1.Id = y1.Id)) && (decide (x1.From = y1.From))) && (decide (x1.To = y1.To))) && r1) && (decide (x1.Text = y1.Text))) && (decide (x1.Class = y1.Class)))

/-- drawref1.SameDoc -/
noncomputable def ref_SameDoc (a1 : Doc) (b1 : Doc) : Option Bool :=
 Option.bind (slices_Equal_Node a1.Nodes b1.Nodes) fun r1 =>
 Option.bind (gd (r1) (slices_EqualFunc_Edge a1.Edges b1.Edges ref_SameDoc_1)) fun r2 =>
 some (r1 && r2)

noncomputable def slices_Equal_Rule_L1 (s1_1 : (List Rule)) (s2_1 : (List Rule)) (i : Int) (s : Unit) : Option (Res Unit (Res Unit Bool)) :=
 need (inR s1_1 i) <|
 need (inR s2_1 i) <|
 bif !decide ((gx s1_1 i) = (gx s2_1 i)) then (
  some (Res.ab (Res.ab false)))
 else (
  some (Res.nx ()))

/-- slices.Equal[[]api.Rule,api.Rule] -/
noncomputable def slices_Equal_Rule (s1_1 : (List Rule)) (s2_1 : (List Rule)) : Option Bool :=
 bif !decide ((s1_1.length : Int) = (s2_1.length : Int)) then (
  some false)
 else (
  bindR (σ := Unit) (ρ := Bool) (
   rforE (s1_1.length : Int) (slices_Equal_Rule_L1 s1_1 s2_1) (fun s => Res.nx s) ()) fun j_2 =>
  some true)

/-- drawlaw1.TextsOfDocs -/
noncomputable def law_TextsOfDocs (d1 : Doc) (l1 : (List Rule)) (text1 : Str) : Option Bool :=
 Option.bind (desk_Print d1 l1) fun r1 =>
 Option.bind (ref_DocError d1) fun r2 =>
 Option.bind (law_rulesError l1) fun r3 =>
 Option.bind (ref_First [r2, r3]) fun want1 =>
 Option.bind (α := Int) (
  bif decide (want1 = 0) then (
   Option.bind (law_docText d1 l1) fun r4 =>
   Option.bind (ref_When (decide (1048576 < (r4.b.length : Int))) 4) fun want2 =>
   some want2)
  else (
   some want1)) fun j_5 =>
 Option.bind (law_desks) fun r5 =>
 Option.bind (gd (!(!r5)) (law_is_string r1.1 r1.2 j_5 (law_TextsOfDocs_1 d1 l1))) fun r6 =>
 bif (!r5) || (!r6) then (
  some false)
 else (
  bindR (σ := Unit) (ρ := Bool) (
   bif decide (j_5 = 0) then (
    Option.bind (desk_Parse r1.1) fun r7 =>
    Option.bind (gd (!((!decide (r7.2.2.2 = 0)) || (!decide (r7.2.2.1 = 0)))) (ref_SameDoc r7.1 d1)) fun r8 =>
    Option.bind (gd (!(((!decide (r7.2.2.2 = 0)) || (!decide (r7.2.2.1 = 0))) || (!r8))) (slices_Equal_Rule r7.2.1 l1)) fun r9 =>
    bif (((!decide (r7.2.2.2 = 0)) || (!decide (r7.2.2.1 = 0))) || (!r8)) || (!r9) then (
     some (Res.ab false))
    else (
     some (Res.nx ())))
   else (
    some (Res.nx ()))) fun j_12 =>
  Option.bind (desk_Parse text1) fun r10 =>
  bif decide (r10.2.2.2 = 0) then (
   Option.bind (gd ((decide (r10.2.2.1 = 0))) (ref_DocError r10.1)) fun r11 =>
   Option.bind (gd ((decide (r10.2.2.1 = 0))) (law_rulesError r10.2.1)) fun r12 =>
   Option.bind (gd ((decide (r10.2.2.1 = 0))) (ref_First [r11, r12])) fun r13 =>
   Option.bind (gd (((decide (r10.2.2.1 = 0)) && (decide (r13 = 0)))) (law_docText r10.1 r10.2.1)) fun r14 =>
   some (((decide (r10.2.2.1 = 0)) && (decide (r13 = 0))) && (decide (r14 = text1))))
  else (
   Option.bind (gd ((decide ((W ((W ((r10.1.Nodes.length : Int) + (r10.1.Edges.length : Int))) + (r10.2.1.length : Int))) = 0))) (strings_Count text1 (⟨[10]⟩ : Str))) fun r15 =>
   Option.bind (gd ((decide ((W ((W ((r10.1.Nodes.length : Int) + (r10.1.Edges.length : Int))) + (r10.2.1.length : Int))) = 0))) (ref_In r10.2.2.1 0 r15)) fun r16 =>
   some (((decide ((W ((W ((r10.1.Nodes.length : Int) + (r10.1.Edges.length : Int))) + (r10.2.1.length : Int))) = 0)) && r16) && ((decide (r10.2.2.2 = 8)) || (decide (r10.2.2.1 = 0))))))


end Go.DB
