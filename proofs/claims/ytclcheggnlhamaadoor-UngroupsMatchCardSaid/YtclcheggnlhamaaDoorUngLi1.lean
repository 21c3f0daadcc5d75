/-
  What the functions compute, as plain functions (printed by a program of one's own).
-/
import Derived.Test.YtclcheggnlhamaaDoorUngTy
set_option maxRecDepth 100000
set_option linter.unusedSimpArgs false
set_option linter.unusedVariables false
namespace Go.DB
open Go Go.RowKit

/-- strings.Trim -/
noncomputable def strings_Trim (s cs : Str) : Option Str := need ((cs.b.length : Int) < 4294967281 ∧ cs.b.all (fun b => decide (b.toNat < 128)) = true) (some (trimS s cs))

/-- unicode/utf8.ValidString -/
noncomputable def utf8_ValidString (s : Str) : Option Bool := some (validS s)

/-- page.isName -/
noncomputable def page_isName (s1 : Str) : Option Bool :=
  need (((!decide (s1 = Str.nil)) && (decide ((s1.b.length : Int) ≤ 40))) = true → inR s1.b 0) <|
  need (((!decide (s1 = Str.nil)) && (decide ((s1.b.length : Int) ≤ 40))) = true → (decide ((⟨97⟩ : KI .u8).n ≤ (⟨((gx s1.b 0).toNat : Int)⟩ : KI .u8).n)) = true → inR s1.b 0) <|
  Option.bind (gd ((((!decide (s1 = Str.nil)) && (decide ((s1.b.length : Int) ≤ 40))) && ((decide ((⟨97⟩ : KI .u8).n ≤ (⟨((gx s1.b 0).toNat : Int)⟩ : KI .u8).n)) && (decide ((⟨((gx s1.b 0).toNat : Int)⟩ : KI .u8).n ≤ (⟨122⟩ : KI .u8).n))))) (strings_Trim s1 (⟨[97, 98, 99, 100, 101, 102, 103, 104, 105, 106, 107, 108, 109, 110, 111, 112, 113, 114, 115, 116, 117, 118, 119, 120, 121, 122, 48, 49, 50, 51, 52, 53, 54, 55, 56, 57, 45]⟩ : Str))) fun r1 =>
  some ((((!decide (s1 = Str.nil)) && (decide ((s1.b.length : Int) ≤ 40))) && ((decide ((⟨97⟩ : KI .u8).n ≤ (⟨((gx s1.b 0).toNat : Int)⟩ : KI .u8).n)) && (decide ((⟨((gx s1.b 0).toNat : Int)⟩ : KI .u8).n ≤ (⟨122⟩ : KI .u8).n)))) && (decide (r1 = Str.nil)))

/-- geom.out -/
noncomputable def geom_out (n1 : Int) : Option Bool :=
  some ((decide (n1 < (-1000000))) || (decide (1000000 < n1)))

/-- geom.CheckBox -/
noncomputable def geom_CheckBox (b1 : Box) : Option Int :=
  Option.bind (geom_out b1.X) fun r1 =>
  Option.bind (gd (!r1) (geom_out b1.Y)) fun r2 =>
  bif ((((r1 || r2) || (decide (b1.W_ < 1))) || (decide (20000 < b1.W_))) || (decide (b1.H < 1))) || (decide (20000 < b1.H)) then (
    some 3)
  else (
    some 0)

noncomputable def shape_CheckText_L1 (s1 : Str) (i : Int) (s : Unit) : Option (Res Unit (Res Unit Int)) :=
  need (inR s1.b i) <|
  need ((decide ((⟨((gx s1.b i).toNat : Int)⟩ : KI .u8).n < (⟨32⟩ : KI .u8).n)) = true → inR s1.b i) <|
  need (((decide ((⟨((gx s1.b i).toNat : Int)⟩ : KI .u8).n < (⟨32⟩ : KI .u8).n)) && (!decide ((⟨((gx s1.b i).toNat : Int)⟩ : KI .u8).n = (⟨10⟩ : KI .u8).n))) = false → inR s1.b i) <|
  bif ((decide ((⟨((gx s1.b i).toNat : Int)⟩ : KI .u8).n < (⟨32⟩ : KI .u8).n)) && (!decide ((⟨((gx s1.b i).toNat : Int)⟩ : KI .u8).n = (⟨10⟩ : KI .u8).n))) || (decide ((⟨((gx s1.b i).toNat : Int)⟩ : KI .u8).n = (⟨127⟩ : KI .u8).n)) then (
    some (Res.ab (Res.ab 2)))
  else (
    some (Res.nx ()))

/-- shape.CheckText -/
noncomputable def shape_CheckText (s1 : Str) : Option Int :=
  bif decide (1000 < (s1.b.length : Int)) then (
    some 4)
  else (
    Option.bind (utf8_ValidString s1) fun r1 =>
    bif !r1 then (
      some 2)
    else (
      bindR (σ := Unit) (ρ := Int) (
        rforE (s1.b.length : Int) (shape_CheckText_L1 s1) (fun s => Res.nx s) ()) fun j_4 =>
      some 0))

/-- page.checkNode -/
noncomputable def page_checkNode (n1 : DNode) (twice1 : Bool) : Option Int :=
  Option.bind (page_isName n1.Id) fun r1 =>
  bif !r1 then (
    some 5)
  else (
    bif twice1 then (
      some 6)
    else (
      bif (decide (n1.Kind < 1)) || (decide (6 < n1.Kind)) then (
        some 1)
      else (
        bif (decide (n1.Kind = 6)) && (!decide (n1.Box = (⟨(0 : Int), (0 : Int), (0 : Int), (0 : Int)⟩ : Box))) then (
          some 2)
        else (
          bindR (σ := Unit) (ρ := Int) (
            bif !decide (n1.Kind = 6) then (
              Option.bind (geom_CheckBox n1.Box) fun e1 =>
              bif !decide (e1 = 0) then (
                some (Res.ab e1))
              else (
                some (Res.nx ())))
            else (
              some (Res.nx ()))) fun j_6 =>
          Option.bind (shape_CheckText n1.Text) fun e2 =>
          bif !decide (e2 = 0) then (
            some e2)
          else (
            Option.bind (gd ((!decide (n1.Class = Str.nil))) (page_isName n1.Class)) fun r2 =>
            bif (!decide (n1.Class = Str.nil)) && (!r2) then (
              some 5)
            else (
              some 0))))))

noncomputable def page_viewOf_L1 (d1 : Doc) (i : Int) (s : ((GMap Str Int) × (GMap Str (List Int)))) : Option ((GMap Str Int) × (GMap Str (List Int))) :=
  need (inR d1.Nodes i) <|
  bnd (gx d1.Nodes i) fun v1 =>
  bnd (s.1.set v1.Id i) fun c3 =>
  bif !decide (v1.Parent = Str.nil) then (
    need (room ((s.2.getD v1.Parent ([] : (List Int))).length + [i].length)) <|
    some (c3, s.2.set v1.Parent ((s.2.getD v1.Parent ([] : (List Int))) ++ [i])))
  else (
    some (c3, s.2))

/-- page.viewOf -/
noncomputable def page_viewOf (d1 : Doc) : Option (Option Page_view) :=
  bnd ((GMap.nil : (GMap Str Int))) fun c1 =>
  bnd ((GMap.nil : (GMap Str (List Int)))) fun c2 =>
  Option.bind (α := ((GMap Str Int) × (GMap Str (List Int)))) (
    rfor (d1.Nodes.length : Int) (page_viewOf_L1 d1) (c1, c2)) fun j_3 =>
  some (some (⟨d1, j_3.1, j_3.2⟩ : Page_view))

/-- (*page.view).node -/
noncomputable def page_view_node (v1 : Page_view) (id1 : Str) : Option DNode :=
  bnd ((⟨Str.nil, (0 : Int), (⟨(0 : Int), (0 : Int), (0 : Int), (0 : Int)⟩ : Box), Str.nil, Str.nil, Str.nil, false⟩ : DNode)) fun v2 =>
  need (inR v1.d.Nodes (v1.number.getD id1 (0 : Int))) <|
  bnd (gx v1.d.Nodes (v1.number.getD id1 (0 : Int))) fun v3 =>
  some v3

noncomputable def page_view_above_L1 (n1 : DNode) (v1 : Page_view) (s2_ : (Int × DNode)) : Option (Step (Int × DNode) (Res Int (Int × Bool))) :=
  bif !decide (s2_.2.Parent = Str.nil) then (
    bnd (W (s2_.1 + 1)) fun many1 =>
    bif (decide (s2_.2.Parent = n1.Id)) || (decide ((v1.d.Nodes.length : Int) < many1)) then (
      some (Step.done (Res.ab (many1, !decide (s2_.2.Parent = n1.Id)))))
    else (
      Option.bind (page_view_node v1 s2_.2.Parent) fun r1 =>
      some (Step.again (many1, r1))))
  else (
    some (Step.done (Res.nx s2_.1)))

/-- (*page.view).above -/
noncomputable def page_view_above (v1 : Page_view) (n1 : DNode) : Option (Int × Bool) :=
  bindR (σ := Int) (ρ := (Int × Bool)) (
    loop (page_view_above_L1 n1 v1) (0, n1)) fun j_1 =>
  some (j_1, true)

noncomputable def page_view_checkGroups_L1 (v1 : Page_view) (i : Int) (s : Unit) : Option (Res Unit (Res Unit Int)) :=
  need (inR v1.d.Nodes i) <|
  bnd (gx v1.d.Nodes i) fun v2 =>
  need ((!decide (v2.Parent = Str.nil)) = true → (!(v1.number.has v2.Parent)) = false → inR v1.d.Nodes (v1.number.getD v2.Parent (0 : Int))) <|
  bif (!decide (v2.Parent = Str.nil)) && ((!(v1.number.has v2.Parent)) || (!decide (((gx v1.d.Nodes (v1.number.getD v2.Parent (0 : Int))).Kind) = 6))) then (
    some (Res.ab (Res.ab 10)))
  else (
    some (Res.nx ()))

noncomputable def page_view_checkGroups_L2 (v1 : Page_view) (i : Int) (s : Unit) : Option (Res Unit (Res Unit Int)) :=
  need (inR v1.d.Nodes i) <|
  bnd (gx v1.d.Nodes i) fun v3 =>
  Option.bind (page_view_above v1 v3) fun r1 =>
  bif !r1.2 then (
    some (Res.ab (Res.ab 13)))
  else (
    some (Res.nx ()))

noncomputable def page_view_checkGroups_L3 (v1 : Page_view) (i : Int) (s : Unit) : Option (Res Unit (Res Unit Int)) :=
  need (inR v1.d.Nodes i) <|
  bnd (gx v1.d.Nodes i) fun v4 =>
  Option.bind (page_view_above v1 v4) fun r2 =>
  bif decide (8 < r2.1) then (
    some (Res.ab (Res.ab 4)))
  else (
    some (Res.nx ()))

noncomputable def page_view_checkGroups_L4 (v1 : Page_view) (i : Int) (s : Unit) : Option (Res Unit (Res Unit Int)) :=
  need (inR v1.d.Nodes i) <|
  bnd (gx v1.d.Nodes i) fun v5 =>
  bif (decide (v5.Kind = 6)) && (decide (((v1.members.getD v5.Id ([] : (List Int))).length : Int) = 0)) then (
    some (Res.ab (Res.ab 9)))
  else (
    some (Res.nx ()))

/-- (*page.view).checkGroups -/
noncomputable def page_view_checkGroups (v1 : Page_view) : Option Int :=
  bindR (σ := Unit) (ρ := Int) (
    rforE (v1.d.Nodes.length : Int) (page_view_checkGroups_L1 v1) (fun s => Res.nx s) ()) fun j_1 =>
  bindR (σ := Unit) (ρ := Int) (
    rforE (v1.d.Nodes.length : Int) (page_view_checkGroups_L2 v1) (fun s => Res.nx s) ()) fun j_9 =>
  bindR (σ := Unit) (ρ := Int) (
    rforE (v1.d.Nodes.length : Int) (page_view_checkGroups_L3 v1) (fun s => Res.nx s) ()) fun j_17 =>
  bindR (σ := Unit) (ρ := Int) (
    rforE (v1.d.Nodes.length : Int) (page_view_checkGroups_L4 v1) (fun s => Res.nx s) ()) fun j_25 =>
  some 0

/-- (*page.view).checkEnd -/
noncomputable def page_view_checkEnd (v1 : Page_view) (x1 : DEnd) : Option Int :=
  bif !(v1.number.has x1.Node) then (
    some 10)
  else (
    need (inR v1.d.Nodes (v1.number.getD x1.Node (0 : Int))) <|
    bif decide (((gx v1.d.Nodes (v1.number.getD x1.Node (0 : Int))).Kind) = 6) then (
      some 1)
    else (
      bif (((decide (x1.Side < 1)) || (decide (4 < x1.Side))) || (decide (x1.At < 0))) || (decide (1000 < x1.At)) then (
        some 3)
      else (
        some 0)))

/-- geom.CheckPoint -/
noncomputable def geom_CheckPoint (p1 : Point) : Option Int :=
  Option.bind (geom_out p1.X) fun r1 =>
  Option.bind (gd (!r1) (geom_out p1.Y)) fun r2 =>
  bif r1 || r2 then (
    some 3)
  else (
    some 0)

noncomputable def geom_points_L1 (l1 : (List Point)) (i : Int) (s : Unit) : Option (Res Unit (Res Unit Int)) :=
  need (inR l1 i) <|
  bnd (gx l1 i) fun v1 =>
  Option.bind (geom_CheckPoint v1) fun e1 =>
  bif !decide (e1 = 0) then (
    some (Res.ab (Res.ab e1)))
  else (
    some (Res.nx ()))

/-- geom.points -/
noncomputable def geom_points (l1 : (List Point)) : Option Int :=
  bindR (σ := Unit) (ρ := Int) (
    rforE (l1.length : Int) (geom_points_L1 l1) (fun s => Res.nx s) ()) fun j_1 =>
  some 0

/-- geom.CheckPoints -/
noncomputable def geom_CheckPoints (l1 : (List Point)) : Option Int :=
  bif decide (1000 < (l1.length : Int)) then (
    some 4)
  else (
    Option.bind (geom_points l1) fun r1 =>
    some r1)

noncomputable def page_view_checkEdge_L1 (v1 : Page_view) (v2 : (List DEnd)) (i : Int) (s : Unit) : Option (Res Unit (Res Unit Int)) :=
  need (inR v2 i) <|
  bnd (gx v2 i) fun v3 =>
  Option.bind (page_view_checkEnd v1 v3) fun e1 =>
  bif !decide (e1 = 0) then (
    some (Res.ab (Res.ab e1)))
  else (
    some (Res.nx ()))

/-- (*page.view).checkEdge -/
noncomputable def page_view_checkEdge (v1 : Page_view) (x1 : DEdge) (twice1 : Bool) : Option Int :=
  Option.bind (page_isName x1.Id) fun r1 =>
  bif !r1 then (
    some 5)
  else (
    bif twice1 then (
      some 6)
    else (
      bnd ([x1.From, x1.To]) fun v2 =>
      bindR (σ := Unit) (ρ := Int) (
        rforE (v2.length : Int) (page_view_checkEdge_L1 v1 v2) (fun s => Res.nx s) ()) fun j_5 =>
      bif decide (50 < (x1.Bends.length : Int)) then (
        some 4)
      else (
        Option.bind (geom_CheckPoints x1.Bends) fun e2 =>
        bif !decide (e2 = 0) then (
          some e2)
        else (
          Option.bind (shape_CheckText x1.Text) fun e3 =>
          bif !decide (e3 = 0) then (
            some e3)
          else (
            Option.bind (gd ((!decide (x1.Class = Str.nil))) (page_isName x1.Class)) fun r2 =>
            bif (!decide (x1.Class = Str.nil)) && (!r2) then (
              some 5)
            else (
              some 0))))))

noncomputable def geom_boxes_L1 (l1 : (List Box)) (i : Int) (s : Unit) : Option (Res Unit (Res Unit Int)) :=
  need (inR l1 i) <|
  bnd (gx l1 i) fun v1 =>
  Option.bind (geom_CheckBox v1) fun e1 =>
  bif !decide (e1 = 0) then (
    some (Res.ab (Res.ab e1)))
  else (
    some (Res.nx ()))

/-- geom.boxes -/
noncomputable def geom_boxes (l1 : (List Box)) : Option Int :=
  bindR (σ := Unit) (ρ := Int) (
    rforE (l1.length : Int) (geom_boxes_L1 l1) (fun s => Res.nx s) ()) fun j_1 =>
  some 0

noncomputable def geom_Hull_L1 (l1 : (List Box)) (i : Int) (s : Box) : Option Box :=
  need (inR l1 i) <|
  bnd (gx l1 i) fun v6 =>
  bnd (min s.X v6.X) fun x1 =>
  bnd (min s.Y v6.Y) fun y1 =>
  bnd ((⟨x1, y1, W ((max (W (s.X + s.W_)) (W (v6.X + v6.W_))) - x1), W ((max (W (s.Y + s.H)) (W (v6.Y + v6.H))) - y1)⟩ : Box)) fun v7 =>
  some v7

/-- geom.Hull -/
noncomputable def geom_Hull (l1 : (List Box)) : Option (Box × Int) :=
  bnd ((⟨(0 : Int), (0 : Int), (0 : Int), (0 : Int)⟩ : Box)) fun v1 =>
  bif decide (1000 < (l1.length : Int)) then (
    bnd ((⟨(0 : Int), (0 : Int), (0 : Int), (0 : Int)⟩ : Box)) fun v2 =>
    some (v2, 4))
  else (
    Option.bind (geom_boxes l1) fun e1 =>
    bif !decide (e1 = 0) then (
      bnd ((⟨(0 : Int), (0 : Int), (0 : Int), (0 : Int)⟩ : Box)) fun v3 =>
      some (v3, e1))
    else (
      bif decide ((l1.length : Int) = 0) then (
        bnd ((⟨(0 : Int), (0 : Int), (0 : Int), (0 : Int)⟩ : Box)) fun v4 =>
        some (v4, 9))
      else (
        need (inR l1 0) <|
        bnd (gx l1 0) fun v5 =>
        Option.bind (α := Box) (
          rfor (l1.length : Int) (geom_Hull_L1 l1) v5) fun j_11 =>
        bif (decide (20000 < j_11.W_)) || (decide (20000 < j_11.H)) then (
          bnd ((⟨(0 : Int), (0 : Int), (0 : Int), (0 : Int)⟩ : Box)) fun v8 =>
          some (v8, 4))
        else (
          some (j_11, 0)))))

/-- geom.Grow -/
noncomputable def geom_Grow (b1 : Box) (n1 : Int) : Option (Box × Int) :=
  bnd ((⟨(0 : Int), (0 : Int), (0 : Int), (0 : Int)⟩ : Box)) fun v1 =>
  Option.bind (geom_CheckBox b1) fun e1 =>
  bif !decide (e1 = 0) then (
    bnd ((⟨(0 : Int), (0 : Int), (0 : Int), (0 : Int)⟩ : Box)) fun v2 =>
    some (v2, e1))
  else (
    bif (decide (n1 < (-20000))) || (decide (20000 < n1)) then (
      bnd ((⟨(0 : Int), (0 : Int), (0 : Int), (0 : Int)⟩ : Box)) fun v3 =>
      some (v3, 3))
    else (
      bnd ((⟨W (b1.X - n1), W (b1.Y - n1), W (b1.W_ + (W (2 * n1))), W (b1.H + (W (2 * n1)))⟩ : Box)) fun v4 =>
      bif (decide (v4.W_ < 1)) || (decide (v4.H < 1)) then (
        bnd ((⟨(0 : Int), (0 : Int), (0 : Int), (0 : Int)⟩ : Box)) fun v5 =>
        some (v5, 9))
      else (
        Option.bind (geom_CheckBox v4) fun e2 =>
        bif !decide (e2 = 0) then (
          bnd ((⟨(0 : Int), (0 : Int), (0 : Int), (0 : Int)⟩ : Box)) fun v6 =>
          some (v6, e2))
        else (
          some (v4, 0)))))

noncomputable def page_view_boxOf_L1 (self : (Page_view × Int) → Option (Box × Int)) (x : (Page_view × Int)) (v4 : (List Int)) (i : Int) (s : (List Box)) : Option (Res (List Box) (Res (List Box) (Box × Int))) :=
  need (inR v4 i) <|
  Option.bind (self (x.1, (gx v4 i))) fun r1 =>
  bif !decide (r1.2 = 0) then (
    bnd ((⟨(0 : Int), (0 : Int), (0 : Int), (0 : Int)⟩ : Box)) fun v5 =>
    some (Res.ab (Res.ab (v5, r1.2))))
  else (
    need (room (s.length + [r1.1].length)) <|
    some (Res.nx (s ++ [r1.1])))

/-- (*page.view).boxOf -/
noncomputable def page_view_boxOf_body (self : (Page_view × Int) → Option (Box × Int)) (x : (Page_view × Int)) : Option (Box × Int) :=
  bnd ((⟨(0 : Int), (0 : Int), (0 : Int), (0 : Int)⟩ : Box)) fun v2 =>
  need (inR x.1.d.Nodes x.2) <|
  bnd (gx x.1.d.Nodes x.2) fun v3 =>
  bif !decide (v3.Kind = 6) then (
    some (v3.Box, 0))
  else (
    bnd (x.1.members.getD v3.Id ([] : (List Int))) fun v4 =>
    bindR (σ := (List Box)) (ρ := (Box × Int)) (
      rforE (v4.length : Int) (page_view_boxOf_L1 self x v4) (fun s => Res.nx s) ([] : List Box)) fun j_6 =>
    Option.bind (geom_Hull j_6) fun r2 =>
    bif !decide (r2.2 = 0) then (
      bnd ((⟨(0 : Int), (0 : Int), (0 : Int), (0 : Int)⟩ : Box)) fun v6 =>
      some (v6, r2.2))
    else (
      Option.bind (geom_Grow r2.1 10) fun r3 =>
      some (r3.1, r3.2)))

noncomputable def page_view_boxOf (v1 : Page_view) (i1 : Int) : Option (Box × Int) := fixp page_view_boxOf_body (v1, i1)

noncomputable def page_Check_L1 (d1 : Doc) (i : Int) (s : (GMap Str Bool)) : Option (Res (GMap Str Bool) (Res (GMap Str Bool) Int)) :=
  need (inR d1.Nodes i) <|
  bnd (gx d1.Nodes i) fun v1 =>
  Option.bind (page_checkNode v1 (s.getD v1.Id false)) fun e1 =>
  bif !decide (e1 = 0) then (
    some (Res.ab (Res.ab e1)))
  else (
    some (Res.nx (s.set v1.Id true)))

noncomputable def page_Check_L2 (d1 : Doc) (p1 : Page_view) (i : Int) (s : (GMap Str Bool)) : Option (Res (GMap Str Bool) (Res (GMap Str Bool) Int)) :=
  need (inR d1.Edges i) <|
  bnd (gx d1.Edges i) fun v3 =>
  Option.bind (page_view_checkEdge p1 v3 (s.getD v3.Id false)) fun e3 =>
  bif !decide (e3 = 0) then (
    some (Res.ab (Res.ab e3)))
  else (
    some (Res.nx (s.set v3.Id true)))

noncomputable def page_Check_L3 (p1 : Page_view) (i : Int) (s : Unit) : Option (Res Unit (Res Unit Int)) :=
  Option.bind (page_view_boxOf p1 i) fun r1 =>
  bif !decide (r1.2 = 0) then (
    some (Res.ab (Res.ab r1.2)))
  else (
    some (Res.nx ()))

/-- page.Check -/
noncomputable def page_Check (d1 : Doc) : Option Int :=
  bif (decide (500 < (d1.Nodes.length : Int))) || (decide (1000 < (d1.Edges.length : Int))) then (
    some 4)
  else (
    bnd ((GMap.nil : (GMap Str Bool))) fun known1 =>
    bindR (σ := (GMap Str Bool)) (ρ := Int) (
      rforE (d1.Nodes.length : Int) (page_Check_L1 d1) (fun s => Res.nx s) known1) fun j_3 =>
    Option.bind (page_viewOf d1) fun v2 =>
    Option.bind v2 fun p1 =>
    Option.bind (page_view_checkGroups p1) fun e2 =>
    bif !decide (e2 = 0) then (
      some e2)
    else (
      bindR (σ := (GMap Str Bool)) (ρ := Int) (
        rforE (d1.Edges.length : Int) (page_Check_L2 d1 p1) (fun s => Res.nx s) j_3) fun j_15 =>
      bindR (σ := Unit) (ρ := Int) (
        rforE (d1.Nodes.length : Int) (page_Check_L3 p1) (fun s => Res.nx s) ()) fun j_23 =>
      some 0))

/-- page.look -/
noncomputable def page_look (d1 : Doc) : Option ((Option Page_view) × Int) :=
  Option.bind (page_Check d1) fun e1 =>
  bif !decide (e1 = 0) then (
    some ((none : (Option Page_view)), e1))
  else (
    Option.bind (page_viewOf d1) fun r1 =>
    Option.bind r1 fun p1 =>
    some ((some p1), 0))

/-- page.find -/
noncomputable def page_find (d1 : Doc) (id1 : Str) : Option ((Option Page_view) × Int × Int) :=
  Option.bind (page_look d1) fun r1 =>
  bif !decide (r1.2 = 0) then (
    some ((none : (Option Page_view)), 0, r1.2))
  else (
    Option.bind r1.1 fun v1 =>
    bif !(v1.number.has id1) then (
      some ((none : (Option Page_view)), 0, 10))
    else (
      some ((some v1), v1.number.getD id1 (0 : Int), 0)))

/-- slices.Clone[[]api.Node,api.Node] -/
noncomputable def slices_Clone_Node (s1 : (List DNode)) : Option (List DNode) :=
  nilc s1 (
    some ([] : List DNode)) (
    need (room (([] : (List DNode)).length + s1.length)) <|
    bnd (([] : (List DNode)) ++ s1) fun v1 =>
    some v1)

/-- slices.Clone[[]api.Edge,api.Edge] -/
noncomputable def slices_Clone_Edge (s1 : (List DEdge)) : Option (List DEdge) :=
  nilc s1 (
    some ([] : List DEdge)) (
    need (room (([] : (List DEdge)).length + s1.length)) <|
    bnd (([] : (List DEdge)) ++ s1) fun v1 =>
    some v1)

/-- slices.Clone[[]api.Point,api.Point] -/
noncomputable def slices_Clone_Point (s1 : (List Point)) : Option (List Point) :=
  nilc s1 (
    some ([] : List Point)) (
    need (room (([] : (List Point)).length + s1.length)) <|
    bnd (([] : (List Point)) ++ s1) fun v1 =>
    some v1)

noncomputable def page_cloned_L1  (i : Int) (s : (List DEdge)) : Option (List DEdge) :=
  need (inR s i) <|
  Option.bind (slices_Clone_Point ((gx s i).Bends)) fun r3 =>
  need (inR s i) <|
  some (s.set i.toNat { gx s i with Bends := r3 })

/-- page.cloned -/
noncomputable def page_cloned (d1 : Doc) : Option Doc :=
  bnd ((⟨([] : (List DNode)), ([] : (List DEdge))⟩ : Doc)) fun v1 =>
  Option.bind (slices_Clone_Node d1.Nodes) fun r1 =>
  Option.bind (slices_Clone_Edge d1.Edges) fun r2 =>
  Option.bind (α := (List DEdge)) (
    rfor (r2.length : Int) page_cloned_L1 r2) fun j_4 =>
  some ({ d1 with Nodes := r1, Edges := j_4 })

/-- slices.Delete[[]api.Node,api.Node] -/
noncomputable def slices_Delete_Node (s1 : (List DNode)) (i1 : Int) (j1 : Int) : Option (List DNode) :=
  need (0 ≤ i1 ∧ i1 ≤ j1 ∧ j1 ≤ (s1.length : Int) ∧ (s1.length : Int) ≤ (s1.length : Int)) <|
  bif decide (i1 = j1) then (
    some s1)
  else (
    need (segR s1.length 0 i1) <|
    need (segR s1.length j1 (s1.length : Int)) <|
    need (i1 ≤ j1) <|
    bnd (s1.take i1.toNat ++ s1.drop j1.toNat ++ s1.drop (i1 + ((s1.length : Int) - j1)).toNat) fun s2 =>
    need (segR s2.length 0 (i1 + ((s1.length : Int) - j1))) <|
    need (segR s2.length 0 (i1 + ((s1.length : Int) - j1))) <|
    need (segR s2.length ((i1 + ((s1.length : Int) - j1)) - 0) (s1.length : Int)) <|
    need ((s1.length : Int) = (s2.length : Int)) <|
    bnd (s2.take ((i1 + ((s1.length : Int) - j1)) - 0).toNat ++ List.replicate (s2.length - ((i1 + ((s1.length : Int) - j1)) - 0).toNat) (⟨Str.nil, (0 : Int), (⟨(0 : Int), (0 : Int), (0 : Int), (0 : Int)⟩ : Box), Str.nil, Str.nil, Str.nil, false⟩ : DNode)) fun s3 =>
    need (segR s3.length 0 (i1 + ((s1.length : Int) - j1))) <|
    some (s3.take (i1 + ((s1.length : Int) - j1)).toNat))

noncomputable def page_Ungroup_L1 (r1 : ((Option Page_view) × Int × Int)) (v5 : (List Int)) (i : Int) (s : (List DNode)) : Option (List DNode) :=
  need (inR v5 i) <|
  need (inR s r1.2.1) <|
  bnd ((gx s r1.2.1).Parent) fun v6 =>
  need (inR s (gx v5 i)) <|
  some (s.set (gx v5 i).toNat { gx s (gx v5 i) with Parent := v6 })

/-- page.Ungroup -/
noncomputable def page_Ungroup (d1 : Doc) (id1 : Str) : Option (Doc × Int) :=
  bnd ((⟨([] : (List DNode)), ([] : (List DEdge))⟩ : Doc)) fun v1 =>
  Option.bind (page_find d1 id1) fun r1 =>
  bif !decide (r1.2.2 = 0) then (
    bnd ((⟨([] : (List DNode)), ([] : (List DEdge))⟩ : Doc)) fun v2 =>
    some (v2, r1.2.2))
  else (
    need (inR d1.Nodes r1.2.1) <|
    bif !decide (((gx d1.Nodes r1.2.1).Kind) = 6) then (
      bnd ((⟨([] : (List DNode)), ([] : (List DEdge))⟩ : Doc)) fun v3 =>
      some (v3, 1))
    else (
      Option.bind (page_cloned d1) fun r2 =>
      Option.bind r1.1 fun v4 =>
      bnd (v4.members.getD id1 ([] : (List Int))) fun v5 =>
      Option.bind (α := (List DNode)) (
        rfor (v5.length : Int) (page_Ungroup_L1 r1 v5) r2.Nodes) fun j_11 =>
      Option.bind (slices_Delete_Node j_11 r1.2.1 (W (r1.2.1 + 1))) fun r3 =>
      some ({ r2 with Nodes := r3, Edges := r2.Edges }, 0)))

/-- drawref1.nodeError$1 -/
noncomputable def ref_nodeError_1 (m1 : DNode) (c0_1 : DNode) : Option Bool :=
  some (decide (m1.Id = c0_1.Id))

noncomputable def slices_IndexFunc_Node_L1 (f1 : (DNode → Option Bool)) (s1 : (List DNode)) (i : Int) (s : Unit) : Option (Res Unit (Res Unit Int)) :=
  need (inR s1 i) <|
  Option.bind (f1 (gx s1 i)) fun r1 =>
  bif r1 then (
    some (Res.ab (Res.ab i)))
  else (
    some (Res.nx ()))

/-- slices.IndexFunc[[]api.Node,api.Node] -/
noncomputable def slices_IndexFunc_Node (s1 : (List DNode)) (f1 : (DNode → Option Bool)) : Option Int :=
  bindR (σ := Unit) (ρ := Int) (
    rforE (s1.length : Int) (slices_IndexFunc_Node_L1 f1 s1) (fun s => Res.nx s) ()) fun j_1 =>
  some (-1)

/-- slices.ContainsFunc[[]api.Node,api.Node] -/
noncomputable def slices_ContainsFunc_Node (s1 : (List DNode)) (f1 : (DNode → Option Bool)) : Option Bool :=
  Option.bind (slices_IndexFunc_Node s1 f1) fun r1 =>
  some (decide (0 ≤ r1))

noncomputable def ref_NameOf_L1 (s1 : Str) (i : Int) (s : Unit) : Option (Res Unit (Res Unit Bool)) :=
  need (inR s1.b i) <|
  bnd ((⟨((gx s1.b i).toNat : Int)⟩ : KI .u8)) fun c1 =>
  bif (!((decide ((⟨97⟩ : KI .u8).n ≤ c1.n)) && (decide (c1.n ≤ (⟨122⟩ : KI .u8).n)))) && ((decide (i = 0)) || ((!((decide ((⟨48⟩ : KI .u8).n ≤ c1.n)) && (decide (c1.n ≤ (⟨57⟩ : KI .u8).n)))) && (!decide (c1.n = (⟨45⟩ : KI .u8).n)))) then (
    some (Res.ab (Res.ab false)))
  else (
    some (Res.nx ()))

/-- drawref1.NameOf -/
noncomputable def ref_NameOf (s1 : Str) : Option Bool :=
  bindR (σ := Unit) (ρ := Bool) (
    rforE (s1.b.length : Int) (ref_NameOf_L1 s1) (fun s => Res.nx s) ()) fun j_1 =>
  some ((!decide (s1 = Str.nil)) && (decide ((s1.b.length : Int) ≤ 40)))

/-- drawref1.When -/
noncomputable def ref_When (is1 : Bool) (e1 : Int) : Option Int :=
  bif is1 then (
    some e1)
  else (
    some 0)

/-- drawref1.In -/
noncomputable def ref_In (n1 : Int) (low1 : Int) (high1 : Int) : Option Bool :=
  some ((decide (low1 ≤ n1)) && (decide (n1 ≤ high1)))

noncomputable def ref_First_L1 (l1 : (List Int)) (i : Int) (s : Unit) : Option (Res Unit (Res Unit Int)) :=
  need (inR l1 i) <|
  bnd (gx l1 i) fun e1 =>
  bif !decide (e1 = 0) then (
    some (Res.ab (Res.ab e1)))
  else (
    some (Res.nx ()))

/-- drawref1.First -/
noncomputable def ref_First (l1 : (List Int)) : Option Int :=
  bindR (σ := Unit) (ρ := Int) (
    rforE (l1.length : Int) (ref_First_L1 l1) (fun s => Res.nx s) ()) fun j_1 =>
  some 0

/-- drawref1.PointError -/
noncomputable def ref_PointError (p1 : Point) : Option Int :=
  Option.bind (ref_In p1.X (-1000000) 1000000) fun r1 =>
  Option.bind (gd (!(!r1)) (ref_In p1.Y (-1000000) 1000000)) fun r2 =>
  Option.bind (ref_When ((!r1) || (!r2)) 3) fun r3 =>
  some r3

/-- drawref1.BoxError -/
noncomputable def ref_BoxError (b1 : Box) : Option Int :=
  Option.bind (ref_PointError (⟨b1.X, b1.Y⟩ : Point)) fun r1 =>
  Option.bind (ref_In b1.W_ 1 20000) fun r2 =>
  Option.bind (gd (!(!r2)) (ref_In b1.H 1 20000)) fun r3 =>
  Option.bind (ref_When ((!r2) || (!r3)) 3) fun r4 =>
  Option.bind (ref_First [r1, r4]) fun r5 =>
  some r5

noncomputable def ref_TextError_L1 (s1 : Str) (i : Int) (s : Bool) : Option Bool :=
  need (s = false → inR s1.b i) <|
  need (s = false → (decide ((⟨((gx s1.b i).toNat : Int)⟩ : KI .u8).n < (⟨32⟩ : KI .u8).n)) = true → inR s1.b i) <|
  need ((s || ((decide ((⟨((gx s1.b i).toNat : Int)⟩ : KI .u8).n < (⟨32⟩ : KI .u8).n)) && (!decide ((⟨((gx s1.b i).toNat : Int)⟩ : KI .u8).n = (⟨10⟩ : KI .u8).n)))) = false → inR s1.b i) <|
  bnd ((s || ((decide ((⟨((gx s1.b i).toNat : Int)⟩ : KI .u8).n < (⟨32⟩ : KI .u8).n)) && (!decide ((⟨((gx s1.b i).toNat : Int)⟩ : KI .u8).n = (⟨10⟩ : KI .u8).n)))) || (decide ((⟨((gx s1.b i).toNat : Int)⟩ : KI .u8).n = (⟨127⟩ : KI .u8).n))) fun bad2 =>
  some bad2

/-- drawref1.TextError -/
noncomputable def ref_TextError (s1 : Str) : Option Int :=
  Option.bind (utf8_ValidString s1) fun r1 =>
  bnd (!r1) fun bad1 =>
  Option.bind (α := Bool) (
    rfor (s1.b.length : Int) (ref_TextError_L1 s1) bad1) fun j_3 =>
  Option.bind (ref_When (decide (1000 < (s1.b.length : Int))) 4) fun r2 =>
  Option.bind (ref_When j_3 2) fun r3 =>
  Option.bind (ref_First [r2, r3]) fun r4 =>
  some r4

/-- drawref1.classError -/
noncomputable def ref_classError (s1 : Str) : Option Int :=
  Option.bind (gd ((!decide (s1 = Str.nil))) (ref_NameOf s1)) fun r1 =>
  Option.bind (ref_When ((!decide (s1 = Str.nil)) && (!r1)) 5) fun r2 =>
  some r2

/-- drawref1.nodeError -/
noncomputable def ref_nodeError (d1 : Doc) (i1 : Int) : Option Int :=
  need (inR d1.Nodes i1) <|
  bnd (gx d1.Nodes i1) fun v1 =>
  need (segR d1.Nodes.length 0 i1) <|
  Option.bind (slices_ContainsFunc_Node (seg d1.Nodes 0 i1) (fun x0 => ref_nodeError_1 x0 v1)) fun twice1 =>
  Option.bind (ref_NameOf v1.Id) fun r1 =>
  Option.bind (ref_When (!r1) 5) fun r2 =>
  Option.bind (ref_When twice1 6) fun r3 =>
  Option.bind (ref_In v1.Kind 1 6) fun r4 =>
  Option.bind (ref_When (!r4) 1) fun r5 =>
  Option.bind (ref_First [r2, r3, r5]) fun e1 =>
  bif !decide (e1 = 0) then (
    some e1)
  else (
    Option.bind (ref_When (!decide (v1.Box = (⟨(0 : Int), (0 : Int), (0 : Int), (0 : Int)⟩ : Box))) 2) fun box1 =>
    Option.bind (α := Int) (
      bif !decide (v1.Kind = 6) then (
        Option.bind (ref_BoxError v1.Box) fun box2 =>
        some box2)
      else (
        some box1)) fun j_13 =>
    Option.bind (ref_TextError v1.Text) fun r6 =>
    Option.bind (ref_classError v1.Class) fun r7 =>
    Option.bind (ref_First [j_13, r6, r7]) fun r8 =>
    some r8)

/-- drawref1.NodeAt$1 -/
noncomputable def ref_NodeAt_1 (n1 : DNode) (c0_1 : Str) : Option Bool :=
  some (decide (n1.Id = c0_1))

/-- drawref1.NodeAt -/
noncomputable def ref_NodeAt (d1 : Doc) (id1 : Str) : Option Int :=
  Option.bind (slices_IndexFunc_Node d1.Nodes (fun x0 => ref_NodeAt_1 x0 id1)) fun r1 =>
  some r1

noncomputable def ref_above_L1 (d1 : Doc) (n1 : DNode) (s2_ : (Int × Str)) : Option (Step (Int × Str) (Res Int (Int × Bool))) :=
  bif !decide (s2_.2 = Str.nil) then (
    bnd (W (s2_.1 + 1)) fun many1 =>
    bif (decide (s2_.2 = n1.Id)) || (decide ((d1.Nodes.length : Int) < many1)) then (
      some (Step.done (Res.ab (many1, decide (s2_.2 = n1.Id)))))
    else (
      Option.bind (ref_NodeAt d1 s2_.2) fun r1 =>
      need (inR d1.Nodes r1) <|
      bnd ((gx d1.Nodes r1).Parent) fun id1 =>
      some (Step.again (many1, id1))))
  else (
    some (Step.done (Res.nx s2_.1)))

/-- drawref1.above -/
noncomputable def ref_above (d1 : Doc) (n1 : DNode) : Option (Int × Bool) :=
  bindR (σ := Int) (ρ := (Int × Bool)) (
    loop (ref_above_L1 d1 n1) (0, n1.Parent)) fun j_1 =>
  some (j_1, false)

noncomputable def ref_members_L1 (d1 : Doc) (id1 : Str) (i : Int) (s : (List DNode)) : Option (List DNode) :=
  need (inR d1.Nodes i) <|
  bnd (gx d1.Nodes i) fun v1 =>
  bif decide (v1.Parent = id1) then (
    need (room (s.length + [v1].length)) <|
    some (s ++ [v1]))
  else (
    some s)

/-- drawref1.members -/
noncomputable def ref_members (d1 : Doc) (id1 : Str) : Option (List DNode) :=
  Option.bind (α := (List DNode)) (
    rfor (d1.Nodes.length : Int) (ref_members_L1 d1 id1) ([] : List DNode)) fun j_1 =>
  some j_1

noncomputable def ref_treeError_L1 (d1 : Doc) (i : Int) (s : Unit) : Option (Res Unit (Res Unit Int)) :=
  need (inR d1.Nodes i) <|
  bnd (gx d1.Nodes i) fun v1 =>
  Option.bind (ref_NodeAt d1 v1.Parent) fun k1 =>
  need ((!decide (v1.Parent = Str.nil)) = true → (decide (k1 < 0)) = false → inR d1.Nodes k1) <|
  bif (!decide (v1.Parent = Str.nil)) && ((decide (k1 < 0)) || (!decide (((gx d1.Nodes k1).Kind) = 6))) then (
    some (Res.ab (Res.ab 10)))
  else (
    some (Res.nx ()))

noncomputable def ref_treeError_L2 (d1 : Doc) (i : Int) (s : Unit) : Option (Res Unit (Res Unit Int)) :=
  need (inR d1.Nodes i) <|
  bnd (gx d1.Nodes i) fun v2 =>
  Option.bind (ref_above d1 v2) fun r1 =>
  bif r1.2 then (
    some (Res.ab (Res.ab 13)))
  else (
    some (Res.nx ()))

noncomputable def ref_treeError_L3 (d1 : Doc) (i : Int) (s : Unit) : Option (Res Unit (Res Unit Int)) :=
  need (inR d1.Nodes i) <|
  bnd (gx d1.Nodes i) fun v3 =>
  Option.bind (ref_above d1 v3) fun r2 =>
  bif decide (8 < r2.1) then (
    some (Res.ab (Res.ab 4)))
  else (
    some (Res.nx ()))

noncomputable def ref_treeError_L4 (d1 : Doc) (i : Int) (s : Unit) : Option (Res Unit (Res Unit Int)) :=
  need (inR d1.Nodes i) <|
  bnd (gx d1.Nodes i) fun v4 =>
  Option.bind (gd ((decide (v4.Kind = 6))) (ref_members d1 v4.Id)) fun r3 =>
  bif (decide (v4.Kind = 6)) && (decide ((r3.length : Int) = 0)) then (
    some (Res.ab (Res.ab 9)))
  else (
    some (Res.nx ()))

/-- drawref1.treeError -/
noncomputable def ref_treeError (d1 : Doc) : Option Int :=
  bindR (σ := Unit) (ρ := Int) (
    rforE (d1.Nodes.length : Int) (ref_treeError_L1 d1) (fun s => Res.nx s) ()) fun j_1 =>
  bindR (σ := Unit) (ρ := Int) (
    rforE (d1.Nodes.length : Int) (ref_treeError_L2 d1) (fun s => Res.nx s) ()) fun j_10 =>
  bindR (σ := Unit) (ρ := Int) (
    rforE (d1.Nodes.length : Int) (ref_treeError_L3 d1) (fun s => Res.nx s) ()) fun j_18 =>
  bindR (σ := Unit) (ρ := Int) (
    rforE (d1.Nodes.length : Int) (ref_treeError_L4 d1) (fun s => Res.nx s) ()) fun j_26 =>
  some 0

/-- drawref1.edgeError$1 -/
noncomputable def ref_edgeError_1 (y1 : DEdge) (c0_1 : DEdge) : Option Bool :=
  some (decide (y1.Id = c0_1.Id))

noncomputable def slices_IndexFunc_Edge_L1 (f1 : (DEdge → Option Bool)) (s1 : (List DEdge)) (i : Int) (s : Unit) : Option (Res Unit (Res Unit Int)) :=
  need (inR s1 i) <|
  Option.bind (f1 (gx s1 i)) fun r1 =>
  bif r1 then (
    some (Res.ab (Res.ab i)))
  else (
    some (Res.nx ()))

/-- slices.IndexFunc[[]api.Edge,api.Edge] -/
noncomputable def slices_IndexFunc_Edge (s1 : (List DEdge)) (f1 : (DEdge → Option Bool)) : Option Int :=
  bindR (σ := Unit) (ρ := Int) (
    rforE (s1.length : Int) (slices_IndexFunc_Edge_L1 f1 s1) (fun s => Res.nx s) ()) fun j_1 =>
  some (-1)

/-- slices.ContainsFunc[[]api.Edge,api.Edge] -/
noncomputable def slices_ContainsFunc_Edge (s1 : (List DEdge)) (f1 : (DEdge → Option Bool)) : Option Bool :=
  Option.bind (slices_IndexFunc_Edge s1 f1) fun r1 =>
  some (decide (0 ≤ r1))

/-- drawref1.PortError -/
noncomputable def ref_PortError (side1 : Int) (at1 : Int) : Option Int :=
  Option.bind (ref_In side1 1 4) fun r1 =>
  Option.bind (gd (!(!r1)) (ref_In at1 0 1000)) fun r2 =>
  Option.bind (ref_When ((!r1) || (!r2)) 3) fun r3 =>
  some r3

noncomputable def ref_PointsError_L1 (l1 : (List Point)) (i : Int) (s : Unit) : Option (Res Unit (Res Unit Int)) :=
  need (inR l1 i) <|
  bnd (gx l1 i) fun v1 =>
  Option.bind (ref_PointError v1) fun e1 =>
  bif !decide (e1 = 0) then (
    some (Res.ab (Res.ab e1)))
  else (
    some (Res.nx ()))

/-- drawref1.PointsError -/
noncomputable def ref_PointsError (l1 : (List Point)) : Option Int :=
  bif decide (1000 < (l1.length : Int)) then (
    some 4)
  else (
    bindR (σ := Unit) (ρ := Int) (
      rforE (l1.length : Int) (ref_PointsError_L1 l1) (fun s => Res.nx s) ()) fun j_2 =>
    some 0)

noncomputable def ref_edgeError_L1 (d1 : Doc) (v2 : (List DEnd)) (i : Int) (s : Unit) : Option (Res Unit (Res Unit Int)) :=
  need (inR v2 i) <|
  bnd (gx v2 i) fun v3 =>
  Option.bind (ref_NodeAt d1 v3.Node) fun k1 =>
  bif decide (k1 < 0) then (
    some (Res.ab (Res.ab 10)))
  else (
    need (inR d1.Nodes k1) <|
    Option.bind (ref_When (decide (((gx d1.Nodes k1).Kind) = 6)) 1) fun r6 =>
    Option.bind (ref_PortError v3.Side v3.At) fun r7 =>
    Option.bind (ref_First [r6, r7]) fun e2 =>
    bif !decide (e2 = 0) then (
      some (Res.ab (Res.ab e2)))
    else (
      some (Res.nx ())))

/-- drawref1.edgeError -/
noncomputable def ref_edgeError (d1 : Doc) (i1 : Int) : Option Int :=
  need (inR d1.Edges i1) <|
  bnd (gx d1.Edges i1) fun v1 =>
  Option.bind (ref_NodeAt d1 v1.Id) fun r1 =>
  need ((decide (0 ≤ r1)) = false → segR d1.Edges.length 0 i1) <|
  Option.bind (gd (!(decide (0 ≤ r1))) (slices_ContainsFunc_Edge (seg d1.Edges 0 i1) (fun x0 => ref_edgeError_1 x0 v1))) fun r2 =>
  Option.bind (ref_NameOf v1.Id) fun r3 =>
  Option.bind (ref_When (!r3) 5) fun r4 =>
  Option.bind (ref_When ((decide (0 ≤ r1)) || r2) 6) fun r5 =>
  Option.bind (ref_First [r4, r5]) fun e1 =>
  bif !decide (e1 = 0) then (
    some e1)
  else (
    bnd ([v1.From, v1.To]) fun v2 =>
    bindR (σ := Unit) (ρ := Int) (
      rforE (v2.length : Int) (ref_edgeError_L1 d1 v2) (fun s => Res.nx s) ()) fun j_12 =>
    bif decide (50 < (v1.Bends.length : Int)) then (
      some 4)
    else (
      Option.bind (ref_PointsError v1.Bends) fun r8 =>
      Option.bind (ref_TextError v1.Text) fun r9 =>
      Option.bind (ref_classError v1.Class) fun r10 =>
      Option.bind (ref_First [r8, r9, r10]) fun r11 =>
      some r11))

noncomputable def ref_HullOf_L1 (l1 : (List Box)) (i : Int) (s : (Int × Int × Int × Int)) : Option (Int × Int × Int × Int) :=
  need (inR l1 i) <|
  bnd (gx l1 i) fun v3 =>
  bnd (min s.1 v3.X) fun x2 =>
  bnd (min s.2.1 v3.Y) fun y2 =>
  bnd (max s.2.2.1 (W (v3.X + v3.W_))) fun r2 =>
  bnd (max s.2.2.2 (W (v3.Y + v3.H))) fun d2 =>
  some (x2, y2, r2, d2)

/-- drawref1.HullOf -/
noncomputable def ref_HullOf (l1 : (List Box)) : Option (Box × Int) :=
  bnd ((⟨(0 : Int), (0 : Int), (0 : Int), (0 : Int)⟩ : Box)) fun v1 =>
  bif decide ((l1.length : Int) = 0) then (
    bnd ((⟨(0 : Int), (0 : Int), (0 : Int), (0 : Int)⟩ : Box)) fun v2 =>
    some (v2, 9))
  else (
    need (inR l1 0) <|
    need (inR l1 0) <|
    need (inR l1 0) <|
    need (inR l1 0) <|
    bnd ((gx l1 0).X) fun x1 =>
    bnd ((gx l1 0).Y) fun y1 =>
    bnd ((gx l1 0).X) fun r1 =>
    bnd ((gx l1 0).Y) fun d1 =>
    Option.bind (α := (Int × Int × Int × Int)) (
      rfor (l1.length : Int) (ref_HullOf_L1 l1) (x1, y1, r1, d1)) fun j_12 =>
    bif (decide (20000 < (W (j_12.2.2.1 - j_12.1)))) || (decide (20000 < (W (j_12.2.2.2 - j_12.2.1)))) then (
      bnd ((⟨(0 : Int), (0 : Int), (0 : Int), (0 : Int)⟩ : Box)) fun v4 =>
      some (v4, 4))
    else (
      bnd ((⟨j_12.1, j_12.2.1, W (j_12.2.2.1 - j_12.1), W (j_12.2.2.2 - j_12.2.1)⟩ : Box)) fun v5 =>
      some (v5, 0)))

noncomputable def ref_BoxOfNode_L1 (self : (Doc × Str) → Option (Box × Int)) (x : (Doc × Str)) (r2 : (List DNode)) (i : Int) (s : (List Box)) : Option (Res (List Box) (Res (List Box) (Box × Int))) :=
  need (inR r2 i) <|
  bnd (gx r2 i) fun v3 =>
  Option.bind (self (x.1, v3.Id)) fun r3 =>
  bif !decide (r3.2 = 0) then (
    bnd ((⟨(0 : Int), (0 : Int), (0 : Int), (0 : Int)⟩ : Box)) fun v4 =>
    some (Res.ab (Res.ab (v4, r3.2))))
  else (
    need (room (s.length + [r3.1].length)) <|
    some (Res.nx (s ++ [r3.1])))

/-- drawref1.BoxOfNode -/
noncomputable def ref_BoxOfNode_body (self : (Doc × Str) → Option (Box × Int)) (x : (Doc × Str)) : Option (Box × Int) :=
  bnd ((⟨(0 : Int), (0 : Int), (0 : Int), (0 : Int)⟩ : Box)) fun v1 =>
  Option.bind (ref_NodeAt x.1 x.2) fun r1 =>
  need (inR x.1.Nodes r1) <|
  bnd (gx x.1.Nodes r1) fun v2 =>
  bif !decide (v2.Kind = 6) then (
    some (v2.Box, 0))
  else (
    Option.bind (ref_members x.1 x.2) fun r2 =>
    bindR (σ := (List Box)) (ρ := (Box × Int)) (
      rforE (r2.length : Int) (ref_BoxOfNode_L1 self x r2) (fun s => Res.nx s) ([] : List Box)) fun j_7 =>
    Option.bind (ref_HullOf j_7) fun r4 =>
    bif !decide (r4.2 = 0) then (
      bnd ((⟨(0 : Int), (0 : Int), (0 : Int), (0 : Int)⟩ : Box)) fun v5 =>
      some (v5, r4.2))
    else (
      bnd ((⟨W (r4.1.X - 10), W (r4.1.Y - 10), W (r4.1.W_ + 20), W (r4.1.H + 20)⟩ : Box)) fun v6 =>
      Option.bind (ref_BoxError v6) fun r5 =>
      some (v6, r5)))

noncomputable def ref_BoxOfNode (d1 : Doc) (id1 : Str) : Option (Box × Int) := fixp ref_BoxOfNode_body (d1, id1)

noncomputable def ref_DocError_L1 (d1 : Doc) (i : Int) (s : Unit) : Option (Res Unit (Res Unit Int)) :=
  Option.bind (ref_nodeError d1 i) fun e1 =>
  bif !decide (e1 = 0) then (
    some (Res.ab (Res.ab e1)))
  else (
    some (Res.nx ()))

noncomputable def ref_DocError_L2 (d1 : Doc) (i : Int) (s : Unit) : Option (Res Unit (Res Unit Int)) :=
  Option.bind (ref_edgeError d1 i) fun e3 =>
  bif !decide (e3 = 0) then (
    some (Res.ab (Res.ab e3)))
  else (
    some (Res.nx ()))

noncomputable def ref_DocError_L3 (d1 : Doc) (i : Int) (s : Unit) : Option (Res Unit (Res Unit Int)) :=
  need (inR d1.Nodes i) <|
  bnd (gx d1.Nodes i) fun v1 =>
  Option.bind (ref_BoxOfNode d1 v1.Id) fun r1 =>
  bif !decide (r1.2 = 0) then (
    some (Res.ab (Res.ab r1.2)))
  else (
    some (Res.nx ()))

/-- drawref1.DocError -/
noncomputable def ref_DocError (d1 : Doc) : Option Int :=
  bif (decide (500 < (d1.Nodes.length : Int))) || (decide (1000 < (d1.Edges.length : Int))) then (
    some 4)
  else (
    bindR (σ := Unit) (ρ := Int) (
      rforE (d1.Nodes.length : Int) (ref_DocError_L1 d1) (fun s => Res.nx s) ()) fun j_2 =>
    Option.bind (ref_treeError d1) fun e2 =>
    bif !decide (e2 = 0) then (
      some e2)
    else (
      bindR (σ := Unit) (ρ := Int) (
        rforE (d1.Edges.length : Int) (ref_DocError_L2 d1) (fun s => Res.nx s) ()) fun j_10 =>
      bindR (σ := Unit) (ρ := Int) (
        rforE (d1.Nodes.length : Int) (ref_DocError_L3 d1) (fun s => Res.nx s) ()) fun j_16 =>
      some 0))

noncomputable def ref_Copied_L1  (i : Int) (s : (List DEdge)) : Option (List DEdge) :=
  need (inR s i) <|
  Option.bind (slices_Clone_Point ((gx s i).Bends)) fun r3 =>
  need (inR s i) <|
  some (s.set i.toNat { gx s i with Bends := r3 })

/-- drawref1.Copied -/
noncomputable def ref_Copied (d1 : Doc) : Option Doc :=
  bnd ((⟨([] : (List DNode)), ([] : (List DEdge))⟩ : Doc)) fun v1 =>
  Option.bind (slices_Clone_Node d1.Nodes) fun r1 =>
  Option.bind (slices_Clone_Edge d1.Edges) fun r2 =>
  Option.bind (α := (List DEdge)) (
    rfor (r2.length : Int) ref_Copied_L1 r2) fun j_4 =>
  some (⟨r1, j_4⟩ : Doc)

noncomputable def ref_UngroupOf_L1 (d1 : Doc) (k1 : Int) (id1 : Str) (i : Int) (s : (List DNode)) : Option (List DNode) :=
  need (inR s i) <|
  bif decide (((gx s i).Parent) = id1) then (
    need (inR d1.Nodes k1) <|
    bnd ((gx d1.Nodes k1).Parent) fun v3 =>
    need (inR s i) <|
    some (s.set i.toNat { gx s i with Parent := v3 }))
  else (
    some s)

/-- drawref1.UngroupOf -/
noncomputable def ref_UngroupOf (d1 : Doc) (id1 : Str) : Option (Doc × Int) :=
  bnd ((⟨([] : (List DNode)), ([] : (List DEdge))⟩ : Doc)) fun v1 =>
  Option.bind (ref_NodeAt d1 id1) fun k1 =>
  need (inR d1.Nodes k1) <|
  bif !decide (((gx d1.Nodes k1).Kind) = 6) then (
    bnd ((⟨([] : (List DNode)), ([] : (List DEdge))⟩ : Doc)) fun v2 =>
    some (v2, 1))
  else (
    Option.bind (ref_Copied d1) fun r1 =>
    Option.bind (α := (List DNode)) (
      rfor (r1.Nodes.length : Int) (ref_UngroupOf_L1 d1 k1 id1) r1.Nodes) fun j_7 =>
    Option.bind (slices_Delete_Node j_7 k1 (W (k1 + 1))) fun r2 =>
    some ({ r1 with Nodes := r2, Edges := r1.Edges }, 0))

/-- drawlaw1.pages -/
noncomputable def law_pages  : Option Bool :=
  Option.bind (page_Check (⟨([] : (List DNode)), ([] : (List DEdge))⟩ : Doc)) fun r1 =>
  Option.bind (gd ((decide (r1 = 0))) (page_Check (⟨[(⟨Str.nil, (0 : Int), (⟨(0 : Int), (0 : Int), (0 : Int), (0 : Int)⟩ : Box), Str.nil, Str.nil, Str.nil, false⟩ : DNode)], ([] : (List DEdge))⟩ : Doc))) fun r2 =>
  some ((decide (r1 = 0)) && (decide (r2 = 5)))

noncomputable def slices_Equal_Node_L1 (s1_1 : (List DNode)) (s2_1 : (List DNode)) (i : Int) (s : Unit) : Option (Res Unit (Res Unit Bool)) :=
  need (inR s1_1 i) <|
  need (inR s2_1 i) <|
  bif !decide ((gx s1_1 i) = (gx s2_1 i)) then (
    some (Res.ab (Res.ab false)))
  else (
    some (Res.nx ()))

/-- slices.Equal[[]api.Node,api.Node] -/
noncomputable def slices_Equal_Node (s1_1 : (List DNode)) (s2_1 : (List DNode)) : Option Bool :=
  bif !decide ((s1_1.length : Int) = (s2_1.length : Int)) then (
    some false)
  else (
    bindR (σ := Unit) (ρ := Bool) (
      rforE (s1_1.length : Int) (slices_Equal_Node_L1 s1_1 s2_1) (fun s => Res.nx s) ()) fun j_2 =>
    some true)

noncomputable def slices_EqualFunc_Edge_L1 (eq1 : (DEdge → DEdge → Option Bool)) (s1_1 : (List DEdge)) (s2_1 : (List DEdge)) (i : Int) (s : Unit) : Option (Res Unit (Res Unit Bool)) :=
  need (inR s1_1 i) <|
  bnd (gx s1_1 i) fun v1 =>
  need (inR s2_1 i) <|
  bnd (gx s2_1 i) fun v2 =>
  Option.bind (eq1 v1 v2) fun r1 =>
  bif !r1 then (
    some (Res.ab (Res.ab false)))
  else (
    some (Res.nx ()))

/-- slices.EqualFunc[[]api.Edge,[]api.Edge,api.Edge,api.Edge] -/
noncomputable def slices_EqualFunc_Edge (s1_1 : (List DEdge)) (s2_1 : (List DEdge)) (eq1 : (DEdge → DEdge → Option Bool)) : Option Bool :=
  bif !decide ((s1_1.length : Int) = (s2_1.length : Int)) then (
    some false)
  else (
    bindR (σ := Unit) (ρ := Bool) (
      rforE (s1_1.length : Int) (slices_EqualFunc_Edge_L1 eq1 s1_1 s2_1) (fun s => Res.nx s) ()) fun j_2 =>
    some true)

noncomputable def slices_Equal_Point_L1 (s1_1 : (List Point)) (s2_1 : (List Point)) (i : Int) (s : Unit) : Option (Res Unit (Res Unit Bool)) :=
  need (inR s1_1 i) <|
  need (inR s2_1 i) <|
  bif !decide ((gx s1_1 i) = (gx s2_1 i)) then (
    some (Res.ab (Res.ab false)))
  else (
    some (Res.nx ()))

/-- slices.Equal[[]api.Point,api.Point] -/
noncomputable def slices_Equal_Point (s1_1 : (List Point)) (s2_1 : (List Point)) : Option Bool :=
  bif !decide ((s1_1.length : Int) = (s2_1.length : Int)) then (
    some false)
  else (
    bindR (σ := Unit) (ρ := Bool) (
      rforE (s1_1.length : Int) (slices_Equal_Point_L1 s1_1 s2_1) (fun s => Res.nx s) ()) fun j_2 =>
    some true)

/-- drawref1.SameDoc$1 -/
noncomputable def ref_SameDoc_1 (x1 : DEdge) (y1 : DEdge) : Option Bool :=
  Option.bind (gd ((((decide (x1.Id = y1.Id)) && (decide (x1.From = y1.From))) && (decide (x1.To = y1.To)))) (slices_Equal_Point x1.Bends y1.Bends)) fun r1 =>
  some ((((((decide (x1.Id = y1.Id)) && (decide (x1.From = y1.From))) && (decide (x1.To = y1.To))) && r1) && (decide (x1.Text = y1.Text))) && (decide (x1.Class = y1.Class)))

/-- drawref1.SameDoc -/
noncomputable def ref_SameDoc (a1 : Doc) (b1 : Doc) : Option Bool :=
  Option.bind (slices_Equal_Node a1.Nodes b1.Nodes) fun r1 =>
  Option.bind (gd (r1) (slices_EqualFunc_Edge a1.Edges b1.Edges ref_SameDoc_1)) fun r2 =>
  some (r1 && r2)

/-- drawlaw1.docIs -/
noncomputable def law_docIs (d1 : Doc) (e1 : Int) (want1 : Int) (right1 : Doc) : Option Bool :=
  bif !decide (want1 = 0) then (
    some (((decide ((d1.Nodes.length : Int) = 0)) && (decide ((d1.Edges.length : Int) = 0))) && (decide (e1 = want1))))
  else (
    Option.bind (gd ((decide (e1 = 0))) (ref_SameDoc d1 right1)) fun r1 =>
    some ((decide (e1 = 0)) && r1))

/-- drawlaw1.UngroupsMatch -/
noncomputable def law_UngroupsMatch (d1 : Doc) (id1 : Str) : Option Bool :=
  Option.bind (page_Ungroup d1 id1) fun r1 =>
  Option.bind (ref_DocError d1) fun want1 =>
  bnd ((⟨([] : (List DNode)), ([] : (List DEdge))⟩ : Doc)) fun right1 =>
  Option.bind (α := Int) (
    bif decide (want1 = 0) then (
      Option.bind (ref_NodeAt d1 id1) fun r2 =>
      Option.bind (ref_When (decide (r2 < 0)) 10) fun want2 =>
      some want2)
    else (
      some want1)) fun j_4 =>
  Option.bind (α := (Int × Doc)) (
    bif decide (j_4 = 0) then (
      Option.bind (ref_UngroupOf d1 id1) fun r3 =>
      some (r3.2, r3.1))
    else (
      some (j_4, right1))) fun j_8 =>
  Option.bind (law_pages) fun r4 =>
  Option.bind (gd (r4) (law_docIs r1.1 r1.2 j_8.1 j_8.2)) fun r5 =>
  some (r4 && r5)


end Go.DB
