/-
  What the functions compute, as plain functions (printed by a program of one's own).
-/
import Derived.Test.YtclcheggnlhamaaDoorGuiTy
set_option maxRecDepth 100000
set_option linter.unusedSimpArgs false
set_option linter.unusedVariables false
namespace Go.DB
open Go Go.RowKit

/-- strings.Trim -/
noncomputable def strings_Trim (s cs : Str) : Option Str := need ((cs.b.length : Int) < 4294967281 ∧ cs.b.all (fun b => decide (b.toNat < 128)) = true) (some (trimS s cs))

/-- unicode/utf8.ValidString -/
noncomputable def utf8_ValidString (s : Str) : Option Bool := some (validS s)

/-- page.isName -/
noncomputable def page_isName (s1 : Str) : Option Bool :=
  need (((!decide (s1 = Str.nil)) && (decide ((s1.b.length : Int) ≤ 40))) = true → inR s1.b 0) <|
  need (((!decide (s1 = Str.nil)) && (decide ((s1.b.length : Int) ≤ 40))) = true → (decide ((⟨97⟩ : KI .u8).n ≤ (⟨((gx s1.b 0).toNat : Int)⟩ : KI .u8).n)) = true → inR s1.b 0) <|
  Option.bind (gd ((((!decide (s1 = Str.nil)) && (decide ((s1.b.length : Int) ≤ 40))) && ((decide ((⟨97⟩ : KI .u8).n ≤ (⟨((gx s1.b 0).toNat : Int)⟩ : KI .u8).n)) && (decide ((⟨((gx s1.b 0).toNat : Int)⟩ : KI .u8).n ≤ (⟨122⟩ : KI .u8).n))))) (strings_Trim s1 (⟨[97, 98, 99, 100, 101, 102, 103, 104, 105, 106, 107, 108, 109, 110, 111, 112, 113, 114, 115, 116, 117, 118, 119, 120, 121, 122, 48, 49, 50, 51, 52, 53, 54, 55, 56, 57, 45]⟩ : Str))) fun r1 =>
  some ((((!decide (s1 = Str.nil)) && (decide ((s1.b.length : Int) ≤ 40))) && ((decide ((⟨97⟩ : KI .u8).n ≤ (⟨((gx s1.b 0).toNat : Int)⟩ : KI .u8).n)) && (decide ((⟨((gx s1.b 0).toNat : Int)⟩ : KI .u8).n ≤ (⟨122⟩ : KI .u8).n)))) && (decide (r1 = Str.nil)))

/-- geom.out -/
noncomputable def geom_out (n1 : Int) : Option Bool :=
  some ((decide (n1 < (-1000000))) || (decide (1000000 < n1)))

/-- geom.CheckBox -/
noncomputable def geom_CheckBox (b1 : Box) : Option Int :=
  Option.bind (geom_out b1.X) fun r1 =>
  Option.bind (gd (!r1) (geom_out b1.Y)) fun r2 =>
  bif ((((r1 || r2) || (decide (b1.W_ < 1))) || (decide (20000 < b1.W_))) || (decide (b1.H < 1))) || (decide (20000 < b1.H)) then (
    some 3)
  else (
    some 0)

noncomputable def shape_CheckText_L1 (s1 : Str) (i : Int) (s : Unit) : Option (Res Unit (Res Unit Int)) :=
  need (inR s1.b i) <|
  need ((decide ((⟨((gx s1.b i).toNat : Int)⟩ : KI .u8).n < (⟨32⟩ : KI .u8).n)) = true → inR s1.b i) <|
  need (((decide ((⟨((gx s1.b i).toNat : Int)⟩ : KI .u8).n < (⟨32⟩ : KI .u8).n)) && (!decide ((⟨((gx s1.b i).toNat : Int)⟩ : KI .u8).n = (⟨10⟩ : KI .u8).n))) = false → inR s1.b i) <|
  bif ((decide ((⟨((gx s1.b i).toNat : Int)⟩ : KI .u8).n < (⟨32⟩ : KI .u8).n)) && (!decide ((⟨((gx s1.b i).toNat : Int)⟩ : KI .u8).n = (⟨10⟩ : KI .u8).n))) || (decide ((⟨((gx s1.b i).toNat : Int)⟩ : KI .u8).n = (⟨127⟩ : KI .u8).n)) then (
    some (Res.ab (Res.ab 2)))
  else (
    some (Res.nx ()))

/-- shape.CheckText -/
noncomputable def shape_CheckText (s1 : Str) : Option Int :=
  bif decide (1000 < (s1.b.length : Int)) then (
    some 4)
  else (
    Option.bind (utf8_ValidString s1) fun r1 =>
    bif !r1 then (
      some 2)
    else (
      bindR (σ := Unit) (ρ := Int) (
        rforE (s1.b.length : Int) (shape_CheckText_L1 s1) (fun s => Res.nx s) ()) fun j_4 =>
      some 0))

/-- page.checkNode -/
noncomputable def page_checkNode (n1 : DNode) (twice1 : Bool) : Option Int :=
  Option.bind (page_isName n1.Id) fun r1 =>
  bif !r1 then (
    some 5)
  else (
    bif twice1 then (
      some 6)
    else (
      bif (decide (n1.Kind < 1)) || (decide (6 < n1.Kind)) then (
        some 1)
      else (
        bif (decide (n1.Kind = 6)) && (!decide (n1.Box = (⟨(0 : Int), (0 : Int), (0 : Int), (0 : Int)⟩ : Box))) then (
          some 2)
        else (
          bindR (σ := Unit) (ρ := Int) (
            bif !decide (n1.Kind = 6) then (
              Option.bind (geom_CheckBox n1.Box) fun e1 =>
              bif !decide (e1 = 0) then (
                some (Res.ab e1))
              else (
                some (Res.nx ())))
            else (
              some (Res.nx ()))) fun j_6 =>
          Option.bind (shape_CheckText n1.Text) fun e2 =>
          bif !decide (e2 = 0) then (
            some e2)
          else (
            Option.bind (gd ((!decide (n1.Class = Str.nil))) (page_isName n1.Class)) fun r2 =>
            bif (!decide (n1.Class = Str.nil)) && (!r2) then (
              some 5)
            else (
              some 0))))))

noncomputable def page_viewOf_L1 (d1 : Doc) (i : Int) (s : ((GMap Str Int) × (GMap Str (List Int)))) : Option ((GMap Str Int) × (GMap Str (List Int))) :=
  need (inR d1.Nodes i) <|
  bnd (gx d1.Nodes i) fun v1 =>
  bnd (s.1.set v1.Id i) fun c3 =>
  bif !decide (v1.Parent = Str.nil) then (
    need (room ((s.2.getD v1.Parent ([] : (List Int))).length + [i].length)) <|
    some (c3, s.2.set v1.Parent ((s.2.getD v1.Parent ([] : (List Int))) ++ [i])))
  else (
    some (c3, s.2))

/-- page.viewOf -/
noncomputable def page_viewOf (d1 : Doc) : Option (Option Page_view) :=
  bnd ((GMap.nil : (GMap Str Int))) fun c1 =>
  bnd ((GMap.nil : (GMap Str (List Int)))) fun c2 =>
  Option.bind (α := ((GMap Str Int) × (GMap Str (List Int)))) (
    rfor (d1.Nodes.length : Int) (page_viewOf_L1 d1) (c1, c2)) fun j_3 =>
  some (some (⟨d1, j_3.1, j_3.2⟩ : Page_view))

/-- (*page.view).node -/
noncomputable def page_view_node (v1 : Page_view) (id1 : Str) : Option DNode :=
  bnd ((⟨Str.nil, (0 : Int), (⟨(0 : Int), (0 : Int), (0 : Int), (0 : Int)⟩ : Box), Str.nil, Str.nil, Str.nil, false⟩ : DNode)) fun v2 =>
  need (inR v1.d.Nodes (v1.number.getD id1 (0 : Int))) <|
  bnd (gx v1.d.Nodes (v1.number.getD id1 (0 : Int))) fun v3 =>
  some v3

noncomputable def page_view_above_L1 (n1 : DNode) (v1 : Page_view) (s2_ : (Int × DNode)) : Option (Step (Int × DNode) (Res Int (Int × Bool))) :=
  bif !decide (s2_.2.Parent = Str.nil) then (
    bnd (W (s2_.1 + 1)) fun many1 =>
    bif (decide (s2_.2.Parent = n1.Id)) || (decide ((v1.d.Nodes.length : Int) < many1)) then (
      some (Step.done (Res.ab (many1, !decide (s2_.2.Parent = n1.Id)))))
    else (
      Option.bind (page_view_node v1 s2_.2.Parent) fun r1 =>
      some (Step.again (many1, r1))))
  else (
    some (Step.done (Res.nx s2_.1)))

/-- (*page.view).above -/
noncomputable def page_view_above (v1 : Page_view) (n1 : DNode) : Option (Int × Bool) :=
  bindR (σ := Int) (ρ := (Int × Bool)) (
    loop (page_view_above_L1 n1 v1) (0, n1)) fun j_1 =>
  some (j_1, true)

noncomputable def page_view_checkGroups_L1 (v1 : Page_view) (i : Int) (s : Unit) : Option (Res Unit (Res Unit Int)) :=
  need (inR v1.d.Nodes i) <|
  bnd (gx v1.d.Nodes i) fun v2 =>
  need ((!decide (v2.Parent = Str.nil)) = true → (!(v1.number.has v2.Parent)) = false → inR v1.d.Nodes (v1.number.getD v2.Parent (0 : Int))) <|
  bif (!decide (v2.Parent = Str.nil)) && ((!(v1.number.has v2.Parent)) || (!decide (((gx v1.d.Nodes (v1.number.getD v2.Parent (0 : Int))).Kind) = 6))) then (
    some (Res.ab (Res.ab 10)))
  else (
    some (Res.nx ()))

noncomputable def page_view_checkGroups_L2 (v1 : Page_view) (i : Int) (s : Unit) : Option (Res Unit (Res Unit Int)) :=
  need (inR v1.d.Nodes i) <|
  bnd (gx v1.d.Nodes i) fun v3 =>
  Option.bind (page_view_above v1 v3) fun r1 =>
  bif !r1.2 then (
    some (Res.ab (Res.ab 13)))
  else (
    some (Res.nx ()))

noncomputable def page_view_checkGroups_L3 (v1 : Page_view) (i : Int) (s : Unit) : Option (Res Unit (Res Unit Int)) :=
  need (inR v1.d.Nodes i) <|
  bnd (gx v1.d.Nodes i) fun v4 =>
  Option.bind (page_view_above v1 v4) fun r2 =>
  bif decide (8 < r2.1) then (
    some (Res.ab (Res.ab 4)))
  else (
    some (Res.nx ()))

noncomputable def page_view_checkGroups_L4 (v1 : Page_view) (i : Int) (s : Unit) : Option (Res Unit (Res Unit Int)) :=
  need (inR v1.d.Nodes i) <|
  bnd (gx v1.d.Nodes i) fun v5 =>
  bif (decide (v5.Kind = 6)) && (decide (((v1.members.getD v5.Id ([] : (List Int))).length : Int) = 0)) then (
    some (Res.ab (Res.ab 9)))
  else (
    some (Res.nx ()))

/-- (*page.view).checkGroups -/
noncomputable def page_view_checkGroups (v1 : Page_view) : Option Int :=
  bindR (σ := Unit) (ρ := Int) (
    rforE (v1.d.Nodes.length : Int) (page_view_checkGroups_L1 v1) (fun s => Res.nx s) ()) fun j_1 =>
  bindR (σ := Unit) (ρ := Int) (
    rforE (v1.d.Nodes.length : Int) (page_view_checkGroups_L2 v1) (fun s => Res.nx s) ()) fun j_9 =>
  bindR (σ := Unit) (ρ := Int) (
    rforE (v1.d.Nodes.length : Int) (page_view_checkGroups_L3 v1) (fun s => Res.nx s) ()) fun j_17 =>
  bindR (σ := Unit) (ρ := Int) (
    rforE (v1.d.Nodes.length : Int) (page_view_checkGroups_L4 v1) (fun s => Res.nx s) ()) fun j_25 =>
  some 0

/-- (*page.view).checkEnd -/
noncomputable def page_view_checkEnd (v1 : Page_view) (x1 : DEnd) : Option Int :=
  bif !(v1.number.has x1.Node) then (
    some 10)
  else (
    need (inR v1.d.Nodes (v1.number.getD x1.Node (0 : Int))) <|
    bif decide (((gx v1.d.Nodes (v1.number.getD x1.Node (0 : Int))).Kind) = 6) then (
      some 1)
    else (
      bif (((decide (x1.Side < 1)) || (decide (4 < x1.Side))) || (decide (x1.At < 0))) || (decide (1000 < x1.At)) then (
        some 3)
      else (
        some 0)))

/-- geom.CheckPoint -/
noncomputable def geom_CheckPoint (p1 : Point) : Option Int :=
  Option.bind (geom_out p1.X) fun r1 =>
  Option.bind (gd (!r1) (geom_out p1.Y)) fun r2 =>
  bif r1 || r2 then (
    some 3)
  else (
    some 0)

noncomputable def geom_points_L1 (l1 : (List Point)) (i : Int) (s : Unit) : Option (Res Unit (Res Unit Int)) :=
  need (inR l1 i) <|
  bnd (gx l1 i) fun v1 =>
  Option.bind (geom_CheckPoint v1) fun e1 =>
  bif !decide (e1 = 0) then (
    some (Res.ab (Res.ab e1)))
  else (
    some (Res.nx ()))

/-- geom.points -/
noncomputable def geom_points (l1 : (List Point)) : Option Int :=
  bindR (σ := Unit) (ρ := Int) (
    rforE (l1.length : Int) (geom_points_L1 l1) (fun s => Res.nx s) ()) fun j_1 =>
  some 0

/-- geom.CheckPoints -/
noncomputable def geom_CheckPoints (l1 : (List Point)) : Option Int :=
  bif decide (1000 < (l1.length : Int)) then (
    some 4)
  else (
    Option.bind (geom_points l1) fun r1 =>
    some r1)

noncomputable def page_view_checkEdge_L1 (v1 : Page_view) (v2 : (List DEnd)) (i : Int) (s : Unit) : Option (Res Unit (Res Unit Int)) :=
  need (inR v2 i) <|
  bnd (gx v2 i) fun v3 =>
  Option.bind (page_view_checkEnd v1 v3) fun e1 =>
  bif !decide (e1 = 0) then (
    some (Res.ab (Res.ab e1)))
  else (
    some (Res.nx ()))

/-- (*page.view).checkEdge -/
noncomputable def page_view_checkEdge (v1 : Page_view) (x1 : DEdge) (twice1 : Bool) : Option Int :=
  Option.bind (page_isName x1.Id) fun r1 =>
  bif !r1 then (
    some 5)
  else (
    bif twice1 then (
      some 6)
    else (
      bnd ([x1.From, x1.To]) fun v2 =>
      bindR (σ := Unit) (ρ := Int) (
        rforE (v2.length : Int) (page_view_checkEdge_L1 v1 v2) (fun s => Res.nx s) ()) fun j_5 =>
      bif decide (50 < (x1.Bends.length : Int)) then (
        some 4)
      else (
        Option.bind (geom_CheckPoints x1.Bends) fun e2 =>
        bif !decide (e2 = 0) then (
          some e2)
        else (
          Option.bind (shape_CheckText x1.Text) fun e3 =>
          bif !decide (e3 = 0) then (
            some e3)
          else (
            Option.bind (gd ((!decide (x1.Class = Str.nil))) (page_isName x1.Class)) fun r2 =>
            bif (!decide (x1.Class = Str.nil)) && (!r2) then (
              some 5)
            else (
              some 0))))))

noncomputable def geom_boxes_L1 (l1 : (List Box)) (i : Int) (s : Unit) : Option (Res Unit (Res Unit Int)) :=
  need (inR l1 i) <|
  bnd (gx l1 i) fun v1 =>
  Option.bind (geom_CheckBox v1) fun e1 =>
  bif !decide (e1 = 0) then (
    some (Res.ab (Res.ab e1)))
  else (
    some (Res.nx ()))

/-- geom.boxes -/
noncomputable def geom_boxes (l1 : (List Box)) : Option Int :=
  bindR (σ := Unit) (ρ := Int) (
    rforE (l1.length : Int) (geom_boxes_L1 l1) (fun s => Res.nx s) ()) fun j_1 =>
  some 0

noncomputable def geom_Hull_L1 (l1 : (List Box)) (i : Int) (s : Box) : Option Box :=
  need (inR l1 i) <|
  bnd (gx l1 i) fun v6 =>
  bnd (min s.X v6.X) fun x1 =>
  bnd (min s.Y v6.Y) fun y1 =>
  bnd ((⟨x1, y1, W ((max (W (s.X + s.W_)) (W (v6.X + v6.W_))) - x1), W ((max (W (s.Y + s.H)) (W (v6.Y + v6.H))) - y1)⟩ : Box)) fun v7 =>
  some v7

/-- geom.Hull -/
noncomputable def geom_Hull (l1 : (List Box)) : Option (Box × Int) :=
  bnd ((⟨(0 : Int), (0 : Int), (0 : Int), (0 : Int)⟩ : Box)) fun v1 =>
  bif decide (1000 < (l1.length : Int)) then (
    bnd ((⟨(0 : Int), (0 : Int), (0 : Int), (0 : Int)⟩ : Box)) fun v2 =>
    some (v2, 4))
  else (
    Option.bind (geom_boxes l1) fun e1 =>
    bif !decide (e1 = 0) then (
      bnd ((⟨(0 : Int), (0 : Int), (0 : Int), (0 : Int)⟩ : Box)) fun v3 =>
      some (v3, e1))
    else (
      bif decide ((l1.length : Int) = 0) then (
        bnd ((⟨(0 : Int), (0 : Int), (0 : Int), (0 : Int)⟩ : Box)) fun v4 =>
        some (v4, 9))
      else (
        need (inR l1 0) <|
        bnd (gx l1 0) fun v5 =>
        Option.bind (α := Box) (
          rfor (l1.length : Int) (geom_Hull_L1 l1) v5) fun j_11 =>
        bif (decide (20000 < j_11.W_)) || (decide (20000 < j_11.H)) then (
          bnd ((⟨(0 : Int), (0 : Int), (0 : Int), (0 : Int)⟩ : Box)) fun v8 =>
          some (v8, 4))
        else (
          some (j_11, 0)))))

/-- geom.Grow -/
noncomputable def geom_Grow (b1 : Box) (n1 : Int) : Option (Box × Int) :=
  bnd ((⟨(0 : Int), (0 : Int), (0 : Int), (0 : Int)⟩ : Box)) fun v1 =>
  Option.bind (geom_CheckBox b1) fun e1 =>
  bif !decide (e1 = 0) then (
    bnd ((⟨(0 : Int), (0 : Int), (0 : Int), (0 : Int)⟩ : Box)) fun v2 =>
    some (v2, e1))
  else (
    bif (decide (n1 < (-20000))) || (decide (20000 < n1)) then (
      bnd ((⟨(0 : Int), (0 : Int), (0 : Int), (0 : Int)⟩ : Box)) fun v3 =>
      some (v3, 3))
    else (
      bnd ((⟨W (b1.X - n1), W (b1.Y - n1), W (b1.W_ + (W (2 * n1))), W (b1.H + (W (2 * n1)))⟩ : Box)) fun v4 =>
      bif (decide (v4.W_ < 1)) || (decide (v4.H < 1)) then (
        bnd ((⟨(0 : Int), (0 : Int), (0 : Int), (0 : Int)⟩ : Box)) fun v5 =>
        some (v5, 9))
      else (
        Option.bind (geom_CheckBox v4) fun e2 =>
        bif !decide (e2 = 0) then (
          bnd ((⟨(0 : Int), (0 : Int), (0 : Int), (0 : Int)⟩ : Box)) fun v6 =>
          some (v6, e2))
        else (
          some (v4, 0)))))

noncomputable def page_view_boxOf_L1 (self : (Page_view × Int) → Option (Box × Int)) (x : (Page_view × Int)) (v4 : (List Int)) (i : Int) (s : (List Box)) : Option (Res (List Box) (Res (List Box) (Box × Int))) :=
  need (inR v4 i) <|
  Option.bind (self (x.1, (gx v4 i))) fun r1 =>
  bif !decide (r1.2 = 0) then (
    bnd ((⟨(0 : Int), (0 : Int), (0 : Int), (0 : Int)⟩ : Box)) fun v5 =>
    some (Res.ab (Res.ab (v5, r1.2))))
  else (
    need (room (s.length + [r1.1].length)) <|
    some (Res.nx (s ++ [r1.1])))

/-- (*page.view).boxOf -/
noncomputable def page_view_boxOf_body (self : (Page_view × Int) → Option (Box × Int)) (x : (Page_view × Int)) : Option (Box × Int) :=
  bnd ((⟨(0 : Int), (0 : Int), (0 : Int), (0 : Int)⟩ : Box)) fun v2 =>
  need (inR x.1.d.Nodes x.2) <|
  bnd (gx x.1.d.Nodes x.2) fun v3 =>
  bif !decide (v3.Kind = 6) then (
    some (v3.Box, 0))
  else (
    bnd (x.1.members.getD v3.Id ([] : (List Int))) fun v4 =>
    bindR (σ := (List Box)) (ρ := (Box × Int)) (
      rforE (v4.length : Int) (page_view_boxOf_L1 self x v4) (fun s => Res.nx s) ([] : List Box)) fun j_6 =>
    Option.bind (geom_Hull j_6) fun r2 =>
    bif !decide (r2.2 = 0) then (
      bnd ((⟨(0 : Int), (0 : Int), (0 : Int), (0 : Int)⟩ : Box)) fun v6 =>
      some (v6, r2.2))
    else (
      Option.bind (geom_Grow r2.1 10) fun r3 =>
      some (r3.1, r3.2)))

noncomputable def page_view_boxOf (v1 : Page_view) (i1 : Int) : Option (Box × Int) := fixp page_view_boxOf_body (v1, i1)

noncomputable def page_Check_L1 (d1 : Doc) (i : Int) (s : (GMap Str Bool)) : Option (Res (GMap Str Bool) (Res (GMap Str Bool) Int)) :=
  need (inR d1.Nodes i) <|
  bnd (gx d1.Nodes i) fun v1 =>
  Option.bind (page_checkNode v1 (s.getD v1.Id false)) fun e1 =>
  bif !decide (e1 = 0) then (
    some (Res.ab (Res.ab e1)))
  else (
    some (Res.nx (s.set v1.Id true)))

noncomputable def page_Check_L2 (d1 : Doc) (p1 : Page_view) (i : Int) (s : (GMap Str Bool)) : Option (Res (GMap Str Bool) (Res (GMap Str Bool) Int)) :=
  need (inR d1.Edges i) <|
  bnd (gx d1.Edges i) fun v3 =>
  Option.bind (page_view_checkEdge p1 v3 (s.getD v3.Id false)) fun e3 =>
  bif !decide (e3 = 0) then (
    some (Res.ab (Res.ab e3)))
  else (
    some (Res.nx (s.set v3.Id true)))

noncomputable def page_Check_L3 (p1 : Page_view) (i : Int) (s : Unit) : Option (Res Unit (Res Unit Int)) :=
  Option.bind (page_view_boxOf p1 i) fun r1 =>
  bif !decide (r1.2 = 0) then (
    some (Res.ab (Res.ab r1.2)))
  else (
    some (Res.nx ()))

/-- page.Check -/
noncomputable def page_Check (d1 : Doc) : Option Int :=
  bif (decide (500 < (d1.Nodes.length : Int))) || (decide (1000 < (d1.Edges.length : Int))) then (
    some 4)
  else (
    bnd ((GMap.nil : (GMap Str Bool))) fun known1 =>
    bindR (σ := (GMap Str Bool)) (ρ := Int) (
      rforE (d1.Nodes.length : Int) (page_Check_L1 d1) (fun s => Res.nx s) known1) fun j_3 =>
    Option.bind (page_viewOf d1) fun v2 =>
    Option.bind v2 fun p1 =>
    Option.bind (page_view_checkGroups p1) fun e2 =>
    bif !decide (e2 = 0) then (
      some e2)
    else (
      bindR (σ := (GMap Str Bool)) (ρ := Int) (
        rforE (d1.Edges.length : Int) (page_Check_L2 d1 p1) (fun s => Res.nx s) j_3) fun j_15 =>
      bindR (σ := Unit) (ρ := Int) (
        rforE (d1.Nodes.length : Int) (page_Check_L3 p1) (fun s => Res.nx s) ()) fun j_23 =>
      some 0))

/-- page.look -/
noncomputable def page_look (d1 : Doc) : Option ((Option Page_view) × Int) :=
  Option.bind (page_Check d1) fun e1 =>
  bif !decide (e1 = 0) then (
    some ((none : (Option Page_view)), e1))
  else (
    Option.bind (page_viewOf d1) fun r1 =>
    Option.bind r1 fun p1 =>
    some ((some p1), 0))

noncomputable def page_selected_L1 (v2 : Page_view) (ids1 : (List Str)) (i : Int) (s : (List Bool)) : Option (Res (List Bool) (Res (List Bool) ((Option Page_view) × (List Int) × Int))) :=
  need (inR ids1 i) <|
  bnd (v2.number.getD (gx ids1 i) (0 : Int)) fun k1 =>
  bif !(v2.number.has (gx ids1 i)) then (
    some (Res.ab (Res.ab ((none : (Option Page_view)), ([] : (List Int)), 10))))
  else (
    need (inR s k1) <|
    bif gx s k1 then (
      some (Res.ab (Res.ab ((none : (Option Page_view)), ([] : (List Int)), 6))))
    else (
      need (inR s k1) <|
      some (Res.nx (s.set k1.toNat true))))

noncomputable def page_selected_L3 (d1 : Doc) (v2 : Page_view) (j_7 : (List Bool)) (s24_ : (Bool × DNode)) : Option (Step (Bool × DNode) Bool) :=
  bif !decide (s24_.2.Parent = Str.nil) then (
    bnd (v2.number.getD s24_.2.Parent (0 : Int)) fun k2 =>
    need (s24_.1 = false → inR j_7 k2) <|
    bnd (s24_.1 || (gx j_7 k2)) fun under1 =>
    need (inR d1.Nodes k2) <|
    bnd (gx d1.Nodes k2) fun v4 =>
    some (Step.again (under1, v4)))
  else (
    some (Step.done s24_.1))

noncomputable def page_selected_L2 (d1 : Doc) (v2 : Page_view) (j_7 : (List Bool)) (i : Int) (s : (List Int)) : Option (List Int) :=
  need (inR d1.Nodes i) <|
  bnd (gx d1.Nodes i) fun v3 =>
  Option.bind (α := Bool) (
    loop (page_selected_L3 d1 v2 j_7) (false, v3)) fun j_23 =>
  need (inR j_7 i) <|
  bif (gx j_7 i) && (!j_23) then (
    need (room (s.length + [i].length)) <|
    some (s ++ [i]))
  else (
    some s)

/-- page.selected -/
noncomputable def page_selected (d1 : Doc) (ids1 : (List Str)) : Option ((Option Page_view) × (List Int) × Int) :=
  Option.bind (page_look d1) fun r1 =>
  bif !decide (r1.2 = 0) then (
    some ((none : (Option Page_view)), ([] : (List Int)), r1.2))
  else (
    bnd ((d1.Nodes.length : Int)) fun v1 =>
    need (0 ≤ v1 ∧ v1 ≤ v1 ∧ v1 ≤ 1073741824) <|
    bnd (List.replicate v1.toNat false) fun chosen1 =>
    Option.bind r1.1 fun v2 =>
    bindR (σ := (List Bool)) (ρ := ((Option Page_view) × (List Int) × Int)) (
      rforE (ids1.length : Int) (page_selected_L1 v2 ids1) (fun s => Res.nx s) chosen1) fun j_7 =>
    Option.bind (α := (List Int)) (
      rfor (d1.Nodes.length : Int) (page_selected_L2 d1 v2 j_7) ([] : List Int)) fun j_17 =>
    some ((some v2), j_17, 0))

/-- (*page.view).box -/
noncomputable def page_view_box (v1 : Page_view) (i1 : Int) : Option Box :=
  bnd ((⟨(0 : Int), (0 : Int), (0 : Int), (0 : Int)⟩ : Box)) fun v2 =>
  Option.bind (page_view_boxOf v1 i1) fun r1 =>
  some r1.1

noncomputable def page_view_hullOf_L1 (v1 : Page_view) (roots1 : (List Int)) (i : Int) (s : (List Box)) : Option (List Box) :=
  need (inR roots1 i) <|
  Option.bind (page_view_box v1 (gx roots1 i)) fun r1 =>
  need (room (s.length + [r1].length)) <|
  some (s ++ [r1])

/-- (*page.view).hullOf -/
noncomputable def page_view_hullOf (v1 : Page_view) (roots1 : (List Int)) : Option (Box × Int) :=
  bnd ((⟨(0 : Int), (0 : Int), (0 : Int), (0 : Int)⟩ : Box)) fun v2 =>
  Option.bind (α := (List Box)) (
    rfor (roots1.length : Int) (page_view_hullOf_L1 v1 roots1) ([] : List Box)) fun j_2 =>
  Option.bind (geom_Hull j_2) fun r2 =>
  some (r2.1, r2.2)

/-- page.far -/
noncomputable def page_far (n1 : Int) : Option Bool :=
  some ((decide (n1 < (-2000000))) || (decide (2000000 < n1)))

noncomputable def page_view_below_L1 (self : (Page_view × Int × (List Bool)) → Option (List Bool)) (x : (Page_view × Int × (List Bool))) (v2 : (List Int)) (i : Int) (s : (List Bool)) : Option (List Bool) :=
  need (inR v2 i) <|
  Option.bind (self (x.1, (gx v2 i), s)) fun r1 =>
  some r1

/-- (*page.view).below -/
noncomputable def page_view_below_body (self : (Page_view × Int × (List Bool)) → Option (List Bool)) (x : (Page_view × Int × (List Bool))) : Option (List Bool) :=
  need (inR x.2.2 x.2.1) <|
  bnd (x.2.2.set x.2.1.toNat true) fun marks2 =>
  need (inR x.1.d.Nodes x.2.1) <|
  bnd (x.1.members.getD ((gx x.1.d.Nodes x.2.1).Id) ([] : (List Int))) fun v2 =>
  Option.bind (α := (List Bool)) (
    rfor (v2.length : Int) (page_view_below_L1 self x v2) marks2) fun j_5 =>
  some j_5

noncomputable def page_view_below (v1 : Page_view) (k1 : Int) (marks1 : (List Bool)) : Option (List Bool) := fixp page_view_below_body (v1, k1, marks1)

noncomputable def page_nearer_L1 (line1 : Int) (reach1 : Int) (others1 : (List Int)) (i : Int) (s : (Int × Bool)) : Option (Int × Bool) :=
  need (inR others1 i) <|
  bnd (gx others1 i) fun o1 =>
  bif !decide (((W (o1 - line1)).tmod 2) = 0) then (
    some (s.1, s.2))
  else (
    bnd ((W (o1 - line1)).tdiv 2) fun c1 =>
    bif (decide (c1 < (W (-reach1)))) || (decide (reach1 < c1)) then (
      some (s.1, s.2))
    else (
      bif ((!s.2) || (decide ((max c1 (W (-c1))) < (max s.1 (W (-s.1)))))) || ((decide (c1 = (W (-s.1)))) && (decide (s.1 < c1))) then (
        some (c1, true))
      else (
        some (s.1, s.2))))

/-- page.nearer -/
noncomputable def page_nearer (line1 : Int) (others1 : (List Int)) (reach1 : Int) (best1 : Int) (some1 : Bool) : Option (Int × Bool) :=
  Option.bind (α := (Int × Bool)) (
    rfor (others1.length : Int) (page_nearer_L1 line1 reach1 others1) (best1, some1)) fun j_1 =>
  some (j_1.1, j_1.2)

/-- page.Guide$1 -/
noncomputable def page_Guide_1 (way1 : Int) (from1 : Int) (long1 : Int) (c0_1 : (Arr 1 (List Int))) (c1_1 : Int) (c2_1 : (Arr 1 (List Int))) : Option Int :=
  need (0 ≤ way1 ∧ way1 < (1 + 1 : Nat)) <|
  Option.bind (page_nearer (W (2 * from1)) (gx c0_1.l way1) c1_1 0 false) fun r1 =>
  need (0 ≤ way1 ∧ way1 < (1 + 1 : Nat)) <|
  Option.bind (page_nearer (W (2 * (W (from1 + long1)))) (gx c0_1.l way1) c1_1 r1.1 r1.2) fun r2 =>
  need (0 ≤ way1 ∧ way1 < (1 + 1 : Nat)) <|
  Option.bind (page_nearer (W ((W (2 * from1)) + long1)) (gx c2_1.l way1) c1_1 r2.1 r2.2) fun r3 =>
  some r3.1

noncomputable def page_Guide_L1 (r1 : ((Option Page_view) × (List Int) × Int)) (v1 : Page_view) (i : Int) (s : (List Bool)) : Option (List Bool) :=
  need (inR r1.2.1 i) <|
  Option.bind (page_view_below v1 (gx r1.2.1 i) s) fun r5 =>
  some r5

noncomputable def page_Guide_L2 (d1 : Doc) (j_12 : (List Bool)) (i : Int) (s : ((Arr 1 (List Int)) × (Arr 1 (List Int)))) : Option ((Arr 1 (List Int)) × (Arr 1 (List Int))) :=
  need (inR d1.Nodes i) <|
  bnd (gx d1.Nodes i) fun v3 =>
  need (inR j_12 i) <|
  bif (!(gx j_12 i)) && (!decide (v3.Kind = 6)) then (
    need (room (s.1.at0.length + [W (2 * v3.Box.X), W (2 * (W (v3.Box.X + v3.Box.W_)))].length)) <|
    need (room (s.1.at1.length + [W (2 * v3.Box.Y), W (2 * (W (v3.Box.Y + v3.Box.H)))].length)) <|
    bnd (s.1.at0 ++ [W (2 * v3.Box.X), W (2 * (W (v3.Box.X + v3.Box.W_)))]) fun c1 =>
    need (room (s.2.at0.length + [W ((W (2 * v3.Box.X)) + v3.Box.W_)].length)) <|
    bnd (s.1.at1 ++ [W (2 * v3.Box.Y), W (2 * (W (v3.Box.Y + v3.Box.H)))]) fun c2 =>
    need (room (s.2.at1.length + [W ((W (2 * v3.Box.Y)) + v3.Box.H)].length)) <|
    some ((⟨[c1, c2]⟩ : (Arr 1 (List Int))), (⟨[s.2.at0 ++ [W ((W (2 * v3.Box.X)) + v3.Box.W_)], s.2.at1 ++ [W ((W (2 * v3.Box.Y)) + v3.Box.H)]]⟩ : (Arr 1 (List Int)))))
  else (
    some ((⟨[s.1.at0, s.1.at1]⟩ : (Arr 1 (List Int))), (⟨[s.2.at0, s.2.at1]⟩ : (Arr 1 (List Int)))))

/-- page.Guide -/
noncomputable def page_Guide (d1 : Doc) (ids1 : (List Str)) (dx1 : Int) (dy1 : Int) (reach1 : Int) : Option (Int × Int × Int) :=
  Option.bind (page_selected d1 ids1) fun r1 =>
  bif !decide (r1.2.2 = 0) then (
    some (0, 0, r1.2.2))
  else (
    Option.bind r1.1 fun v1 =>
    Option.bind (page_view_hullOf v1 r1.2.1) fun r2 =>
    bif !decide (r2.2 = 0) then (
      some (0, 0, r2.2))
    else (
      Option.bind (page_far dx1) fun r3 =>
      Option.bind (gd (!r3) (page_far dy1)) fun r4 =>
      bif ((r3 || r4) || (decide (reach1 < 0))) || (decide (1000 < reach1)) then (
        some (0, 0, 3))
      else (
        bnd ((d1.Nodes.length : Int)) fun v2 =>
        need (0 ≤ v2 ∧ v2 ≤ v2 ∧ v2 ≤ 1073741824) <|
        bnd (List.replicate v2.toNat false) fun marks1 =>
        Option.bind (α := (List Bool)) (
          rfor (r1.2.1.length : Int) (page_Guide_L1 r1 v1) marks1) fun j_12 =>
        Option.bind (α := ((Arr 1 (List Int)) × (Arr 1 (List Int)))) (
          rfor (d1.Nodes.length : Int) (page_Guide_L2 d1 j_12) ((⟨[([] : List Int), ([] : List Int)]⟩ : (Arr 1 (List Int))), (⟨[([] : List Int), ([] : List Int)]⟩ : (Arr 1 (List Int))))) fun j_18 =>
        Option.bind ((fun x0 x1 x2 => page_Guide_1 x0 x1 x2 (⟨[j_18.1.at0, j_18.1.at1]⟩ : (Arr 1 (List Int))) reach1 (⟨[j_18.2.at0, j_18.2.at1]⟩ : (Arr 1 (List Int)))) 0 (W (r2.1.X + dx1)) r2.1.W_) fun r6 =>
        Option.bind ((fun x0 x1 x2 => page_Guide_1 x0 x1 x2 (⟨[j_18.1.at0, j_18.1.at1]⟩ : (Arr 1 (List Int))) reach1 (⟨[j_18.2.at0, j_18.2.at1]⟩ : (Arr 1 (List Int)))) 1 (W (r2.1.Y + dy1)) r2.1.H) fun r7 =>
        some (W (dx1 + r6), W (dy1 + r7), 0))))

/-- drawref1.nodeError$1 -/
noncomputable def ref_nodeError_1 (m1 : DNode) (c0_1 : DNode) : Option Bool :=
  some (decide (m1.Id = c0_1.Id))

noncomputable def slices_IndexFunc_Node_L1 (f1 : (DNode → Option Bool)) (s1 : (List DNode)) (i : Int) (s : Unit) : Option (Res Unit (Res Unit Int)) :=
  need (inR s1 i) <|
  Option.bind (f1 (gx s1 i)) fun r1 =>
  bif r1 then (
    some (Res.ab (Res.ab i)))
  else (
    some (Res.nx ()))

/-- slices.IndexFunc[[]api.Node,api.Node] -/
noncomputable def slices_IndexFunc_Node (s1 : (List DNode)) (f1 : (DNode → Option Bool)) : Option Int :=
  bindR (σ := Unit) (ρ := Int) (
    rforE (s1.length : Int) (slices_IndexFunc_Node_L1 f1 s1) (fun s => Res.nx s) ()) fun j_1 =>
  some (-1)

/-- slices.ContainsFunc[[]api.Node,api.Node] -/
noncomputable def slices_ContainsFunc_Node (s1 : (List DNode)) (f1 : (DNode → Option Bool)) : Option Bool :=
  Option.bind (slices_IndexFunc_Node s1 f1) fun r1 =>
  some (decide (0 ≤ r1))

noncomputable def ref_NameOf_L1 (s1 : Str) (i : Int) (s : Unit) : Option (Res Unit (Res Unit Bool)) :=
  need (inR s1.b i) <|
  bnd ((⟨((gx s1.b i).toNat : Int)⟩ : KI .u8)) fun c1 =>
  bif (!((decide ((⟨97⟩ : KI .u8).n ≤ c1.n)) && (decide (c1.n ≤ (⟨122⟩ : KI .u8).n)))) && ((decide (i = 0)) || ((!((decide ((⟨48⟩ : KI .u8).n ≤ c1.n)) && (decide (c1.n ≤ (⟨57⟩ : KI .u8).n)))) && (!decide (c1.n = (⟨45⟩ : KI .u8).n)))) then (
    some (Res.ab (Res.ab false)))
  else (
    some (Res.nx ()))

/-- drawref1.NameOf -/
noncomputable def ref_NameOf (s1 : Str) : Option Bool :=
  bindR (σ := Unit) (ρ := Bool) (
    rforE (s1.b.length : Int) (ref_NameOf_L1 s1) (fun s => Res.nx s) ()) fun j_1 =>
  some ((!decide (s1 = Str.nil)) && (decide ((s1.b.length : Int) ≤ 40)))

/-- drawref1.When -/
noncomputable def ref_When (is1 : Bool) (e1 : Int) : Option Int :=
  bif is1 then (
    some e1)
  else (
    some 0)

/-- drawref1.In -/
noncomputable def ref_In (n1 : Int) (low1 : Int) (high1 : Int) : Option Bool :=
  some ((decide (low1 ≤ n1)) && (decide (n1 ≤ high1)))

noncomputable def ref_First_L1 (l1 : (List Int)) (i : Int) (s : Unit) : Option (Res Unit (Res Unit Int)) :=
  need (inR l1 i) <|
  bnd (gx l1 i) fun e1 =>
  bif !decide (e1 = 0) then (
    some (Res.ab (Res.ab e1)))
  else (
    some (Res.nx ()))

/-- drawref1.First -/
noncomputable def ref_First (l1 : (List Int)) : Option Int :=
  bindR (σ := Unit) (ρ := Int) (
    rforE (l1.length : Int) (ref_First_L1 l1) (fun s => Res.nx s) ()) fun j_1 =>
  some 0

/-- drawref1.PointError -/
noncomputable def ref_PointError (p1 : Point) : Option Int :=
  Option.bind (ref_In p1.X (-1000000) 1000000) fun r1 =>
  Option.bind (gd (!(!r1)) (ref_In p1.Y (-1000000) 1000000)) fun r2 =>
  Option.bind (ref_When ((!r1) || (!r2)) 3) fun r3 =>
  some r3

/-- drawref1.BoxError -/
noncomputable def ref_BoxError (b1 : Box) : Option Int :=
  Option.bind (ref_PointError (⟨b1.X, b1.Y⟩ : Point)) fun r1 =>
  Option.bind (ref_In b1.W_ 1 20000) fun r2 =>
  Option.bind (gd (!(!r2)) (ref_In b1.H 1 20000)) fun r3 =>
  Option.bind (ref_When ((!r2) || (!r3)) 3) fun r4 =>
  Option.bind (ref_First [r1, r4]) fun r5 =>
  some r5

noncomputable def ref_TextError_L1 (s1 : Str) (i : Int) (s : Bool) : Option Bool :=
  need (s = false → inR s1.b i) <|
  need (s = false → (decide ((⟨((gx s1.b i).toNat : Int)⟩ : KI .u8).n < (⟨32⟩ : KI .u8).n)) = true → inR s1.b i) <|
  need ((s || ((decide ((⟨((gx s1.b i).toNat : Int)⟩ : KI .u8).n < (⟨32⟩ : KI .u8).n)) && (!decide ((⟨((gx s1.b i).toNat : Int)⟩ : KI .u8).n = (⟨10⟩ : KI .u8).n)))) = false → inR s1.b i) <|
  bnd ((s || ((decide ((⟨((gx s1.b i).toNat : Int)⟩ : KI .u8).n < (⟨32⟩ : KI .u8).n)) && (!decide ((⟨((gx s1.b i).toNat : Int)⟩ : KI .u8).n = (⟨10⟩ : KI .u8).n)))) || (decide ((⟨((gx s1.b i).toNat : Int)⟩ : KI .u8).n = (⟨127⟩ : KI .u8).n))) fun bad2 =>
  some bad2

/-- drawref1.TextError -/
noncomputable def ref_TextError (s1 : Str) : Option Int :=
  Option.bind (utf8_ValidString s1) fun r1 =>
  bnd (!r1) fun bad1 =>
  Option.bind (α := Bool) (
    rfor (s1.b.length : Int) (ref_TextError_L1 s1) bad1) fun j_3 =>
  Option.bind (ref_When (decide (1000 < (s1.b.length : Int))) 4) fun r2 =>
  Option.bind (ref_When j_3 2) fun r3 =>
  Option.bind (ref_First [r2, r3]) fun r4 =>
  some r4

/-- drawref1.classError -/
noncomputable def ref_classError (s1 : Str) : Option Int :=
  Option.bind (gd ((!decide (s1 = Str.nil))) (ref_NameOf s1)) fun r1 =>
  Option.bind (ref_When ((!decide (s1 = Str.nil)) && (!r1)) 5) fun r2 =>
  some r2

/-- drawref1.nodeError -/
noncomputable def ref_nodeError (d1 : Doc) (i1 : Int) : Option Int :=
  need (inR d1.Nodes i1) <|
  bnd (gx d1.Nodes i1) fun v1 =>
  need (segR d1.Nodes.length 0 i1) <|
  Option.bind (slices_ContainsFunc_Node (seg d1.Nodes 0 i1) (fun x0 => ref_nodeError_1 x0 v1)) fun twice1 =>
  Option.bind (ref_NameOf v1.Id) fun r1 =>
  Option.bind (ref_When (!r1) 5) fun r2 =>
  Option.bind (ref_When twice1 6) fun r3 =>
  Option.bind (ref_In v1.Kind 1 6) fun r4 =>
  Option.bind (ref_When (!r4) 1) fun r5 =>
  Option.bind (ref_First [r2, r3, r5]) fun e1 =>
  bif !decide (e1 = 0) then (
    some e1)
  else (
    Option.bind (ref_When (!decide (v1.Box = (⟨(0 : Int), (0 : Int), (0 : Int), (0 : Int)⟩ : Box))) 2) fun box1 =>
    Option.bind (α := Int) (
      bif !decide (v1.Kind = 6) then (
        Option.bind (ref_BoxError v1.Box) fun box2 =>
        some box2)
      else (
        some box1)) fun j_13 =>
    Option.bind (ref_TextError v1.Text) fun r6 =>
    Option.bind (ref_classError v1.Class) fun r7 =>
    Option.bind (ref_First [j_13, r6, r7]) fun r8 =>
    some r8)

/-- drawref1.NodeAt$1 -/
noncomputable def ref_NodeAt_1 (n1 : DNode) (c0_1 : Str) : Option Bool :=
  some (decide (n1.Id = c0_1))

/-- drawref1.NodeAt -/
noncomputable def ref_NodeAt (d1 : Doc) (id1 : Str) : Option Int :=
  Option.bind (slices_IndexFunc_Node d1.Nodes (fun x0 => ref_NodeAt_1 x0 id1)) fun r1 =>
  some r1

noncomputable def ref_above_L1 (d1 : Doc) (n1 : DNode) (s2_ : (Int × Str)) : Option (Step (Int × Str) (Res Int (Int × Bool))) :=
  bif !decide (s2_.2 = Str.nil) then (
    bnd (W (s2_.1 + 1)) fun many1 =>
    bif (decide (s2_.2 = n1.Id)) || (decide ((d1.Nodes.length : Int) < many1)) then (
      some (Step.done (Res.ab (many1, decide (s2_.2 = n1.Id)))))
    else (
      Option.bind (ref_NodeAt d1 s2_.2) fun r1 =>
      need (inR d1.Nodes r1) <|
      bnd ((gx d1.Nodes r1).Parent) fun id1 =>
      some (Step.again (many1, id1))))
  else (
    some (Step.done (Res.nx s2_.1)))

/-- drawref1.above -/
noncomputable def ref_above (d1 : Doc) (n1 : DNode) : Option (Int × Bool) :=
  bindR (σ := Int) (ρ := (Int × Bool)) (
    loop (ref_above_L1 d1 n1) (0, n1.Parent)) fun j_1 =>
  some (j_1, false)

noncomputable def ref_members_L1 (d1 : Doc) (id1 : Str) (i : Int) (s : (List DNode)) : Option (List DNode) :=
  need (inR d1.Nodes i) <|
  bnd (gx d1.Nodes i) fun v1 =>
  bif decide (v1.Parent = id1) then (
    need (room (s.length + [v1].length)) <|
    some (s ++ [v1]))
  else (
    some s)

/-- drawref1.members -/
noncomputable def ref_members (d1 : Doc) (id1 : Str) : Option (List DNode) :=
  Option.bind (α := (List DNode)) (
    rfor (d1.Nodes.length : Int) (ref_members_L1 d1 id1) ([] : List DNode)) fun j_1 =>
  some j_1

noncomputable def ref_treeError_L1 (d1 : Doc) (i : Int) (s : Unit) : Option (Res Unit (Res Unit Int)) :=
  need (inR d1.Nodes i) <|
  bnd (gx d1.Nodes i) fun v1 =>
  Option.bind (ref_NodeAt d1 v1.Parent) fun k1 =>
  need ((!decide (v1.Parent = Str.nil)) = true → (decide (k1 < 0)) = false → inR d1.Nodes k1) <|
  bif (!decide (v1.Parent = Str.nil)) && ((decide (k1 < 0)) || (!decide (((gx d1.Nodes k1).Kind) = 6))) then (
    some (Res.ab (Res.ab 10)))
  else (
    some (Res.nx ()))

noncomputable def ref_treeError_L2 (d1 : Doc) (i : Int) (s : Unit) : Option (Res Unit (Res Unit Int)) :=
  need (inR d1.Nodes i) <|
  bnd (gx d1.Nodes i) fun v2 =>
  Option.bind (ref_above d1 v2) fun r1 =>
  bif r1.2 then (
    some (Res.ab (Res.ab 13)))
  else (
    some (Res.nx ()))

noncomputable def ref_treeError_L3 (d1 : Doc) (i : Int) (s : Unit) : Option (Res Unit (Res Unit Int)) :=
  need (inR d1.Nodes i) <|
  bnd (gx d1.Nodes i) fun v3 =>
  Option.bind (ref_above d1 v3) fun r2 =>
  bif decide (8 < r2.1) then (
    some (Res.ab (Res.ab 4)))
  else (
    some (Res.nx ()))

noncomputable def ref_treeError_L4 (d1 : Doc) (i : Int) (s : Unit) : Option (Res Unit (Res Unit Int)) :=
  need (inR d1.Nodes i) <|
  bnd (gx d1.Nodes i) fun v4 =>
  Option.bind (gd ((decide (v4.Kind = 6))) (ref_members d1 v4.Id)) fun r3 =>
  bif (decide (v4.Kind = 6)) && (decide ((r3.length : Int) = 0)) then (
    some (Res.ab (Res.ab 9)))
  else (
    some (Res.nx ()))

/-- drawref1.treeError -/
noncomputable def ref_treeError (d1 : Doc) : Option Int :=
  bindR (σ := Unit) (ρ := Int) (
    rforE (d1.Nodes.length : Int) (ref_treeError_L1 d1) (fun s => Res.nx s) ()) fun j_1 =>
  bindR (σ := Unit) (ρ := Int) (
    rforE (d1.Nodes.length : Int) (ref_treeError_L2 d1) (fun s => Res.nx s) ()) fun j_10 =>
  bindR (σ := Unit) (ρ := Int) (
    rforE (d1.Nodes.length : Int) (ref_treeError_L3 d1) (fun s => Res.nx s) ()) fun j_18 =>
  bindR (σ := Unit) (ρ := Int) (
    rforE (d1.Nodes.length : Int) (ref_treeError_L4 d1) (fun s => Res.nx s) ()) fun j_26 =>
  some 0

/-- drawref1.edgeError$1 -/
noncomputable def ref_edgeError_1 (y1 : DEdge) (c0_1 : DEdge) : Option Bool :=
  some (decide (y1.Id = c0_1.Id))

noncomputable def slices_IndexFunc_Edge_L1 (f1 : (DEdge → Option Bool)) (s1 : (List DEdge)) (i : Int) (s : Unit) : Option (Res Unit (Res Unit Int)) :=
  need (inR s1 i) <|
  Option.bind (f1 (gx s1 i)) fun r1 =>
  bif r1 then (
    some (Res.ab (Res.ab i)))
  else (
    some (Res.nx ()))

/-- slices.IndexFunc[[]api.Edge,api.Edge] -/
noncomputable def slices_IndexFunc_Edge (s1 : (List DEdge)) (f1 : (DEdge → Option Bool)) : Option Int :=
  bindR (σ := Unit) (ρ := Int) (
    rforE (s1.length : Int) (slices_IndexFunc_Edge_L1 f1 s1) (fun s => Res.nx s) ()) fun j_1 =>
  some (-1)

/-- slices.ContainsFunc[[]api.Edge,api.Edge] -/
noncomputable def slices_ContainsFunc_Edge (s1 : (List DEdge)) (f1 : (DEdge → Option Bool)) : Option Bool :=
  Option.bind (slices_IndexFunc_Edge s1 f1) fun r1 =>
  some (decide (0 ≤ r1))

/-- drawref1.PortError -/
noncomputable def ref_PortError (side1 : Int) (at1 : Int) : Option Int :=
  Option.bind (ref_In side1 1 4) fun r1 =>
  Option.bind (gd (!(!r1)) (ref_In at1 0 1000)) fun r2 =>
  Option.bind (ref_When ((!r1) || (!r2)) 3) fun r3 =>
  some r3

noncomputable def ref_PointsError_L1 (l1 : (List Point)) (i : Int) (s : Unit) : Option (Res Unit (Res Unit Int)) :=
  need (inR l1 i) <|
  bnd (gx l1 i) fun v1 =>
  Option.bind (ref_PointError v1) fun e1 =>
  bif !decide (e1 = 0) then (
    some (Res.ab (Res.ab e1)))
  else (
    some (Res.nx ()))

/-- drawref1.PointsError -/
noncomputable def ref_PointsError (l1 : (List Point)) : Option Int :=
  bif decide (1000 < (l1.length : Int)) then (
    some 4)
  else (
    bindR (σ := Unit) (ρ := Int) (
      rforE (l1.length : Int) (ref_PointsError_L1 l1) (fun s => Res.nx s) ()) fun j_2 =>
    some 0)

noncomputable def ref_edgeError_L1 (d1 : Doc) (v2 : (List DEnd)) (i : Int) (s : Unit) : Option (Res Unit (Res Unit Int)) :=
  need (inR v2 i) <|
  bnd (gx v2 i) fun v3 =>
  Option.bind (ref_NodeAt d1 v3.Node) fun k1 =>
  bif decide (k1 < 0) then (
    some (Res.ab (Res.ab 10)))
  else (
    need (inR d1.Nodes k1) <|
    Option.bind (ref_When (decide (((gx d1.Nodes k1).Kind) = 6)) 1) fun r6 =>
    Option.bind (ref_PortError v3.Side v3.At) fun r7 =>
    Option.bind (ref_First [r6, r7]) fun e2 =>
    bif !decide (e2 = 0) then (
      some (Res.ab (Res.ab e2)))
    else (
      some (Res.nx ())))

/-- drawref1.edgeError -/
noncomputable def ref_edgeError (d1 : Doc) (i1 : Int) : Option Int :=
  need (inR d1.Edges i1) <|
  bnd (gx d1.Edges i1) fun v1 =>
  Option.bind (ref_NodeAt d1 v1.Id) fun r1 =>
  need ((decide (0 ≤ r1)) = false → segR d1.Edges.length 0 i1) <|
  Option.bind (gd (!(decide (0 ≤ r1))) (slices_ContainsFunc_Edge (seg d1.Edges 0 i1) (fun x0 => ref_edgeError_1 x0 v1))) fun r2 =>
  Option.bind (ref_NameOf v1.Id) fun r3 =>
  Option.bind (ref_When (!r3) 5) fun r4 =>
  Option.bind (ref_When ((decide (0 ≤ r1)) || r2) 6) fun r5 =>
  Option.bind (ref_First [r4, r5]) fun e1 =>
  bif !decide (e1 = 0) then (
    some e1)
  else (
    bnd ([v1.From, v1.To]) fun v2 =>
    bindR (σ := Unit) (ρ := Int) (
      rforE (v2.length : Int) (ref_edgeError_L1 d1 v2) (fun s => Res.nx s) ()) fun j_12 =>
    bif decide (50 < (v1.Bends.length : Int)) then (
      some 4)
    else (
      Option.bind (ref_PointsError v1.Bends) fun r8 =>
      Option.bind (ref_TextError v1.Text) fun r9 =>
      Option.bind (ref_classError v1.Class) fun r10 =>
      Option.bind (ref_First [r8, r9, r10]) fun r11 =>
      some r11))

noncomputable def ref_HullOf_L1 (l1 : (List Box)) (i : Int) (s : (Int × Int × Int × Int)) : Option (Int × Int × Int × Int) :=
  need (inR l1 i) <|
  bnd (gx l1 i) fun v3 =>
  bnd (min s.1 v3.X) fun x2 =>
  bnd (min s.2.1 v3.Y) fun y2 =>
  bnd (max s.2.2.1 (W (v3.X + v3.W_))) fun r2 =>
  bnd (max s.2.2.2 (W (v3.Y + v3.H))) fun d2 =>
  some (x2, y2, r2, d2)

/-- drawref1.HullOf -/
noncomputable def ref_HullOf (l1 : (List Box)) : Option (Box × Int) :=
  bnd ((⟨(0 : Int), (0 : Int), (0 : Int), (0 : Int)⟩ : Box)) fun v1 =>
  bif decide ((l1.length : Int) = 0) then (
    bnd ((⟨(0 : Int), (0 : Int), (0 : Int), (0 : Int)⟩ : Box)) fun v2 =>
    some (v2, 9))
  else (
    need (inR l1 0) <|
    need (inR l1 0) <|
    need (inR l1 0) <|
    need (inR l1 0) <|
    bnd ((gx l1 0).X) fun x1 =>
    bnd ((gx l1 0).Y) fun y1 =>
    bnd ((gx l1 0).X) fun r1 =>
    bnd ((gx l1 0).Y) fun d1 =>
    Option.bind (α := (Int × Int × Int × Int)) (
      rfor (l1.length : Int) (ref_HullOf_L1 l1) (x1, y1, r1, d1)) fun j_12 =>
    bif (decide (20000 < (W (j_12.2.2.1 - j_12.1)))) || (decide (20000 < (W (j_12.2.2.2 - j_12.2.1)))) then (
      bnd ((⟨(0 : Int), (0 : Int), (0 : Int), (0 : Int)⟩ : Box)) fun v4 =>
      some (v4, 4))
    else (
      bnd ((⟨j_12.1, j_12.2.1, W (j_12.2.2.1 - j_12.1), W (j_12.2.2.2 - j_12.2.1)⟩ : Box)) fun v5 =>
      some (v5, 0)))

noncomputable def ref_BoxOfNode_L1 (self : (Doc × Str) → Option (Box × Int)) (x : (Doc × Str)) (r2 : (List DNode)) (i : Int) (s : (List Box)) : Option (Res (List Box) (Res (List Box) (Box × Int))) :=
  need (inR r2 i) <|
  bnd (gx r2 i) fun v3 =>
  Option.bind (self (x.1, v3.Id)) fun r3 =>
  bif !decide (r3.2 = 0) then (
    bnd ((⟨(0 : Int), (0 : Int), (0 : Int), (0 : Int)⟩ : Box)) fun v4 =>
    some (Res.ab (Res.ab (v4, r3.2))))
  else (
    need (room (s.length + [r3.1].length)) <|
    some (Res.nx (s ++ [r3.1])))

/-- drawref1.BoxOfNode -/
noncomputable def ref_BoxOfNode_body (self : (Doc × Str) → Option (Box × Int)) (x : (Doc × Str)) : Option (Box × Int) :=
  bnd ((⟨(0 : Int), (0 : Int), (0 : Int), (0 : Int)⟩ : Box)) fun v1 =>
  Option.bind (ref_NodeAt x.1 x.2) fun r1 =>
  need (inR x.1.Nodes r1) <|
  bnd (gx x.1.Nodes r1) fun v2 =>
  bif !decide (v2.Kind = 6) then (
    some (v2.Box, 0))
  else (
    Option.bind (ref_members x.1 x.2) fun r2 =>
    bindR (σ := (List Box)) (ρ := (Box × Int)) (
      rforE (r2.length : Int) (ref_BoxOfNode_L1 self x r2) (fun s => Res.nx s) ([] : List Box)) fun j_7 =>
    Option.bind (ref_HullOf j_7) fun r4 =>
    bif !decide (r4.2 = 0) then (
      bnd ((⟨(0 : Int), (0 : Int), (0 : Int), (0 : Int)⟩ : Box)) fun v5 =>
      some (v5, r4.2))
    else (
      bnd ((⟨W (r4.1.X - 10), W (r4.1.Y - 10), W (r4.1.W_ + 20), W (r4.1.H + 20)⟩ : Box)) fun v6 =>
      Option.bind (ref_BoxError v6) fun r5 =>
      some (v6, r5)))

noncomputable def ref_BoxOfNode (d1 : Doc) (id1 : Str) : Option (Box × Int) := fixp ref_BoxOfNode_body (d1, id1)

noncomputable def ref_DocError_L1 (d1 : Doc) (i : Int) (s : Unit) : Option (Res Unit (Res Unit Int)) :=
  Option.bind (ref_nodeError d1 i) fun e1 =>
  bif !decide (e1 = 0) then (
    some (Res.ab (Res.ab e1)))
  else (
    some (Res.nx ()))

noncomputable def ref_DocError_L2 (d1 : Doc) (i : Int) (s : Unit) : Option (Res Unit (Res Unit Int)) :=
  Option.bind (ref_edgeError d1 i) fun e3 =>
  bif !decide (e3 = 0) then (
    some (Res.ab (Res.ab e3)))
  else (
    some (Res.nx ()))

noncomputable def ref_DocError_L3 (d1 : Doc) (i : Int) (s : Unit) : Option (Res Unit (Res Unit Int)) :=
  need (inR d1.Nodes i) <|
  bnd (gx d1.Nodes i) fun v1 =>
  Option.bind (ref_BoxOfNode d1 v1.Id) fun r1 =>
  bif !decide (r1.2 = 0) then (
    some (Res.ab (Res.ab r1.2)))
  else (
    some (Res.nx ()))

/-- drawref1.DocError -/
noncomputable def ref_DocError (d1 : Doc) : Option Int :=
  bif (decide (500 < (d1.Nodes.length : Int))) || (decide (1000 < (d1.Edges.length : Int))) then (
    some 4)
  else (
    bindR (σ := Unit) (ρ := Int) (
      rforE (d1.Nodes.length : Int) (ref_DocError_L1 d1) (fun s => Res.nx s) ()) fun j_2 =>
    Option.bind (ref_treeError d1) fun e2 =>
    bif !decide (e2 = 0) then (
      some e2)
    else (
      bindR (σ := Unit) (ρ := Int) (
        rforE (d1.Edges.length : Int) (ref_DocError_L2 d1) (fun s => Res.nx s) ()) fun j_10 =>
      bindR (σ := Unit) (ρ := Int) (
        rforE (d1.Nodes.length : Int) (ref_DocError_L3 d1) (fun s => Res.nx s) ()) fun j_16 =>
      some 0))

noncomputable def slices_Index_string_L1 (s1 : (List Str)) (v1 : Str) (i : Int) (s : Unit) : Option (Res Unit (Res Unit Int)) :=
  need (inR s1 i) <|
  bif decide (v1 = (gx s1 i)) then (
    some (Res.ab (Res.ab i)))
  else (
    some (Res.nx ()))

/-- slices.Index[[]string,string] -/
noncomputable def slices_Index_string (s1 : (List Str)) (v1 : Str) : Option Int :=
  bindR (σ := Unit) (ρ := Int) (
    rforE (s1.length : Int) (slices_Index_string_L1 s1 v1) (fun s => Res.nx s) ()) fun j_1 =>
  some (-1)

/-- slices.Contains[[]string,string] -/
noncomputable def slices_Contains_string (s1 : (List Str)) (v1 : Str) : Option Bool :=
  Option.bind (slices_Index_string s1 v1) fun r1 =>
  some (decide (0 ≤ r1))

noncomputable def ref_SelectionError_L1 (d1 : Doc) (ids1 : (List Str)) (i : Int) (s : Unit) : Option (Res Unit (Res Unit Int)) :=
  need (inR ids1 i) <|
  bnd (gx ids1 i) fun id1 =>
  Option.bind (ref_NodeAt d1 id1) fun r1 =>
  Option.bind (ref_When (decide (r1 < 0)) 10) fun r2 =>
  need (segR ids1.length 0 i) <|
  Option.bind (slices_Contains_string (seg ids1 0 i) id1) fun r3 =>
  Option.bind (ref_When r3 6) fun r4 =>
  Option.bind (ref_First [r2, r4]) fun e1 =>
  bif !decide (e1 = 0) then (
    some (Res.ab (Res.ab e1)))
  else (
    some (Res.nx ()))

/-- drawref1.SelectionError -/
noncomputable def ref_SelectionError (d1 : Doc) (ids1 : (List Str)) : Option Int :=
  bindR (σ := Unit) (ρ := Int) (
    rforE (ids1.length : Int) (ref_SelectionError_L1 d1 ids1) (fun s => Res.nx s) ()) fun j_1 =>
  some 0

/-- drawlaw1.selected -/
noncomputable def law_selected (d1 : Doc) (ids1 : (List Str)) : Option Int :=
  Option.bind (ref_DocError d1) fun e1 =>
  bif !decide (e1 = 0) then (
    some e1)
  else (
    Option.bind (ref_SelectionError d1 ids1) fun r1 =>
    some r1)

noncomputable def ref_IsBelow_L1 (d1 : Doc) (group1 : Str) (s5_ : Str) : Option (Step Str (Res Unit Bool)) :=
  bif !decide (s5_ = Str.nil) then (
    bif decide (s5_ = group1) then (
      some (Step.done (Res.ab true)))
    else (
      Option.bind (ref_NodeAt d1 s5_) fun r2 =>
      need (inR d1.Nodes r2) <|
      bnd ((gx d1.Nodes r2).Parent) fun p2 =>
      some (Step.again p2)))
  else (
    some (Step.done (Res.nx ())))

/-- drawref1.IsBelow -/
noncomputable def ref_IsBelow (d1 : Doc) (id1 : Str) (group1 : Str) : Option Bool :=
  Option.bind (ref_NodeAt d1 id1) fun r1 =>
  need (inR d1.Nodes r1) <|
  bnd ((gx d1.Nodes r1).Parent) fun p1 =>
  bindR (σ := Unit) (ρ := Bool) (
    loop (ref_IsBelow_L1 d1 group1) p1) fun j_4 =>
  some false

/-- drawref1.RootsOf$1 -/
noncomputable def ref_RootsOf_1 (g1 : Str) (c0_1 : Doc) (c1_1 : DNode) : Option Bool :=
  Option.bind (ref_IsBelow c0_1 c1_1.Id g1) fun r1 =>
  some r1

noncomputable def slices_IndexFunc_string_L1 (f1 : (Str → Option Bool)) (s1 : (List Str)) (i : Int) (s : Unit) : Option (Res Unit (Res Unit Int)) :=
  need (inR s1 i) <|
  Option.bind (f1 (gx s1 i)) fun r1 =>
  bif r1 then (
    some (Res.ab (Res.ab i)))
  else (
    some (Res.nx ()))

/-- slices.IndexFunc[[]string,string] -/
noncomputable def slices_IndexFunc_string (s1 : (List Str)) (f1 : (Str → Option Bool)) : Option Int :=
  bindR (σ := Unit) (ρ := Int) (
    rforE (s1.length : Int) (slices_IndexFunc_string_L1 f1 s1) (fun s => Res.nx s) ()) fun j_1 =>
  some (-1)

/-- slices.ContainsFunc[[]string,string] -/
noncomputable def slices_ContainsFunc_string (s1 : (List Str)) (f1 : (Str → Option Bool)) : Option Bool :=
  Option.bind (slices_IndexFunc_string s1 f1) fun r1 =>
  some (decide (0 ≤ r1))

noncomputable def ref_RootsOf_L1 (d1 : Doc) (ids1 : (List Str)) (i : Int) (s : (List Str)) : Option (List Str) :=
  need (inR d1.Nodes i) <|
  bnd (gx d1.Nodes i) fun v1 =>
  Option.bind (slices_Contains_string ids1 v1.Id) fun r1 =>
  Option.bind (gd (r1) (slices_ContainsFunc_string ids1 (fun x0 => ref_RootsOf_1 x0 d1 v1))) fun r2 =>
  bif r1 && (!r2) then (
    need (room (s.length + [v1.Id].length)) <|
    some (s ++ [v1.Id]))
  else (
    some s)

/-- drawref1.RootsOf -/
noncomputable def ref_RootsOf (d1 : Doc) (ids1 : (List Str)) : Option (List Str) :=
  Option.bind (α := (List Str)) (
    rfor (d1.Nodes.length : Int) (ref_RootsOf_L1 d1 ids1) ([] : List Str)) fun j_1 =>
  some j_1

noncomputable def ref_RootBoxes_L1 (d1 : Doc) (r1 : (List Str)) (i : Int) (s : (List Box)) : Option (List Box) :=
  need (inR r1 i) <|
  Option.bind (ref_BoxOfNode d1 (gx r1 i)) fun r2 =>
  need (room (s.length + [r2.1].length)) <|
  some (s ++ [r2.1])

/-- drawref1.RootBoxes -/
noncomputable def ref_RootBoxes (d1 : Doc) (ids1 : (List Str)) : Option ((List Box) × Box × Int) :=
  bnd ((⟨(0 : Int), (0 : Int), (0 : Int), (0 : Int)⟩ : Box)) fun v1 =>
  Option.bind (ref_RootsOf d1 ids1) fun r1 =>
  Option.bind (α := (List Box)) (
    rfor (r1.length : Int) (ref_RootBoxes_L1 d1 r1) ([] : List Box)) fun j_3 =>
  Option.bind (ref_HullOf j_3) fun r3 =>
  some (j_3, r3.1, r3.2)

/-- drawref1.StepError -/
noncomputable def ref_StepError (dx1 : Int) (dy1 : Int) : Option Int :=
  Option.bind (ref_In dx1 (-2000000) 2000000) fun r1 =>
  Option.bind (gd (!(!r1)) (ref_In dy1 (-2000000) 2000000)) fun r2 =>
  Option.bind (ref_When ((!r1) || (!r2)) 3) fun r3 =>
  some r3

/-- drawref1.Touched$1 -/
noncomputable def ref_Touched_1 (g1 : Str) (c0_1 : DNode) (c1_1 : Doc) : Option Bool :=
  Option.bind (gd (!(decide (c0_1.Id = g1))) (ref_IsBelow c1_1 c0_1.Id g1)) fun r1 =>
  some ((decide (c0_1.Id = g1)) || r1)

noncomputable def ref_Touched_L1 (d1 : Doc) (ids1 : (List Str)) (i : Int) (s : (GMap Str Bool)) : Option (GMap Str Bool) :=
  need (inR d1.Nodes i) <|
  bnd (gx d1.Nodes i) fun v1 =>
  Option.bind (slices_ContainsFunc_string ids1 (fun x0 => ref_Touched_1 x0 v1 d1)) fun r1 =>
  some (s.set v1.Id r1)

/-- drawref1.Touched -/
noncomputable def ref_Touched (d1 : Doc) (ids1 : (List Str)) : Option (GMap Str Bool) :=
  bnd ((GMap.nil : (GMap Str Bool))) fun m1 =>
  Option.bind (α := (GMap Str Bool)) (
    rfor (d1.Nodes.length : Int) (ref_Touched_L1 d1 ids1) m1) fun j_2 =>
  some j_2

/-- drawref1.Abs -/
noncomputable def ref_Abs (n1 : Int) : Option Int :=
  some (max n1 (W (-n1)))

/-- drawref1.snapped$1 -/
noncomputable def ref_snapped_1 (a1 : Int) (b1 : Int) (c0_1 : Int) (c1_1 : Bool) (c2_1 : Int) : Option (Bool × Int) :=
  Option.bind (gd (!(!decide (((W (b1 - a1)).tmod 2) = 0))) (ref_Abs (W (b1 - a1)))) fun r1 =>
  bif (!decide (((W (b1 - a1)).tmod 2) = 0)) || (decide ((W (2 * c0_1)) < r1)) then (
    some (c1_1, c2_1))
  else (
    bnd ((W (b1 - a1)).tdiv 2) fun s1 =>
    Option.bind (gd (!(!c1_1)) (ref_Abs s1)) fun r2 =>
    Option.bind (gd (!(!c1_1)) (ref_Abs c2_1)) fun r3 =>
    Option.bind (gd (!((!c1_1) || (decide (r2 < r3)))) (ref_Abs s1)) fun r4 =>
    Option.bind (gd (!((!c1_1) || (decide (r2 < r3)))) (ref_Abs c2_1)) fun r5 =>
    bif ((!c1_1) || (decide (r2 < r3))) || ((decide (r4 = r5)) && (decide (c2_1 < s1))) then (
      some (true, s1))
    else (
      some (c1_1, c2_1)))

noncomputable def ref_snapped_L2 (v1 : (Arr 2 Int)) (v2 : (List Int)) (reach1 : Int) (i : Int) (s : (Int × Bool)) : Option (Int × Bool) :=
  need (inR v2 i) <|
  bnd (gx v2 i) fun a1 =>
  Option.bind (ref_snapped_1 a1 (gx v1.l 0) reach1 s.2 s.1) fun r1 =>
  Option.bind (ref_snapped_1 a1 (gx v1.l 2) reach1 r1.1 r1.2) fun r2 =>
  some (r2.2, r2.1)

noncomputable def ref_snapped_L1 (mine1 : (Arr 2 Int)) (reach1 : Int) (others1 : (List (Arr 2 Int))) (i : Int) (s : (Int × Bool)) : Option (Int × Bool) :=
  need (inR others1 i) <|
  bnd (gx others1 i) fun v1 =>
  bnd ([gx mine1.l 0, gx mine1.l 2]) fun v2 =>
  Option.bind (α := (Int × Bool)) (
    rfor (v2.length : Int) (ref_snapped_L2 v1 v2 reach1) (s.1, s.2)) fun j_8 =>
  Option.bind (ref_snapped_1 (gx mine1.l 1) (gx v1.l 1) reach1 j_8.2 j_8.1) fun r3 =>
  some (r3.2, r3.1)

/-- drawref1.snapped -/
noncomputable def ref_snapped (mine1 : (Arr 2 Int)) (others1 : (List (Arr 2 Int))) (reach1 : Int) : Option Int :=
  Option.bind (α := (Int × Bool)) (
    rfor (others1.length : Int) (ref_snapped_L1 mine1 reach1 others1) (0, false)) fun j_1 =>
  some j_1.1

noncomputable def ref_GuideOf_L1 (d1 : Doc) (in1 : (GMap Str Bool)) (i : Int) (s : ((List (Arr 2 Int)) × (List (Arr 2 Int)))) : Option ((List (Arr 2 Int)) × (List (Arr 2 Int))) :=
  need (inR d1.Nodes i) <|
  bnd (gx d1.Nodes i) fun v1 =>
  bif (!decide (v1.Kind = 6)) && (!(in1.getD v1.Id false)) then (
    need (room (s.1.length + [(⟨[W (2 * v1.Box.X), W ((W (2 * v1.Box.X)) + v1.Box.W_), W ((W (2 * v1.Box.X)) + (W (2 * v1.Box.W_)))]⟩ : (Arr 2 Int))].length)) <|
    bnd (s.1 ++ [(⟨[W (2 * v1.Box.X), W ((W (2 * v1.Box.X)) + v1.Box.W_), W ((W (2 * v1.Box.X)) + (W (2 * v1.Box.W_)))]⟩ : (Arr 2 Int))]) fun xs1 =>
    need (room (s.2.length + [(⟨[W (2 * v1.Box.Y), W ((W (2 * v1.Box.Y)) + v1.Box.H), W ((W (2 * v1.Box.Y)) + (W (2 * v1.Box.H)))]⟩ : (Arr 2 Int))].length)) <|
    some (xs1, s.2 ++ [(⟨[W (2 * v1.Box.Y), W ((W (2 * v1.Box.Y)) + v1.Box.H), W ((W (2 * v1.Box.Y)) + (W (2 * v1.Box.H)))]⟩ : (Arr 2 Int))]))
  else (
    some (s.1, s.2))

/-- drawref1.GuideOf -/
noncomputable def ref_GuideOf (d1 : Doc) (ids1 : (List Str)) (dx1 : Int) (dy1 : Int) (reach1 : Int) : Option (Int × Int × Int) :=
  Option.bind (ref_RootBoxes d1 ids1) fun r1 =>
  Option.bind (ref_StepError dx1 dy1) fun r2 =>
  Option.bind (ref_In reach1 0 1000) fun r3 =>
  Option.bind (ref_When (!r3) 3) fun r4 =>
  Option.bind (ref_First [r1.2.2, r2, r4]) fun e1 =>
  bif !decide (e1 = 0) then (
    some (0, 0, e1))
  else (
    Option.bind (ref_Touched d1 ids1) fun in1 =>
    Option.bind (α := ((List (Arr 2 Int)) × (List (Arr 2 Int)))) (
      rfor (d1.Nodes.length : Int) (ref_GuideOf_L1 d1 in1) (([] : List (Arr 2 Int)), ([] : List (Arr 2 Int)))) fun j_8 =>
    bnd (W (2 * (W (r1.2.1.X + dx1)))) fun x1 =>
    bnd (W (2 * (W (r1.2.1.Y + dy1)))) fun y1 =>
    Option.bind (ref_snapped (⟨[x1, W (x1 + r1.2.1.W_), W (x1 + (W (2 * r1.2.1.W_)))]⟩ : (Arr 2 Int)) j_8.1 reach1) fun r5 =>
    Option.bind (ref_snapped (⟨[y1, W (y1 + r1.2.1.H), W (y1 + (W (2 * r1.2.1.H)))]⟩ : (Arr 2 Int)) j_8.2 reach1) fun r6 =>
    some (W (dx1 + r5), W (dy1 + r6), 0))

/-- drawlaw1.pages -/
noncomputable def law_pages  : Option Bool :=
  Option.bind (page_Check (⟨([] : (List DNode)), ([] : (List DEdge))⟩ : Doc)) fun r1 =>
  Option.bind (gd ((decide (r1 = 0))) (page_Check (⟨[(⟨Str.nil, (0 : Int), (⟨(0 : Int), (0 : Int), (0 : Int), (0 : Int)⟩ : Box), Str.nil, Str.nil, Str.nil, false⟩ : DNode)], ([] : (List DEdge))⟩ : Doc))) fun r2 =>
  some ((decide (r1 = 0)) && (decide (r2 = 5)))

/-- drawlaw1.GuidesMatch -/
noncomputable def law_GuidesMatch (d1 : Doc) (ids1 : (List Str)) (dx1 : Int) (dy1 : Int) (reach1 : Int) : Option Bool :=
  Option.bind (page_Guide d1 ids1 dx1 dy1 reach1) fun r1 =>
  Option.bind (law_selected d1 ids1) fun want1 =>
  Option.bind (α := (Int × Int × Int)) (
    bif decide (want1 = 0) then (
      Option.bind (ref_GuideOf d1 ids1 dx1 dy1 reach1) fun r2 =>
      some (r2.2.2, r2.1, r2.2.1))
    else (
      some (want1, 0, 0))) fun j_3 =>
  Option.bind (law_pages) fun r3 =>
  some (((r3 && (decide (r1.2.2 = j_3.1))) && (decide (r1.1 = j_3.2.1))) && (decide (r1.2.1 = j_3.2.2)))


end Go.DB
