/-
  What the functions compute, as plain functions (printed by a program of one's own).
-/
import Derived.Test.YtegjicmejjfgfaaLabTy
set_option maxRecDepth 100000
set_option linter.unusedSimpArgs false
set_option linter.unusedVariables false
namespace Go.DB
open Go Go.RowKit

/-- geom.out -/
noncomputable def geom_out (n1 : Int) : Option Bool :=
  some ((decide (n1 < (-1000000))) || (decide (1000000 < n1)))

/-- geom.CheckPoint -/
noncomputable def geom_CheckPoint (p1 : Point) : Option Int :=
  Option.bind (geom_out p1.X) fun r1 =>
  Option.bind (gd (!r1) (geom_out p1.Y)) fun r2 =>
  bif r1 || r2 then (
    some 3)
  else (
    some 0)

noncomputable def geom_points_L1 (l1 : (List Point)) (i : Int) (s : Unit) : Option (Res Unit (Res Unit Int)) :=
  need (inR l1 i) <|
  bnd (gx l1 i) fun v1 =>
  Option.bind (geom_CheckPoint v1) fun e1 =>
  bif !decide (e1 = 0) then (
    some (Res.ab (Res.ab e1)))
  else (
    some (Res.nx ()))

/-- geom.points -/
noncomputable def geom_points (l1 : (List Point)) : Option Int :=
  bindR (σ := Unit) (ρ := Int) (
    rforE (l1.length : Int) (geom_points_L1 l1) (fun s => Res.nx s) ()) fun j_1 =>
  some 0

/-- geom.CheckPoints -/
noncomputable def geom_CheckPoints (l1 : (List Point)) : Option Int :=
  bif decide (1000 < (l1.length : Int)) then (
    some 4)
  else (
    Option.bind (geom_points l1) fun r1 =>
    some r1)

noncomputable def geom_CheckPath_L1 (l1 : (List Point)) (s5_ : Int) : Option (Step Int (Res Unit Int)) :=
  bif decide (s5_ < (l1.length : Int)) then (
    need (inR l1 s5_) <|
    need (inR l1 (W (s5_ - 1))) <|
    need (inR l1 s5_) <|
    need (inR l1 (W (s5_ - 1))) <|
    bif decide ((decide (((gx l1 s5_).X) = ((gx l1 (W (s5_ - 1))).X))) = (decide (((gx l1 s5_).Y) = ((gx l1 (W (s5_ - 1))).Y)))) then (
      some (Step.done (Res.ab 2)))
    else (
      bnd (W (s5_ + 1)) fun i1 =>
      some (Step.again i1)))
  else (
    some (Step.done (Res.nx ())))

/-- geom.CheckPath -/
noncomputable def geom_CheckPath (l1 : (List Point)) : Option Int :=
  Option.bind (geom_CheckPoints l1) fun e1 =>
  bif !decide (e1 = 0) then (
    some e1)
  else (
    bif decide ((l1.length : Int) < 2) then (
      some 2)
    else (
      bindR (σ := Unit) (ρ := Int) (
        loop (geom_CheckPath_L1 l1) 1) fun j_4 =>
      some 0))

/-- geom.apart -/
noncomputable def geom_apart (a1 : Point) (b1 : Point) : Option Int :=
  bnd (W (a1.X - b1.X)) fun x1 =>
  bnd (W (a1.Y - b1.Y)) fun y1 =>
  some (W ((max x1 (W (-x1))) + (max y1 (W (-y1)))))

noncomputable def geom_length_L1 (l1 : (List Point)) (s2_ : (Int × Int)) : Option (Step (Int × Int) Int) :=
  bif decide (s2_.2 < (l1.length : Int)) then (
    need (inR l1 (W (s2_.2 - 1))) <|
    need (inR l1 s2_.2) <|
    Option.bind (geom_apart (gx l1 (W (s2_.2 - 1))) (gx l1 s2_.2)) fun r1 =>
    bnd (W (s2_.1 + r1)) fun n1 =>
    bnd (W (s2_.2 + 1)) fun i1 =>
    some (Step.again (n1, i1)))
  else (
    some (Step.done s2_.1))

/-- geom.length -/
noncomputable def geom_length (l1 : (List Point)) : Option Int :=
  Option.bind (α := Int) (
    loop (geom_length_L1 l1) (0, 1)) fun j_1 =>
  some j_1

/-- geom.Length -/
noncomputable def geom_Length (l1 : (List Point)) : Option (Int × Int) :=
  Option.bind (geom_CheckPath l1) fun e1 =>
  bif !decide (e1 = 0) then (
    some (0, e1))
  else (
    Option.bind (geom_length l1) fun r1 =>
    some (r1, 0))

/-- geom.CheckBox -/
noncomputable def geom_CheckBox (b1 : Box) : Option Int :=
  Option.bind (geom_out b1.X) fun r1 =>
  Option.bind (gd (!r1) (geom_out b1.Y)) fun r2 =>
  bif ((((r1 || r2) || (decide (b1.W_ < 1))) || (decide (20000 < b1.W_))) || (decide (b1.H < 1))) || (decide (20000 < b1.H)) then (
    some 3)
  else (
    some 0)

/-- route.Label$1 -/
noncomputable def route_Label_1 (d1 : Int) (c0_1 : Int) : Option Int :=
  some (max (W ((W (2 * d1)) - c0_1)) (W (c0_1 - (W (2 * d1)))))

/-- route.heading$1 -/
noncomputable def route_heading_1 (n1 : Int) : Option Int :=
  some (min (max n1 (-1)) 1)

/-- route.heading -/
noncomputable def route_heading (a1 : Point) (b1 : Point) : Option Point :=
  bnd ((⟨(0 : Int), (0 : Int)⟩ : Point)) fun v1 =>
  Option.bind (route_heading_1 (W (b1.X - a1.X))) fun r1 =>
  Option.bind (route_heading_1 (W (b1.Y - a1.Y))) fun r2 =>
  bnd ((⟨r1, r2⟩ : Point)) fun v2 =>
  some v2

noncomputable def route_tag_changes_L1 (r1 : Point) (t1 : Route_tag) (j_3 : (Int × Int × Int)) (i : Int) (s : (List Int)) : Option (List Int) :=
  need (inR t1.walls i) <|
  bnd (gx t1.walls i) fun v1 =>
  Option.bind (α := (Int × Int)) (
    bif decide (r1.X = 0) then (
      some (v1.Y, W (v1.Y + v1.H)))
    else (
      some (v1.X, W (v1.X + v1.W_)))) fun j_13 =>
  need (room (s.length + [W ((W (j_13.1 - j_3.2.2)) + j_3.2.1), W (j_13.2 + j_3.2.1)].length)) <|
  some (s ++ [W ((W (j_13.1 - j_3.2.2)) + j_3.2.1), W (j_13.2 + j_3.2.1)])

noncomputable def route_tag_changes_L2 (r1 : Point) (j_3 : (Int × Int × Int)) (j_7 : (List Int)) (i : Int) (s : (List Int)) : Option (List Int) :=
  need (inR j_7 i) <|
  bnd (W ((W ((gx j_7 i) - j_3.1)) * (W (r1.X + r1.Y)))) fun n1 =>
  need (room (s.length + [W (n1 - 1), n1, W (n1 + 1)].length)) <|
  some (s ++ [W (n1 - 1), n1, W (n1 + 1)])

/-- (route.tag).changes -/
noncomputable def route_tag_changes (t1 : Route_tag) (a1 : Point) (b1 : Point) : Option (List Int) :=
  Option.bind (route_heading a1 b1) fun r1 =>
  bnd (t1.w_.tdiv 2) fun half1 =>
  Option.bind (α := (Int × Int × Int)) (
    bif decide (r1.X = 0) then (
      bnd (t1.h_.tdiv 2) fun half2 =>
      some (a1.Y, half2, t1.h_))
    else (
      some (a1.X, half1, t1.w_))) fun j_3 =>
  bnd ([W ((-1000000) + j_3.2.1), W (1000000 + j_3.2.1)]) fun places1 =>
  Option.bind (α := (List Int)) (
    rfor (t1.walls.length : Int) (route_tag_changes_L1 r1 t1 j_3) places1) fun j_7 =>
  Option.bind (α := (List Int)) (
    rfor (j_7.length : Int) (route_tag_changes_L2 r1 j_3 j_7) ([] : List Int)) fun j_16 =>
  some j_16

/-- route.away -/
noncomputable def route_away (p1 : Point) (d1 : Point) (n1 : Int) : Option Point :=
  bnd ((⟨(0 : Int), (0 : Int)⟩ : Point)) fun v1 =>
  bnd ((⟨W (p1.X + (W (n1 * d1.X))), W (p1.Y + (W (n1 * d1.Y)))⟩ : Point)) fun v2 =>
  some v2

/-- (route.tag).at -/
noncomputable def route_tag_at (t1 : Route_tag) (p1 : Point) : Option Box :=
  bnd ((⟨(0 : Int), (0 : Int), (0 : Int), (0 : Int)⟩ : Box)) fun v1 =>
  bnd ((⟨W (p1.X - (t1.w_.tdiv 2)), W (p1.Y - (t1.h_.tdiv 2)), t1.w_, t1.h_⟩ : Box)) fun v2 =>
  some v2

/-- (route.tag).fits$1 -/
noncomputable def route_tag_fits_1 (w1 : Box) (c0_1 : Box) : Option Bool :=
  some ((((decide (c0_1.X < (W (w1.X + w1.W_)))) && (decide (w1.X < (W (c0_1.X + c0_1.W_))))) && (decide (c0_1.Y < (W (w1.Y + w1.H))))) && (decide (w1.Y < (W (c0_1.Y + c0_1.H)))))

noncomputable def slices_IndexFunc_Box_L1 (f1 : Box → Option Bool) (s1 : (List Box)) (i : Int) (s : Unit) : Option (Res Unit (Res Unit Int)) :=
  need (inR s1 i) <|
  Option.bind (f1 (gx s1 i)) fun r1 =>
  bif r1 then (
    some (Res.ab (Res.ab i)))
  else (
    some (Res.nx ()))

/-- slices.IndexFunc[[]api.Box,api.Box] -/
noncomputable def slices_IndexFunc_Box (s1 : (List Box)) (f1 : Box → Option Bool) : Option Int :=
  bindR (σ := Unit) (ρ := Int) (
    rforE (s1.length : Int) (slices_IndexFunc_Box_L1 f1 s1) (fun s => Res.nx s) ()) fun j_1 =>
  some (-1)

/-- slices.ContainsFunc[[]api.Box,api.Box] -/
noncomputable def slices_ContainsFunc_Box (s1 : (List Box)) (f1 : Box → Option Bool) : Option Bool :=
  Option.bind (slices_IndexFunc_Box s1 f1) fun r1 =>
  some (decide (0 ≤ r1))

/-- (route.tag).fits -/
noncomputable def route_tag_fits (t1 : Route_tag) (p1 : Point) : Option Bool :=
  Option.bind (route_tag_at t1 p1) fun r1 =>
  Option.bind (geom_CheckBox r1) fun r2 =>
  Option.bind (gd ((decide (r2 = 0))) (slices_ContainsFunc_Box t1.walls (fun x0 => route_tag_fits_1 x0 r1))) fun r3 =>
  some ((decide (r2 = 0)) && (!r3))

noncomputable def route_Label_L1 (walls1 : (List Box)) (i : Int) (s : Unit) : Option (Res Unit (Res Unit (Box × Int))) :=
  need (inR walls1 i) <|
  bnd (gx walls1 i) fun v5 =>
  Option.bind (geom_CheckBox v5) fun e1 =>
  bif !decide (e1 = 0) then (
    bnd ((⟨(0 : Int), (0 : Int), (0 : Int), (0 : Int)⟩ : Box)) fun v6 =>
    some (Res.ab (Res.ab (v6, e1))))
  else (
    some (Res.nx ()))

noncomputable def route_Label_L3 (r1 : (Int × Int)) (r2 : (Int × Int)) (r3 : Point) (r4 : (List Int)) (v7 : Route_tag) (v8 : Point) (s21_ : (Int × Bool × Int × Int × Box)) (i : Int) (s : (Int × Bool × Box)) : Option (Int × Bool × Box) :=
  need (inR (r4 ++ [0, r2.1, W ((r1.1.tdiv 2) - s21_.2.2.1), W ((W ((r1.1.tdiv 2) - s21_.2.2.1)) + 1)]) i) <|
  bnd (gx (r4 ++ [0, r2.1, W ((r1.1.tdiv 2) - s21_.2.2.1), W ((W ((r1.1.tdiv 2) - s21_.2.2.1)) + 1)]) i) fun n1 =>
  bif (decide (n1 < 0)) || (decide (r2.1 < n1)) then (
    some (s.1, s.2.1, s.2.2))
  else (
    bnd (W (s21_.2.2.1 + n1)) fun k1 =>
    Option.bind (gd (s.2.1) ((fun x0 => route_Label_1 x0 r1.1) k1)) fun r5 =>
    Option.bind (gd (s.2.1) ((fun x0 => route_Label_1 x0 r1.1) s.1)) fun r6 =>
    Option.bind (gd (s.2.1 && !(decide (r6 < r5))) ((fun x0 => route_Label_1 x0 r1.1) k1)) fun r7 =>
    Option.bind (gd (s.2.1 && !(decide (r6 < r5))) ((fun x0 => route_Label_1 x0 r1.1) s.1)) fun r8 =>
    bif s.2.1 && ((decide (r6 < r5)) || ((decide (r7 = r8)) && (decide (s.1 ≤ k1)))) then (
      some (s.1, s.2.1, s.2.2))
    else (
      Option.bind (route_away v8 r3 n1) fun r9 =>
      Option.bind (route_tag_fits v7 r9) fun r10 =>
      bif r10 then (
        Option.bind (route_tag_at v7 r9) fun r11 =>
        some (k1, true, r11))
      else (
        some (s.1, s.2.1, s.2.2))))

noncomputable def route_Label_L2 (l1 : (List Point)) (r1 : (Int × Int)) (v7 : Route_tag) (s21_ : (Int × Bool × Int × Int × Box)) : Option (Step (Int × Bool × Int × Int × Box) (Bool × Box)) :=
  bif decide (s21_.2.2.2.1 < (l1.length : Int)) then (
    Option.bind (α := (Int × Bool × Int × Box)) (
      need (inR l1 (W (s21_.2.2.2.1 - 1))) <|
      bnd (gx l1 (W (s21_.2.2.2.1 - 1))) fun v8 =>
      need (inR l1 s21_.2.2.2.1) <|
      bnd (gx l1 s21_.2.2.2.1) fun v9 =>
      need (segR l1.length (W (s21_.2.2.2.1 - 1)) (W (s21_.2.2.2.1 + 1))) <|
      Option.bind (geom_Length (seg l1 (W (s21_.2.2.2.1 - 1)) (W (s21_.2.2.2.1 + 1)))) fun r2 =>
      Option.bind (route_heading v8 v9) fun r3 =>
      Option.bind (route_tag_changes v7 v8 v9) fun r4 =>
      need (room (r4.length + [0, r2.1, W ((r1.1.tdiv 2) - s21_.2.2.1), W ((W ((r1.1.tdiv 2) - s21_.2.2.1)) + 1)].length)) <|
      Option.bind (α := (Int × Bool × Box)) (
        rfor ((r4 ++ [0, r2.1, W ((r1.1.tdiv 2) - s21_.2.2.1), W ((W ((r1.1.tdiv 2) - s21_.2.2.1)) + 1)]).length : Int) (route_Label_L3 r1 r2 r3 r4 v7 v8 s21_) (s21_.1, s21_.2.1, s21_.2.2.2.2)) fun j_33 =>
      bnd (W (s21_.2.2.1 + r2.1)) fun along1 =>
      some (j_33.1, j_33.2.1, along1, j_33.2.2)) fun j_23 =>
    bnd (W (s21_.2.2.2.1 + 1)) fun i1 =>
    some (Step.again (j_23.1, j_23.2.1, j_23.2.2.1, i1, j_23.2.2.2)))
  else (
    some (Step.done (s21_.2.1, s21_.2.2.2.2)))

/-- route.Label -/
noncomputable def route_Label (l1 : (List Point)) (w1 : Int) (h1 : Int) (walls1 : (List Box)) : Option (Box × Int) :=
  bnd ((⟨(0 : Int), (0 : Int), (0 : Int), (0 : Int)⟩ : Box)) fun v1 =>
  Option.bind (geom_Length l1) fun r1 =>
  bif !decide (r1.2 = 0) then (
    bnd ((⟨(0 : Int), (0 : Int), (0 : Int), (0 : Int)⟩ : Box)) fun v2 =>
    some (v2, r1.2))
  else (
    bif (((decide (w1 < 1)) || (decide (20000 < w1))) || (decide (h1 < 1))) || (decide (20000 < h1)) then (
      bnd ((⟨(0 : Int), (0 : Int), (0 : Int), (0 : Int)⟩ : Box)) fun v3 =>
      some (v3, 3))
    else (
      bif decide (100 < (walls1.length : Int)) then (
        bnd ((⟨(0 : Int), (0 : Int), (0 : Int), (0 : Int)⟩ : Box)) fun v4 =>
        some (v4, 4))
      else (
        bindR (σ := Unit) (ρ := (Box × Int)) (
          rforE (walls1.length : Int) (route_Label_L1 walls1) (fun s => Res.nx s) ()) fun j_9 =>
        bnd ((⟨w1, h1, walls1⟩ : Route_tag)) fun v7 =>
        bnd ((⟨(0 : Int), (0 : Int), (0 : Int), (0 : Int)⟩ : Box)) fun box1 =>
        Option.bind (α := (Bool × Box)) (
          loop (route_Label_L2 l1 r1 v7) (0, false, 0, 1, box1)) fun j_20 =>
        bif !j_20.1 then (
          bnd ((⟨(0 : Int), (0 : Int), (0 : Int), (0 : Int)⟩ : Box)) fun v10 =>
          some (v10, 10))
        else (
          some (j_20.2, 0)))))

/-- drawref1.In -/
noncomputable def ref_In (n1 : Int) (low1 : Int) (high1 : Int) : Option Bool :=
  some ((decide (low1 ≤ n1)) && (decide (n1 ≤ high1)))

/-- drawref1.When -/
noncomputable def ref_When (is1 : Bool) (e1 : Int) : Option Int :=
  bif is1 then (
    some e1)
  else (
    some 0)

/-- drawref1.PointError -/
noncomputable def ref_PointError (p1 : Point) : Option Int :=
  Option.bind (ref_In p1.X (-1000000) 1000000) fun r1 =>
  Option.bind (gd (!(!r1)) (ref_In p1.Y (-1000000) 1000000)) fun r2 =>
  Option.bind (ref_When ((!r1) || (!r2)) 3) fun r3 =>
  some r3

noncomputable def ref_PointsError_L1 (l1 : (List Point)) (i : Int) (s : Unit) : Option (Res Unit (Res Unit Int)) :=
  need (inR l1 i) <|
  bnd (gx l1 i) fun v1 =>
  Option.bind (ref_PointError v1) fun e1 =>
  bif !decide (e1 = 0) then (
    some (Res.ab (Res.ab e1)))
  else (
    some (Res.nx ()))

/-- drawref1.PointsError -/
noncomputable def ref_PointsError (l1 : (List Point)) : Option Int :=
  bif decide (1000 < (l1.length : Int)) then (
    some 4)
  else (
    bindR (σ := Unit) (ρ := Int) (
      rforE (l1.length : Int) (ref_PointsError_L1 l1) (fun s => Res.nx s) ()) fun j_2 =>
    some 0)

noncomputable def ref_IsRight_L1 (l1 : (List Point)) (s2_ : Int) : Option (Step Int (Res Unit Bool)) :=
  bif decide (s2_ < (l1.length : Int)) then (
    need (inR l1 s2_) <|
    need (inR l1 (W (s2_ - 1))) <|
    need (inR l1 s2_) <|
    need (inR l1 (W (s2_ - 1))) <|
    bif decide ((decide (((gx l1 s2_).X) = ((gx l1 (W (s2_ - 1))).X))) = (decide (((gx l1 s2_).Y) = ((gx l1 (W (s2_ - 1))).Y)))) then (
      some (Step.done (Res.ab false)))
    else (
      bnd (W (s2_ + 1)) fun i1 =>
      some (Step.again i1)))
  else (
    some (Step.done (Res.nx ())))

/-- drawref1.IsRight -/
noncomputable def ref_IsRight (l1 : (List Point)) : Option Bool :=
  bindR (σ := Unit) (ρ := Bool) (
    loop (ref_IsRight_L1 l1) 1) fun j_1 =>
  some (decide (1 < (l1.length : Int)))

noncomputable def ref_First_L1 (l1 : (List Int)) (i : Int) (s : Unit) : Option (Res Unit (Res Unit Int)) :=
  need (inR l1 i) <|
  bnd (gx l1 i) fun e1 =>
  bif !decide (e1 = 0) then (
    some (Res.ab (Res.ab e1)))
  else (
    some (Res.nx ()))

/-- drawref1.First -/
noncomputable def ref_First (l1 : (List Int)) : Option Int :=
  bindR (σ := Unit) (ρ := Int) (
    rforE (l1.length : Int) (ref_First_L1 l1) (fun s => Res.nx s) ()) fun j_1 =>
  some 0

/-- drawref1.PathError -/
noncomputable def ref_PathError (l1 : (List Point)) : Option Int :=
  Option.bind (ref_PointsError l1) fun r1 =>
  Option.bind (ref_IsRight l1) fun r2 =>
  Option.bind (ref_When (!r2) 2) fun r3 =>
  Option.bind (ref_First [r1, r3]) fun r4 =>
  some r4

/-- drawref1.BoxError -/
noncomputable def ref_BoxError (b1 : Box) : Option Int :=
  Option.bind (ref_PointError (⟨b1.X, b1.Y⟩ : Point)) fun r1 =>
  Option.bind (ref_In b1.W_ 1 20000) fun r2 =>
  Option.bind (gd (!(!r2)) (ref_In b1.H 1 20000)) fun r3 =>
  Option.bind (ref_When ((!r2) || (!r3)) 3) fun r4 =>
  Option.bind (ref_First [r1, r4]) fun r5 =>
  some r5

noncomputable def ref_BoxesError_L1 (l1 : (List Box)) (i : Int) (s : Unit) : Option (Res Unit (Res Unit Int)) :=
  need (inR l1 i) <|
  bnd (gx l1 i) fun v1 =>
  Option.bind (ref_BoxError v1) fun e1 =>
  bif !decide (e1 = 0) then (
    some (Res.ab (Res.ab e1)))
  else (
    some (Res.nx ()))

/-- drawref1.BoxesError -/
noncomputable def ref_BoxesError (l1 : (List Box)) : Option Int :=
  bif decide (1000 < (l1.length : Int)) then (
    some 4)
  else (
    bindR (σ := Unit) (ρ := Int) (
      rforE (l1.length : Int) (ref_BoxesError_L1 l1) (fun s => Res.nx s) ()) fun j_2 =>
    some 0)

/-- drawref1.Abs -/
noncomputable def ref_Abs (n1 : Int) : Option Int :=
  some (max n1 (W (-n1)))

/-- drawref1.Far -/
noncomputable def ref_Far (a1 : Point) (b1 : Point) : Option Int :=
  Option.bind (ref_Abs (W (a1.X - b1.X))) fun r1 =>
  Option.bind (ref_Abs (W (a1.Y - b1.Y))) fun r2 =>
  some (W (r1 + r2))

noncomputable def ref_LengthOf_L1 (l1 : (List Point)) (s2_ : (Int × Int)) : Option (Step (Int × Int) Int) :=
  bif decide (s2_.2 < (l1.length : Int)) then (
    need (inR l1 (W (s2_.2 - 1))) <|
    need (inR l1 s2_.2) <|
    Option.bind (ref_Far (gx l1 (W (s2_.2 - 1))) (gx l1 s2_.2)) fun r1 =>
    bnd (W (s2_.1 + r1)) fun n1 =>
    bnd (W (s2_.2 + 1)) fun i1 =>
    some (Step.again (n1, i1)))
  else (
    some (Step.done s2_.1))

/-- drawref1.LengthOf -/
noncomputable def ref_LengthOf (l1 : (List Point)) : Option Int :=
  Option.bind (α := Int) (
    loop (ref_LengthOf_L1 l1) (0, 1)) fun j_1 =>
  some j_1

/-- drawref1.Sign -/
noncomputable def ref_Sign (n1 : Int) : Option Int :=
  some (min (max n1 (-1)) 1)

/-- drawref1.way -/
noncomputable def ref_way (a1 : Point) (b1 : Point) : Option Point :=
  bnd ((⟨(0 : Int), (0 : Int)⟩ : Point)) fun v1 =>
  Option.bind (ref_Sign (W (b1.X - a1.X))) fun r1 =>
  Option.bind (ref_Sign (W (b1.Y - a1.Y))) fun r2 =>
  bnd ((⟨r1, r2⟩ : Point)) fun v2 =>
  some v2

noncomputable def ref_AtOf_L1 (l1 : (List Point)) (s3_ : (Int × Int)) : Option (Step (Int × Int) (Res Unit Point)) :=
  bif decide (s3_.2 < (l1.length : Int)) then (
    need (inR l1 (W (s3_.2 - 1))) <|
    need (inR l1 s3_.2) <|
    Option.bind (ref_Far (gx l1 (W (s3_.2 - 1))) (gx l1 s3_.2)) fun n1 =>
    bif decide (s3_.1 ≤ n1) then (
      need (inR l1 (W (s3_.2 - 1))) <|
      need (inR l1 s3_.2) <|
      Option.bind (ref_way (gx l1 (W (s3_.2 - 1))) (gx l1 s3_.2)) fun r1 =>
      need (inR l1 (W (s3_.2 - 1))) <|
      need (inR l1 (W (s3_.2 - 1))) <|
      bnd ((⟨W (((gx l1 (W (s3_.2 - 1))).X) + (W (s3_.1 * r1.X))), W (((gx l1 (W (s3_.2 - 1))).Y) + (W (s3_.1 * r1.Y)))⟩ : Point)) fun v2 =>
      some (Step.done (Res.ab v2)))
    else (
      bnd (W (s3_.1 - n1)) fun d2 =>
      bnd (W (s3_.2 + 1)) fun i1 =>
      some (Step.again (d2, i1))))
  else (
    some (Step.done (Res.nx ())))

/-- drawref1.AtOf -/
noncomputable def ref_AtOf (l1 : (List Point)) (d1 : Int) : Option Point :=
  bnd ((⟨(0 : Int), (0 : Int)⟩ : Point)) fun v1 =>
  bindR (σ := Unit) (ρ := Point) (
    loop (ref_AtOf_L1 l1) (d1, 1)) fun j_2 =>
  need (inR l1 (W ((l1.length : Int) - 1))) <|
  bnd (gx l1 (W ((l1.length : Int) - 1))) fun v3 =>
  some v3

/-- drawref1.Down -/
noncomputable def ref_Down (a1 : Int) (b1 : Int) : Option Int :=
  need (0 < b1) <|
  bnd (a1.tdiv b1) fun q1 =>
  Option.bind (α := Int) (
    bif decide (a1 < (W (q1 * b1))) then (
      bnd (W (q1 - 1)) fun q2 =>
      some q2)
    else (
      some q1)) fun j_3 =>
  some j_3

/-- drawref1.CommonOf -/
noncomputable def ref_CommonOf (a1 : Box) (b1 : Box) : Option (Box × Bool) :=
  bnd ((⟨(0 : Int), (0 : Int), (0 : Int), (0 : Int)⟩ : Box)) fun v1 =>
  bnd (max a1.X b1.X) fun x1 =>
  bnd (max a1.Y b1.Y) fun y1 =>
  bnd ((⟨x1, y1, W ((min (W (a1.X + a1.W_)) (W (b1.X + b1.W_))) - x1), W ((min (W (a1.Y + a1.H)) (W (b1.Y + b1.H))) - y1)⟩ : Box)) fun v2 =>
  bif (decide (v2.W_ < 1)) || (decide (v2.H < 1)) then (
    bnd ((⟨(0 : Int), (0 : Int), (0 : Int), (0 : Int)⟩ : Box)) fun v3 =>
    some (v3, false))
  else (
    some (v2, true))

/-- drawref1.LabelOf$1 -/
noncomputable def ref_LabelOf_1 (x1 : Box) (c0_1 : Box) : Option Bool :=
  Option.bind (ref_CommonOf c0_1 x1) fun r1 =>
  some r1.2

noncomputable def ref_LabelOf_L1 (h1 : Int) (l1 : (List Point)) (n1 : Int) (w1 : Int) (walls1 : (List Box)) (s5_ : (Bool × Int × Int × Box)) : Option (Step (Bool × Int × Int × Box) (Bool × Box)) :=
  bif decide (s5_.2.2.1 ≤ n1) then (
    Option.bind (α := (Bool × Int × Box)) (
      Option.bind (ref_AtOf l1 s5_.2.2.1) fun r1 =>
      Option.bind (ref_Down w1 2) fun r2 =>
      Option.bind (ref_Down h1 2) fun r3 =>
      bnd ((⟨W (r1.X - r2), W (r1.Y - r3), w1, h1⟩ : Box)) fun v3 =>
      Option.bind (slices_ContainsFunc_Box walls1 (fun x0 => ref_LabelOf_1 x0 v3)) fun meets1 =>
      Option.bind (ref_BoxError v3) fun r4 =>
      bif (!decide (r4 = 0)) || meets1 then (
        some (s5_.1, s5_.2.1, s5_.2.2.2))
      else (
        Option.bind (gd (!(!s5_.1)) (ref_Abs (W ((W (2 * s5_.2.2.1)) - n1)))) fun r5 =>
        Option.bind (gd (!(!s5_.1)) (ref_Abs (W ((W (2 * s5_.2.1)) - n1)))) fun r6 =>
        bif (!s5_.1) || (decide (r5 < r6)) then (
          some (true, s5_.2.2.1, v3))
        else (
          some (s5_.1, s5_.2.1, s5_.2.2.2)))) fun j_7 =>
    bnd (W (s5_.2.2.1 + 1)) fun d1 =>
    some (Step.again (j_7.1, j_7.2.1, d1, j_7.2.2)))
  else (
    some (Step.done (s5_.1, s5_.2.2.2)))

/-- drawref1.LabelOf -/
noncomputable def ref_LabelOf (l1 : (List Point)) (w1 : Int) (h1 : Int) (walls1 : (List Box)) : Option (Box × Bool) :=
  bnd ((⟨(0 : Int), (0 : Int), (0 : Int), (0 : Int)⟩ : Box)) fun v1 =>
  Option.bind (ref_LengthOf l1) fun n1 =>
  bnd ((⟨(0 : Int), (0 : Int), (0 : Int), (0 : Int)⟩ : Box)) fun v2 =>
  Option.bind (α := (Bool × Box)) (
    loop (ref_LabelOf_L1 h1 l1 n1 w1 walls1) (false, 0, 0, v2)) fun j_4 =>
  some (j_4.2, j_4.1)

/-- route.isSide -/
noncomputable def route_isSide (side1 : Int) : Option Bool :=
  some ((decide (1 ≤ side1)) && (decide (side1 ≤ 4)))

/-- route.toward -/
noncomputable def route_toward (side1 : Int) : Option Point :=
  bnd ((⟨(0 : Int), (0 : Int)⟩ : Point)) fun v1 =>
  need (0 ≤ side1 ∧ side1 < (4 + 1 : Nat)) <|
  bnd (gx (⟨[(⟨(0 : Int), (0 : Int)⟩ : Point), (⟨(0 : Int), (-1)⟩ : Point), (⟨1, (0 : Int)⟩ : Point), (⟨(0 : Int), 1⟩ : Point), (⟨(-1), (0 : Int)⟩ : Point)]⟩ : (Arr 4 Point)).l side1) fun v2 =>
  some v2

/-- route.ends -/
noncomputable def route_ends (t1 : Task) : Option (Point × Point) :=
  bnd ((⟨(0 : Int), (0 : Int)⟩ : Point)) fun start1 =>
  bnd ((⟨(0 : Int), (0 : Int)⟩ : Point)) fun end1 =>
  Option.bind (route_toward t1.FromSide) fun r1 =>
  Option.bind (route_away t1.From r1 t1.Clear) fun r2 =>
  Option.bind (route_toward t1.ToSide) fun r3 =>
  Option.bind (route_away t1.To r3 t1.Clear) fun r4 =>
  some (r2, r4)

noncomputable def route_Check_L1 (v1 : (List Anon_p_side)) (i : Int) (s : Unit) : Option (Res Unit (Res Unit Int)) :=
  need (inR v1 i) <|
  bnd (gx v1 i) fun v2 =>
  Option.bind (geom_CheckPoint v2.p) fun e1 =>
  bif !decide (e1 = 0) then (
    some (Res.ab (Res.ab e1)))
  else (
    Option.bind (route_isSide v2.side) fun r1 =>
    bif !r1 then (
      some (Res.ab (Res.ab 3)))
    else (
      some (Res.nx ())))

noncomputable def route_Check_L2 (t1 : Task) (i : Int) (s : Unit) : Option (Res Unit (Res Unit Int)) :=
  need (inR t1.Walls i) <|
  bnd (gx t1.Walls i) fun v3 =>
  Option.bind (geom_CheckBox v3) fun e2 =>
  bif !decide (e2 = 0) then (
    some (Res.ab (Res.ab e2)))
  else (
    some (Res.nx ()))

/-- route.Check -/
noncomputable def route_Check (t1 : Task) : Option Int :=
  bnd ([(⟨t1.From, t1.FromSide⟩ : Anon_p_side), (⟨t1.To, t1.ToSide⟩ : Anon_p_side)]) fun v1 =>
  bindR (σ := Unit) (ρ := Int) (
    rforE (v1.length : Int) (route_Check_L1 v1) (fun s => Res.nx s) ()) fun j_2 =>
  bif decide (100 < (t1.Walls.length : Int)) then (
    some 4)
  else (
    bindR (σ := Unit) (ρ := Int) (
      rforE (t1.Walls.length : Int) (route_Check_L2 t1) (fun s => Res.nx s) ()) fun j_13 =>
    bif (decide (t1.Clear < 1)) || (decide (200 < t1.Clear)) then (
      some 3)
    else (
      Option.bind (route_ends t1) fun r2 =>
      Option.bind (geom_CheckPoint r2.1) fun e3 =>
      bif !decide (e3 = 0) then (
        some e3)
      else (
        Option.bind (geom_CheckPoint r2.2) fun r3 =>
        some r3)))

/-- drawlaw1.routes -/
noncomputable def law_routes  : Option Bool :=
  bnd ((⟨(⟨(0 : Int), (0 : Int)⟩ : Point), 2, (⟨9, (0 : Int)⟩ : Point), 4, ([] : (List Box)), 1⟩ : Task)) fun v1 =>
  Option.bind (route_Check v1) fun r1 =>
  Option.bind (gd ((decide (r1 = 0))) (route_Check (⟨(⟨(0 : Int), (0 : Int)⟩ : Point), (0 : Int), (⟨(0 : Int), (0 : Int)⟩ : Point), (0 : Int), ([] : (List Box)), (0 : Int)⟩ : Task))) fun r2 =>
  some ((decide (r1 = 0)) && (decide (r2 = 3)))

/-- drawlaw1.LabelsMatch$1 -/
noncomputable def law_LabelsMatch_1 (c0_1 : Box) : Option Box :=
  bnd ((⟨(0 : Int), (0 : Int), (0 : Int), (0 : Int)⟩ : Box)) fun v1 =>
  some c0_1

/-- drawlaw1.is[api.Box] -/
noncomputable def law_is_Box (got1 : Box) (e1 : Int) (want1 : Int) (right1 : Option Box) : Option Bool :=
  bif !decide (want1 = 0) then (
    some ((decide (got1 = (⟨(0 : Int), (0 : Int), (0 : Int), (0 : Int)⟩ : Box))) && (decide (e1 = want1))))
  else (
    Option.bind (gd ((decide (e1 = 0))) (right1)) fun r1 =>
    some ((decide (e1 = 0)) && (decide (got1 = r1))))

/-- drawlaw1.LabelsMatch -/
noncomputable def law_LabelsMatch (l1 : (List Point)) (w1 : Int) (h1 : Int) (walls1 : (List Box)) : Option Bool :=
  Option.bind (route_Label l1 w1 h1 walls1) fun r1 =>
  Option.bind (ref_PathError l1) fun r2 =>
  Option.bind (ref_In w1 1 20000) fun r3 =>
  Option.bind (gd (!(!r3)) (ref_In h1 1 20000)) fun r4 =>
  Option.bind (ref_When ((!r3) || (!r4)) 3) fun r5 =>
  Option.bind (ref_When (decide (100 < (walls1.length : Int))) 4) fun r6 =>
  Option.bind (ref_BoxesError walls1) fun r7 =>
  Option.bind (ref_First [r2, r5, r6, r7]) fun want1 =>
  Option.bind (gd ((decide (want1 = 0))) (ref_LengthOf l1)) fun r8 =>
  bif (decide (want1 = 0)) && (decide (3000 < r8)) then (
    some ((decide (r1.2 = 0)) || (decide (r1.2 = 10))))
  else (
    bnd ((⟨(0 : Int), (0 : Int), (0 : Int), (0 : Int)⟩ : Box)) fun right1 =>
    Option.bind (α := (Int × Box)) (
      bif decide (want1 = 0) then (
        Option.bind (ref_LabelOf l1 w1 h1 walls1) fun r9 =>
        Option.bind (ref_When (!r9.2) 10) fun want2 =>
        some (want2, r9.1))
      else (
        some (want1, right1))) fun j_12 =>
    Option.bind (law_routes) fun r10 =>
    Option.bind (gd (r10) (law_is_Box r1.1 r1.2 j_12.1 (law_LabelsMatch_1 j_12.2))) fun r11 =>
    some (r10 && r11))


end Go.DB
