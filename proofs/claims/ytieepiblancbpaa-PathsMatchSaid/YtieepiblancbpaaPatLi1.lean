/-
  What the functions compute, as plain functions (printed by a program of one's own).
-/
import Derived.Test.YtieepiblancbpaaPatTy
set_option maxRecDepth 100000
set_option linter.unusedSimpArgs false
set_option linter.unusedVariables false
namespace Go.DB
open Go Go.RowKit

/-- drawref1.Abs -/
noncomputable def ref_Abs (n1 : Int) : Option Int :=
  some (max n1 (W (-n1)))

/-- drawref1.Far -/
noncomputable def ref_Far (a1 : Point) (b1 : Point) : Option Int :=
  Option.bind (ref_Abs (W (a1.X - b1.X))) fun r1 =>
  Option.bind (ref_Abs (W (a1.Y - b1.Y))) fun r2 =>
  some (W (r1 + r2))

noncomputable def ref_NearestOf_L1 (l1 : (List Point)) (p1 : Point) (s2_ : (Int × Int × Int × Int)) : Option (Step (Int × Int × Int × Int) (Int × Int)) :=
  bif decide (s2_.2.2.2 < (l1.length : Int)) then (
    need (inR l1 (W (s2_.2.2.2 - 1))) <|
    bnd (gx l1 (W (s2_.2.2.2 - 1))) fun v1 =>
    need (inR l1 s2_.2.2.2) <|
    bnd (gx l1 s2_.2.2.2) fun v2 =>
    bnd ((⟨min (max p1.X (min v1.X v2.X)) (max v1.X v2.X), min (max p1.Y (min v1.Y v2.Y)) (max v1.Y v2.Y)⟩ : Point)) fun v3 =>
    Option.bind (ref_Far v3 p1) fun n1 =>
    Option.bind (α := (Int × Int)) (
      bif (decide (s2_.1 < 0)) || (decide (n1 < s2_.1)) then (
        Option.bind (ref_Far v1 v3) fun r1 =>
        some (n1, W (s2_.2.2.1 + r1)))
      else (
        some (s2_.1, s2_.2.1))) fun j_10 =>
    Option.bind (ref_Far v1 v2) fun r2 =>
    bnd (W (s2_.2.2.1 + r2)) fun at1 =>
    bnd (W (s2_.2.2.2 + 1)) fun i1 =>
    some (Step.again (j_10.1, j_10.2, at1, i1)))
  else (
    some (Step.done (s2_.1, s2_.2.1)))

/-- drawref1.NearestOf -/
noncomputable def ref_NearestOf (l1 : (List Point)) (p1 : Point) : Option (Int × Int) :=
  Option.bind (α := (Int × Int)) (
    loop (ref_NearestOf_L1 l1 p1) ((-1), 0, 0, 1)) fun j_1 =>
  some (j_1.1, j_1.2)

noncomputable def ref_First_L1 (l1 : (List Int)) (i : Int) (s : Unit) : Option (Res Unit (Res Unit Int)) :=
  need (inR l1 i) <|
  bnd (gx l1 i) fun e1 =>
  bif !decide (e1 = 0) then (
    some (Res.ab (Res.ab e1)))
  else (
    some (Res.nx ()))

/-- drawref1.First -/
noncomputable def ref_First (l1 : (List Int)) : Option Int :=
  bindR (σ := Unit) (ρ := Int) (
    rforE (l1.length : Int) (ref_First_L1 l1) (fun s => Res.nx s) ()) fun j_1 =>
  some 0

/-- drawref1.When -/
noncomputable def ref_When (is1 : Bool) (e1 : Int) : Option Int :=
  bif is1 then (
    some e1)
  else (
    some 0)

/-- drawref1.In -/
noncomputable def ref_In (n1 : Int) (low1 : Int) (high1 : Int) : Option Bool :=
  some ((decide (low1 ≤ n1)) && (decide (n1 ≤ high1)))

/-- drawref1.PointError -/
noncomputable def ref_PointError (p1 : Point) : Option Int :=
  Option.bind (ref_In p1.X (-1000000) 1000000) fun r1 =>
  Option.bind (gd (!(!r1)) (ref_In p1.Y (-1000000) 1000000)) fun r2 =>
  Option.bind (ref_When ((!r1) || (!r2)) 3) fun r3 =>
  some r3

/-- geom.apart -/
noncomputable def geom_apart (a1 : Point) (b1 : Point) : Option Int :=
  bnd (W (a1.X - b1.X)) fun x1 =>
  bnd (W (a1.Y - b1.Y)) fun y1 =>
  some (W ((max x1 (W (-x1))) + (max y1 (W (-y1)))))

/-- geom.out -/
noncomputable def geom_out (n1 : Int) : Option Bool :=
  some ((decide (n1 < (-1000000))) || (decide (1000000 < n1)))

/-- geom.CheckPoint -/
noncomputable def geom_CheckPoint (p1 : Point) : Option Int :=
  Option.bind (geom_out p1.X) fun r1 =>
  Option.bind (gd (!r1) (geom_out p1.Y)) fun r2 =>
  bif r1 || r2 then (
    some 3)
  else (
    some 0)

noncomputable def geom_points_L1 (l1 : (List Point)) (i : Int) (s : Unit) : Option (Res Unit (Res Unit Int)) :=
  need (inR l1 i) <|
  bnd (gx l1 i) fun v1 =>
  Option.bind (geom_CheckPoint v1) fun e1 =>
  bif !decide (e1 = 0) then (
    some (Res.ab (Res.ab e1)))
  else (
    some (Res.nx ()))

/-- geom.points -/
noncomputable def geom_points (l1 : (List Point)) : Option Int :=
  bindR (σ := Unit) (ρ := Int) (
    rforE (l1.length : Int) (geom_points_L1 l1) (fun s => Res.nx s) ()) fun j_1 =>
  some 0

/-- geom.CheckPoints -/
noncomputable def geom_CheckPoints (l1 : (List Point)) : Option Int :=
  bif decide (1000 < (l1.length : Int)) then (
    some 4)
  else (
    Option.bind (geom_points l1) fun r1 =>
    some r1)

noncomputable def geom_CheckPath_L1 (l1 : (List Point)) (s5_ : Int) : Option (Step Int (Res Unit Int)) :=
  bif decide (s5_ < (l1.length : Int)) then (
    need (inR l1 s5_) <|
    need (inR l1 (W (s5_ - 1))) <|
    need (inR l1 s5_) <|
    need (inR l1 (W (s5_ - 1))) <|
    bif decide ((decide (((gx l1 s5_).X) = ((gx l1 (W (s5_ - 1))).X))) = (decide (((gx l1 s5_).Y) = ((gx l1 (W (s5_ - 1))).Y)))) then (
      some (Step.done (Res.ab 2)))
    else (
      bnd (W (s5_ + 1)) fun i1 =>
      some (Step.again i1)))
  else (
    some (Step.done (Res.nx ())))

/-- geom.CheckPath -/
noncomputable def geom_CheckPath (l1 : (List Point)) : Option Int :=
  Option.bind (geom_CheckPoints l1) fun e1 =>
  bif !decide (e1 = 0) then (
    some e1)
  else (
    bif decide ((l1.length : Int) < 2) then (
      some 2)
    else (
      bindR (σ := Unit) (ρ := Int) (
        loop (geom_CheckPath_L1 l1) 1) fun j_4 =>
      some 0))

noncomputable def geom_Nearest_L1 (l1 : (List Point)) (p1 : Point) (s6_ : (Int × Int × Int × Int)) : Option (Step (Int × Int × Int × Int) (Int × Int)) :=
  bif decide (s6_.2.2.2 < (l1.length : Int)) then (
    need (inR l1 (W (s6_.2.2.2 - 1))) <|
    bnd (gx l1 (W (s6_.2.2.2 - 1))) fun v1 =>
    need (inR l1 s6_.2.2.2) <|
    bnd (gx l1 s6_.2.2.2) fun v2 =>
    bnd ((⟨min (max p1.X (min v1.X v2.X)) (max v1.X v2.X), min (max p1.Y (min v1.Y v2.Y)) (max v1.Y v2.Y)⟩ : Point)) fun v3 =>
    Option.bind (geom_apart p1 v3) fun n1 =>
    Option.bind (α := (Int × Int)) (
      bif (decide (s6_.1 < 0)) || (decide (n1 < s6_.1)) then (
        Option.bind (geom_apart v1 v3) fun r1 =>
        some (n1, W (s6_.2.2.1 + r1)))
      else (
        some (s6_.1, s6_.2.1))) fun j_14 =>
    Option.bind (geom_apart v1 v2) fun r2 =>
    bnd (W (s6_.2.2.1 + r2)) fun along1 =>
    bnd (W (s6_.2.2.2 + 1)) fun i1 =>
    some (Step.again (j_14.1, j_14.2, along1, i1)))
  else (
    some (Step.done (s6_.1, s6_.2.1)))

/-- geom.Nearest -/
noncomputable def geom_Nearest (l1 : (List Point)) (p1 : Point) : Option (Int × Int × Int) :=
  Option.bind (geom_CheckPath l1) fun e1 =>
  bif !decide (e1 = 0) then (
    some (0, 0, e1))
  else (
    Option.bind (geom_CheckPoint p1) fun e2 =>
    bif !decide (e2 = 0) then (
      some (0, 0, e2))
    else (
      Option.bind (α := (Int × Int)) (
        loop (geom_Nearest_L1 l1 p1) ((-1), 0, 0, 1)) fun j_5 =>
      some (j_5.1, j_5.2, 0)))

/-- drawlaw1.is[api.Point] -/
noncomputable def law_is_Point (got1 : Point) (e1 : Int) (want1 : Int) (right1 : Option Point) : Option Bool :=
  bif !decide (want1 = 0) then (
    some ((decide (got1 = (⟨(0 : Int), (0 : Int)⟩ : Point))) && (decide (e1 = want1))))
  else (
    Option.bind (gd ((decide (e1 = 0))) (right1)) fun r1 =>
    some ((decide (e1 = 0)) && (decide (got1 = r1))))

noncomputable def ref_LengthOf_L1 (l1 : (List Point)) (s2_ : (Int × Int)) : Option (Step (Int × Int) Int) :=
  bif decide (s2_.2 < (l1.length : Int)) then (
    need (inR l1 (W (s2_.2 - 1))) <|
    need (inR l1 s2_.2) <|
    Option.bind (ref_Far (gx l1 (W (s2_.2 - 1))) (gx l1 s2_.2)) fun r1 =>
    bnd (W (s2_.1 + r1)) fun n1 =>
    bnd (W (s2_.2 + 1)) fun i1 =>
    some (Step.again (n1, i1)))
  else (
    some (Step.done s2_.1))

/-- drawref1.LengthOf -/
noncomputable def ref_LengthOf (l1 : (List Point)) : Option Int :=
  Option.bind (α := Int) (
    loop (ref_LengthOf_L1 l1) (0, 1)) fun j_1 =>
  some j_1

/-- geom.sign -/
noncomputable def geom_sign (n1 : Int) : Option Int :=
  bif decide (0 < n1) then (
    some 1)
  else (
    bif decide (n1 < 0) then (
      some (-1))
    else (
      some 0))

noncomputable def geom_length_L1 (l1 : (List Point)) (s2_ : (Int × Int)) : Option (Step (Int × Int) Int) :=
  bif decide (s2_.2 < (l1.length : Int)) then (
    need (inR l1 (W (s2_.2 - 1))) <|
    need (inR l1 s2_.2) <|
    Option.bind (geom_apart (gx l1 (W (s2_.2 - 1))) (gx l1 s2_.2)) fun r1 =>
    bnd (W (s2_.1 + r1)) fun n1 =>
    bnd (W (s2_.2 + 1)) fun i1 =>
    some (Step.again (n1, i1)))
  else (
    some (Step.done s2_.1))

/-- geom.length -/
noncomputable def geom_length (l1 : (List Point)) : Option Int :=
  Option.bind (α := Int) (
    loop (geom_length_L1 l1) (0, 1)) fun j_1 =>
  some j_1

/-- geom.Length -/
noncomputable def geom_Length (l1 : (List Point)) : Option (Int × Int) :=
  Option.bind (geom_CheckPath l1) fun e1 =>
  bif !decide (e1 = 0) then (
    some (0, e1))
  else (
    Option.bind (geom_length l1) fun r1 =>
    some (r1, 0))

noncomputable def geom_At_L1 (l1 : (List Point)) (s8_ : (Int × Int)) : Option (Step (Int × Int) (Res Unit (Point × Int))) :=
  bif decide (s8_.2 < (l1.length : Int)) then (
    need (inR l1 (W (s8_.2 - 1))) <|
    bnd (gx l1 (W (s8_.2 - 1))) fun v4 =>
    need (inR l1 s8_.2) <|
    bnd (gx l1 s8_.2) fun v5 =>
    Option.bind (geom_apart v4 v5) fun long1 =>
    bif decide (s8_.1 ≤ long1) then (
      Option.bind (geom_sign (W (v5.X - v4.X))) fun r2 =>
      Option.bind (geom_sign (W (v5.Y - v4.Y))) fun r3 =>
      bnd ((⟨W (v4.X + (W (r2 * s8_.1))), W (v4.Y + (W (r3 * s8_.1)))⟩ : Point)) fun v6 =>
      some (Step.done (Res.ab (v6, 0))))
    else (
      bnd (W (s8_.1 - long1)) fun d2 =>
      bnd (W (s8_.2 + 1)) fun i1 =>
      some (Step.again (d2, i1))))
  else (
    some (Step.done (Res.nx ())))

/-- geom.At -/
noncomputable def geom_At (l1 : (List Point)) (d1 : Int) : Option (Point × Int) :=
  bnd ((⟨(0 : Int), (0 : Int)⟩ : Point)) fun v1 =>
  Option.bind (geom_Length l1) fun r1 =>
  bif !decide (r1.2 = 0) then (
    bnd ((⟨(0 : Int), (0 : Int)⟩ : Point)) fun v2 =>
    some (v2, r1.2))
  else (
    bif (decide (d1 < 0)) || (decide (r1.1 < d1)) then (
      bnd ((⟨(0 : Int), (0 : Int)⟩ : Point)) fun v3 =>
      some (v3, 3))
    else (
      bindR (σ := Unit) (ρ := (Point × Int)) (
        loop (geom_At_L1 l1) (d1, 1)) fun j_7 =>
      need (inR l1 (W ((l1.length : Int) - 1))) <|
      bnd (gx l1 (W ((l1.length : Int) - 1))) fun v7 =>
      some (v7, 0)))

noncomputable def slices_Equal_Point_L1 (s1_1 : (List Point)) (s2_1 : (List Point)) (i : Int) (s : Unit) : Option (Res Unit (Res Unit Bool)) :=
  need (inR s1_1 i) <|
  need (inR s2_1 i) <|
  bif !decide ((gx s1_1 i) = (gx s2_1 i)) then (
    some (Res.ab (Res.ab false)))
  else (
    some (Res.nx ()))

/-- slices.Equal[[]api.Point,api.Point] -/
noncomputable def slices_Equal_Point (s1_1 : (List Point)) (s2_1 : (List Point)) : Option Bool :=
  bif !decide ((s1_1.length : Int) = (s2_1.length : Int)) then (
    some false)
  else (
    bindR (σ := Unit) (ρ := Bool) (
      rforE (s1_1.length : Int) (slices_Equal_Point_L1 s1_1 s2_1) (fun s => Res.nx s) ()) fun j_2 =>
    some true)

/-- drawlaw1.lists[api.Point] -/
noncomputable def law_lists_Point (got1 : (List Point)) (e1 : Int) (want1 : Int) (right1 : Option (List Point)) : Option Bool :=
  bif !decide (want1 = 0) then (
    some ((decide ((got1.length : Int) = 0)) && (decide (e1 = want1))))
  else (
    Option.bind (gd ((decide (e1 = 0))) (right1)) fun r1 =>
    Option.bind (gd ((decide (e1 = 0))) (slices_Equal_Point got1 r1)) fun r2 =>
    some ((decide (e1 = 0)) && r2))

/-- drawlaw1.is[int] -/
noncomputable def law_is_int (got1 : Int) (e1 : Int) (want1 : Int) (right1 : Option Int) : Option Bool :=
  bif !decide (want1 = 0) then (
    some ((decide (got1 = 0)) && (decide (e1 = want1))))
  else (
    Option.bind (gd ((decide (e1 = 0))) (right1)) fun r1 =>
    some ((decide (e1 = 0)) && (decide (got1 = r1))))

noncomputable def ref_PointsError_L1 (l1 : (List Point)) (i : Int) (s : Unit) : Option (Res Unit (Res Unit Int)) :=
  need (inR l1 i) <|
  bnd (gx l1 i) fun v1 =>
  Option.bind (ref_PointError v1) fun e1 =>
  bif !decide (e1 = 0) then (
    some (Res.ab (Res.ab e1)))
  else (
    some (Res.nx ()))

/-- drawref1.PointsError -/
noncomputable def ref_PointsError (l1 : (List Point)) : Option Int :=
  bif decide (1000 < (l1.length : Int)) then (
    some 4)
  else (
    bindR (σ := Unit) (ρ := Int) (
      rforE (l1.length : Int) (ref_PointsError_L1 l1) (fun s => Res.nx s) ()) fun j_2 =>
    some 0)

/-- geom.bend -/
noncomputable def geom_bend (a1 : Point) (b1 : Point) (c1 : Point) : Option Int :=
  Option.bind (geom_sign (W ((W ((W (b1.X - a1.X)) * (W (c1.Y - b1.Y)))) - (W ((W (b1.Y - a1.Y)) * (W (c1.X - b1.X))))))) fun r1 =>
  some r1

/-- geom.Bend -/
noncomputable def geom_Bend (a1 : Point) (b1 : Point) (c1 : Point) : Option (Int × Int) :=
  Option.bind (geom_points [a1, b1, c1]) fun e1 =>
  bif !decide (e1 = 0) then (
    some (0, e1))
  else (
    Option.bind (geom_bend a1 b1 c1) fun r1 =>
    some (r1, 0))

/-- drawlaw1.geoms -/
noncomputable def law_geoms  : Option Bool :=
  Option.bind (geom_Bend (⟨(0 : Int), (0 : Int)⟩ : Point) (⟨1, (0 : Int)⟩ : Point) (⟨1, 1⟩ : Point)) fun r1 =>
  some ((decide (r1.2 = 0)) && (decide (r1.1 = 1)))

noncomputable def geom_Tidy_L1 (l1 : (List Point)) (s6_ : ((List Point) × Int)) : Option (Step ((List Point) × Int) (List Point)) :=
  bif decide (s6_.2 < (W ((l1.length : Int) - 1))) then (
    Option.bind (α := (List Point)) (
      need (inR l1 (W (s6_.2 - 1))) <|
      bnd (gx l1 (W (s6_.2 - 1))) fun v1 =>
      need (inR l1 s6_.2) <|
      bnd (gx l1 s6_.2) fun v2 =>
      need (inR l1 (W (s6_.2 + 1))) <|
      bnd (gx l1 (W (s6_.2 + 1))) fun v3 =>
      Option.bind (geom_sign (W (v2.X - v1.X))) fun r1 =>
      Option.bind (geom_sign (W (v3.X - v2.X))) fun r2 =>
      Option.bind (gd (!(!decide (r1 = r2))) (geom_sign (W (v2.Y - v1.Y)))) fun r3 =>
      Option.bind (gd (!(!decide (r1 = r2))) (geom_sign (W (v3.Y - v2.Y)))) fun r4 =>
      bif (!decide (r1 = r2)) || (!decide (r3 = r4)) then (
        need (room (s6_.1.length + [v2].length)) <|
        some (s6_.1 ++ [v2]))
      else (
        some s6_.1)) fun j_8 =>
    bnd (W (s6_.2 + 1)) fun i1 =>
    some (Step.again (j_8, i1)))
  else (
    some (Step.done s6_.1))

/-- geom.Tidy -/
noncomputable def geom_Tidy (l1 : (List Point)) : Option ((List Point) × Int) :=
  Option.bind (geom_CheckPath l1) fun e1 =>
  bif !decide (e1 = 0) then (
    some (([] : (List Point)), e1))
  else (
    need (inR l1 0) <|
    bnd ([gx l1 0]) fun out1 =>
    Option.bind (α := (List Point)) (
      loop (geom_Tidy_L1 l1) (out1, 1)) fun j_5 =>
    need (inR l1 (W ((l1.length : Int) - 1))) <|
    need (room (j_5.length + [gx l1 (W ((l1.length : Int) - 1))].length)) <|
    some (j_5 ++ [gx l1 (W ((l1.length : Int) - 1))], 0))

noncomputable def geom_Bends_L1 (l1 : (List Point)) (s4_ : (Int × Int)) : Option (Step (Int × Int) Int) :=
  bif decide (s4_.2 < (l1.length : Int)) then (
    Option.bind (α := Int) (
      need (inR l1 (W (s4_.2 - 2))) <|
      need (inR l1 (W (s4_.2 - 1))) <|
      need (inR l1 (W (s4_.2 - 1))) <|
      need (inR l1 s4_.2) <|
      bif !decide ((decide (((gx l1 (W (s4_.2 - 2))).X) = ((gx l1 (W (s4_.2 - 1))).X))) = (decide (((gx l1 (W (s4_.2 - 1))).X) = ((gx l1 s4_.2).X)))) then (
        bnd (W (s4_.1 + 1)) fun n1 =>
        some n1)
      else (
        some s4_.1)) fun j_6 =>
    bnd (W (s4_.2 + 1)) fun i1 =>
    some (Step.again (j_6, i1)))
  else (
    some (Step.done s4_.1))

/-- geom.Bends -/
noncomputable def geom_Bends (l1 : (List Point)) : Option (Int × Int) :=
  Option.bind (geom_CheckPath l1) fun e1 =>
  bif !decide (e1 = 0) then (
    some (0, e1))
  else (
    Option.bind (α := Int) (
      loop (geom_Bends_L1 l1) (0, 2)) fun j_3 =>
    some (j_3, 0))

noncomputable def ref_IsRight_L1 (l1 : (List Point)) (s2_ : Int) : Option (Step Int (Res Unit Bool)) :=
  bif decide (s2_ < (l1.length : Int)) then (
    need (inR l1 s2_) <|
    need (inR l1 (W (s2_ - 1))) <|
    need (inR l1 s2_) <|
    need (inR l1 (W (s2_ - 1))) <|
    bif decide ((decide (((gx l1 s2_).X) = ((gx l1 (W (s2_ - 1))).X))) = (decide (((gx l1 s2_).Y) = ((gx l1 (W (s2_ - 1))).Y)))) then (
      some (Step.done (Res.ab false)))
    else (
      bnd (W (s2_ + 1)) fun i1 =>
      some (Step.again i1)))
  else (
    some (Step.done (Res.nx ())))

/-- drawref1.IsRight -/
noncomputable def ref_IsRight (l1 : (List Point)) : Option Bool :=
  bindR (σ := Unit) (ρ := Bool) (
    loop (ref_IsRight_L1 l1) 1) fun j_1 =>
  some (decide (1 < (l1.length : Int)))

/-- drawref1.PathError -/
noncomputable def ref_PathError (l1 : (List Point)) : Option Int :=
  Option.bind (ref_PointsError l1) fun r1 =>
  Option.bind (ref_IsRight l1) fun r2 =>
  Option.bind (ref_When (!r2) 2) fun r3 =>
  Option.bind (ref_First [r1, r3]) fun r4 =>
  some r4

/-- drawlaw1.PathsMatch$1 -/
noncomputable def law_PathsMatch_1 (c0_1 : (List Point)) : Option Int :=
  Option.bind (ref_LengthOf c0_1) fun r1 =>
  some r1

noncomputable def ref_BendsOf_L1 (l1 : (List Point)) (s2_ : (Int × Int)) : Option (Step (Int × Int) Int) :=
  bif decide ((W (s2_.2 + 1)) < (l1.length : Int)) then (
    Option.bind (α := Int) (
      need (inR l1 (W (s2_.2 - 1))) <|
      need (inR l1 s2_.2) <|
      need (inR l1 s2_.2) <|
      need (inR l1 (W (s2_.2 + 1))) <|
      bif !decide ((decide (((gx l1 (W (s2_.2 - 1))).X) = ((gx l1 s2_.2).X))) = (decide (((gx l1 s2_.2).X) = ((gx l1 (W (s2_.2 + 1))).X)))) then (
        bnd (W (s2_.1 + 1)) fun n1 =>
        some n1)
      else (
        some s2_.1)) fun j_4 =>
    bnd (W (s2_.2 + 1)) fun i1 =>
    some (Step.again (j_4, i1)))
  else (
    some (Step.done s2_.1))

/-- drawref1.BendsOf -/
noncomputable def ref_BendsOf (l1 : (List Point)) : Option Int :=
  Option.bind (α := Int) (
    loop (ref_BendsOf_L1 l1) (0, 1)) fun j_1 =>
  some j_1

/-- drawlaw1.PathsMatch$2 -/
noncomputable def law_PathsMatch_2 (c0_1 : (List Point)) : Option Int :=
  Option.bind (ref_BendsOf c0_1) fun r1 =>
  some r1

/-- drawref1.Sign -/
noncomputable def ref_Sign (n1 : Int) : Option Int :=
  some (min (max n1 (-1)) 1)

/-- drawref1.way -/
noncomputable def ref_way (a1 : Point) (b1 : Point) : Option Point :=
  bnd ((⟨(0 : Int), (0 : Int)⟩ : Point)) fun v1 =>
  Option.bind (ref_Sign (W (b1.X - a1.X))) fun r1 =>
  Option.bind (ref_Sign (W (b1.Y - a1.Y))) fun r2 =>
  bnd ((⟨r1, r2⟩ : Point)) fun v2 =>
  some v2

noncomputable def ref_TidyOf_L1 (l1 : (List Point)) (i : Int) (s : (List Point)) : Option (List Point) :=
  need (inR l1 i) <|
  bnd (gx l1 i) fun v1 =>
  need (((decide (0 < i)) && (decide ((W (i + 1)) < (l1.length : Int)))) = true → inR l1 (W (i - 1))) <|
  Option.bind (gd (((decide (0 < i)) && (decide ((W (i + 1)) < (l1.length : Int))))) (ref_way (gx l1 (W (i - 1))) v1)) fun r1 =>
  need (((decide (0 < i)) && (decide ((W (i + 1)) < (l1.length : Int)))) = true → inR l1 (W (i + 1))) <|
  Option.bind (gd (((decide (0 < i)) && (decide ((W (i + 1)) < (l1.length : Int))))) (ref_way v1 (gx l1 (W (i + 1))))) fun r2 =>
  bif ((decide (0 < i)) && (decide ((W (i + 1)) < (l1.length : Int)))) && (decide (r1 = r2)) then (
    some s)
  else (
    need (room (s.length + [v1].length)) <|
    some (s ++ [v1]))

/-- drawref1.TidyOf -/
noncomputable def ref_TidyOf (l1 : (List Point)) : Option (List Point) :=
  Option.bind (α := (List Point)) (
    rfor (l1.length : Int) (ref_TidyOf_L1 l1) ([] : List Point)) fun j_1 =>
  some j_1

/-- drawlaw1.PathsMatch$3 -/
noncomputable def law_PathsMatch_3 (c0_1 : (List Point)) : Option (List Point) :=
  Option.bind (ref_TidyOf c0_1) fun r1 =>
  some r1

noncomputable def ref_AtOf_L1 (l1 : (List Point)) (s3_ : (Int × Int)) : Option (Step (Int × Int) (Res Unit Point)) :=
  bif decide (s3_.2 < (l1.length : Int)) then (
    need (inR l1 (W (s3_.2 - 1))) <|
    need (inR l1 s3_.2) <|
    Option.bind (ref_Far (gx l1 (W (s3_.2 - 1))) (gx l1 s3_.2)) fun n1 =>
    bif decide (s3_.1 ≤ n1) then (
      need (inR l1 (W (s3_.2 - 1))) <|
      need (inR l1 s3_.2) <|
      Option.bind (ref_way (gx l1 (W (s3_.2 - 1))) (gx l1 s3_.2)) fun r1 =>
      need (inR l1 (W (s3_.2 - 1))) <|
      need (inR l1 (W (s3_.2 - 1))) <|
      bnd ((⟨W (((gx l1 (W (s3_.2 - 1))).X) + (W (s3_.1 * r1.X))), W (((gx l1 (W (s3_.2 - 1))).Y) + (W (s3_.1 * r1.Y)))⟩ : Point)) fun v2 =>
      some (Step.done (Res.ab v2)))
    else (
      bnd (W (s3_.1 - n1)) fun d2 =>
      bnd (W (s3_.2 + 1)) fun i1 =>
      some (Step.again (d2, i1))))
  else (
    some (Step.done (Res.nx ())))

/-- drawref1.AtOf -/
noncomputable def ref_AtOf (l1 : (List Point)) (d1 : Int) : Option Point :=
  bnd ((⟨(0 : Int), (0 : Int)⟩ : Point)) fun v1 =>
  bindR (σ := Unit) (ρ := Point) (
    loop (ref_AtOf_L1 l1) (d1, 1)) fun j_2 =>
  need (inR l1 (W ((l1.length : Int) - 1))) <|
  bnd (gx l1 (W ((l1.length : Int) - 1))) fun v3 =>
  some v3

/-- drawlaw1.PathsMatch$4 -/
noncomputable def law_PathsMatch_4 (c0_1 : (List Point)) (c1_1 : Int) : Option Point :=
  bnd ((⟨(0 : Int), (0 : Int)⟩ : Point)) fun v1 =>
  Option.bind (ref_AtOf c0_1 c1_1) fun r1 =>
  some r1

/-- drawlaw1.PathsMatch -/
noncomputable def law_PathsMatch (l1 : (List Point)) (d1 : Int) (p1 : Point) : Option Bool :=
  Option.bind (ref_PathError l1) fun own1 =>
  Option.bind (geom_Length l1) fun r1 =>
  Option.bind (geom_Bends l1) fun r2 =>
  Option.bind (geom_Tidy l1) fun r3 =>
  Option.bind (law_geoms) fun r4 =>
  Option.bind (gd (!(!r4)) (geom_CheckPoints l1)) fun r5 =>
  Option.bind (gd (!(!r4)) (ref_PointsError l1)) fun r6 =>
  Option.bind (gd (!((!r4) || (!decide (r5 = r6)))) (geom_CheckPath l1)) fun r7 =>
  Option.bind (gd (!(((!r4) || (!decide (r5 = r6))) || (!decide (r7 = own1)))) (law_is_int r1.1 r1.2 own1 (law_PathsMatch_1 l1))) fun r8 =>
  Option.bind (gd (!((((!r4) || (!decide (r5 = r6))) || (!decide (r7 = own1))) || (!r8))) (law_is_int r2.1 r2.2 own1 (law_PathsMatch_2 l1))) fun r9 =>
  Option.bind (gd (!(((((!r4) || (!decide (r5 = r6))) || (!decide (r7 = own1))) || (!r8)) || (!r9))) (law_lists_Point r3.1 r3.2 own1 (law_PathsMatch_3 l1))) fun r10 =>
  bif (((((!r4) || (!decide (r5 = r6))) || (!decide (r7 = own1))) || (!r8)) || (!r9)) || (!r10) then (
    some false)
  else (
    Option.bind (geom_At l1 d1) fun r11 =>
    Option.bind (α := Int) (
      bif decide (own1 = 0) then (
        Option.bind (ref_LengthOf l1) fun r12 =>
        Option.bind (ref_In d1 0 r12) fun r13 =>
        Option.bind (ref_When (!r13) 3) fun want1 =>
        some want1)
      else (
        some own1)) fun j_14 =>
    Option.bind (law_is_Point r11.1 r11.2 j_14 (law_PathsMatch_4 l1 d1)) fun r14 =>
    bif !r14 then (
      some false)
    else (
      Option.bind (geom_Nearest l1 p1) fun r15 =>
      Option.bind (ref_PointError p1) fun r16 =>
      Option.bind (ref_First [own1, r16]) fun want2 =>
      bif !decide (want2 = 0) then (
        some (((decide (r15.1 = 0)) && (decide (r15.2.1 = 0))) && (decide (r15.2.2 = want2))))
      else (
        Option.bind (ref_NearestOf l1 p1) fun r17 =>
        some (((decide (r15.2.2 = 0)) && (decide (r15.1 = r17.1))) && (decide (r15.2.1 = r17.2))))))


end Go.DB
