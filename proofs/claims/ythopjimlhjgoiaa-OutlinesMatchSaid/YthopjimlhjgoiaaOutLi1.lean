/-
  What the functions compute, as plain functions (printed by a program of one's own).
-/
import Derived.Test.YthopjimlhjgoiaaOutTy
set_option maxRecDepth 100000
set_option linter.unusedSimpArgs false
set_option linter.unusedVariables false
namespace Go.DB
open Go Go.RowKit

/-- drawref1.In -/
noncomputable def ref_In (n1 : Int) (low1 : Int) (high1 : Int) : Option Bool :=
  some ((decide (low1 ≤ n1)) && (decide (n1 ≤ high1)))

/-- drawref1.When -/
noncomputable def ref_When (is1 : Bool) (e1 : Int) : Option Int :=
  bif is1 then (
    some e1)
  else (
    some 0)

/-- drawref1.ShapeError -/
noncomputable def ref_ShapeError (kind1 : Int) : Option Int :=
  Option.bind (ref_In kind1 1 5) fun r1 =>
  Option.bind (ref_When (!r1) 1) fun r2 =>
  some r2

/-- drawref1.PointError -/
noncomputable def ref_PointError (p1 : Point) : Option Int :=
  Option.bind (ref_In p1.X (-1000000) 1000000) fun r1 =>
  Option.bind (gd (!(!r1)) (ref_In p1.Y (-1000000) 1000000)) fun r2 =>
  Option.bind (ref_When ((!r1) || (!r2)) 3) fun r3 =>
  some r3

noncomputable def ref_First_L1 (l1 : (List Int)) (i : Int) (s : Unit) : Option (Res Unit (Res Unit Int)) :=
  need (inR l1 i) <|
  bnd (gx l1 i) fun e1 =>
  bif !decide (e1 = 0) then (
    some (Res.ab (Res.ab e1)))
  else (
    some (Res.nx ()))

/-- drawref1.First -/
noncomputable def ref_First (l1 : (List Int)) : Option Int :=
  bindR (σ := Unit) (ρ := Int) (
    rforE (l1.length : Int) (ref_First_L1 l1) (fun s => Res.nx s) ()) fun j_1 =>
  some 0

/-- drawref1.BoxError -/
noncomputable def ref_BoxError (b1 : Box) : Option Int :=
  Option.bind (ref_PointError (⟨b1.X, b1.Y⟩ : Point)) fun r1 =>
  Option.bind (ref_In b1.W_ 1 20000) fun r2 =>
  Option.bind (gd (!(!r2)) (ref_In b1.H 1 20000)) fun r3 =>
  Option.bind (ref_When ((!r2) || (!r3)) 3) fun r4 =>
  Option.bind (ref_First [r1, r4]) fun r5 =>
  some r5

/-- shape.isKind -/
noncomputable def shape_isKind (kind1 : Int) : Option Bool :=
  some ((decide (1 ≤ kind1)) && (decide (kind1 ≤ 5)))

/-- geom.out -/
noncomputable def geom_out (n1 : Int) : Option Bool :=
  some ((decide (n1 < (-1000000))) || (decide (1000000 < n1)))

/-- geom.CheckBox -/
noncomputable def geom_CheckBox (b1 : Box) : Option Int :=
  Option.bind (geom_out b1.X) fun r1 =>
  Option.bind (gd (!r1) (geom_out b1.Y)) fun r2 =>
  bif ((((r1 || r2) || (decide (b1.W_ < 1))) || (decide (20000 < b1.W_))) || (decide (b1.H < 1))) || (decide (20000 < b1.H)) then (
    some 3)
  else (
    some 0)

/-- geom.CheckPoint -/
noncomputable def geom_CheckPoint (p1 : Point) : Option Int :=
  Option.bind (geom_out p1.X) fun r1 =>
  Option.bind (gd (!r1) (geom_out p1.Y)) fun r2 =>
  bif r1 || r2 then (
    some 3)
  else (
    some 0)

/-- shape.than -/
noncomputable def shape_than (n1 : Int) (limit1 : Int) : Option Int :=
  bif decide (n1 < limit1) then (
    some 1)
  else (
    bif decide (n1 = limit1) then (
      some 0)
    else (
      some (-1)))

/-- shape.size -/
noncomputable def shape_size (n1 : Int) : Option Int :=
  some (max n1 (W (-n1)))

/-- shape.has -/
noncomputable def shape_has (kind1 : Int) (b1 : Box) (p1 : Point) : Option Int :=
  bnd (W (p1.X - b1.X)) fun x1 =>
  bnd (W (p1.Y - b1.Y)) fun y1 =>
  bif (((decide (x1 < 0)) || (decide (b1.W_ < x1))) || (decide (y1 < 0))) || (decide (b1.H < y1)) then (
    some (-1))
  else (
    bnd (W ((W (2 * x1)) - b1.W_)) fun u1 =>
    bnd (W ((W (2 * y1)) - b1.H)) fun v1 =>
    Option.bind (α := Int) (
      bif (((decide (x1 = 0)) || (decide (x1 = b1.W_))) || (decide (y1 = 0))) || (decide (y1 = b1.H)) then (
        some 0)
      else (
        some 1)) fun j_6 =>
    bindR (σ := Unit) (ρ := Int) (
      bif decide (kind1 = 3) then (
        Option.bind (shape_than (W ((W ((W ((W (u1 * u1)) * b1.H)) * b1.H)) + (W ((W ((W (v1 * v1)) * b1.W_)) * b1.W_)))) (W ((W ((W (b1.W_ * b1.W_)) * b1.H)) * b1.H))) fun r1 =>
        some (Res.ab r1))
      else (
        bif decide (kind1 = 4) then (
          Option.bind (shape_size u1) fun r2 =>
          Option.bind (shape_size v1) fun r3 =>
          Option.bind (shape_than (W ((W (r2 * b1.H)) + (W (r3 * b1.W_)))) (W (b1.W_ * b1.H))) fun r4 =>
          some (Res.ab r4))
        else (
          bif decide (kind1 = 2) then (
            Option.bind (α := (Int × Int × Int × Int)) (
              bif decide (b1.W_ < b1.H) then (
                some (v1, u1, b1.H, b1.W_))
              else (
                some (u1, v1, b1.W_, b1.H))) fun j_16 =>
            Option.bind (shape_size j_16.1) fun r5 =>
            bnd (max (W (r5 - (W (j_16.2.2.1 - j_16.2.2.2)))) 0) fun m1 =>
            Option.bind (shape_than (W ((W (m1 * m1)) + (W (j_16.2.1 * j_16.2.1)))) (W (j_16.2.2.2 * j_16.2.2.2))) fun r6 =>
            some (Res.ab r6))
          else (
            bif decide (kind1 = 5) then (
              bnd ((min b1.W_ b1.H).tdiv 4) fun n1 =>
              bif decide (n1 = 0) then (
                some (Res.ab j_6))
              else (
                bnd (W ((W ((W (x1 - b1.W_)) + n1)) - y1)) fun k1 =>
                bif decide (0 < k1) then (
                  some (Res.ab (-1)))
                else (
                  bif decide (k1 = 0) then (
                    some (Res.ab 0))
                  else (
                    some (Res.nx ())))))
            else (
              some (Res.nx ())))))) fun j_8 =>
    some j_6)

/-- shape.Has -/
noncomputable def shape_Has (kind1 : Int) (b1 : Box) (p1 : Point) : Option (Int × Int) :=
  Option.bind (shape_isKind kind1) fun r1 =>
  bif !r1 then (
    some (0, 1))
  else (
    Option.bind (geom_CheckBox b1) fun e1 =>
    bif !decide (e1 = 0) then (
      some (0, e1))
    else (
      Option.bind (geom_CheckPoint p1) fun e2 =>
      bif !decide (e2 = 0) then (
        some (0, e2))
      else (
        Option.bind (shape_has kind1 b1 p1) fun r2 =>
        some (r2, 0))))

noncomputable def shape_CheckFont_L1 (v1 : (List Int)) (i : Int) (s : Unit) : Option (Res Unit (Res Unit Int)) :=
  need (inR v1 i) <|
  bnd (gx v1 i) fun n1 =>
  bif (decide (n1 < 1)) || (decide (200 < n1)) then (
    some (Res.ab (Res.ab 3)))
  else (
    some (Res.nx ()))

/-- shape.CheckFont -/
noncomputable def shape_CheckFont (f1 : Font) : Option Int :=
  bnd ([f1.Line, f1.Narrow, f1.Normal, f1.Wide]) fun v1 =>
  bindR (σ := Unit) (ρ := Int) (
    rforE (v1.length : Int) (shape_CheckFont_L1 v1) (fun s => Res.nx s) ()) fun j_2 =>
  bif (decide (f1.Normal < f1.Narrow)) || (decide (f1.Wide < f1.Normal)) then (
    some 7)
  else (
    some 0)

/-- drawlaw1.shapes -/
noncomputable def law_shapes  : Option Bool :=
  Option.bind (shape_CheckFont (⟨1, 1, 1, 1⟩ : Font)) fun r1 =>
  Option.bind (gd ((decide (r1 = 0))) (shape_CheckFont (⟨(0 : Int), (0 : Int), (0 : Int), (0 : Int)⟩ : Font))) fun r2 =>
  some ((decide (r1 = 0)) && (decide (r2 = 3)))

/-- drawref1.Sign -/
noncomputable def ref_Sign (n1 : Int) : Option Int :=
  some (min (max n1 (-1)) 1)

/-- drawref1.HasOf$1 -/
noncomputable def ref_HasOf_1 (n1 : Int) (most1 : Int) : Option Int :=
  Option.bind (ref_Sign (W (most1 - n1))) fun r1 =>
  some r1

/-- drawref1.Abs -/
noncomputable def ref_Abs (n1 : Int) : Option Int :=
  some (max n1 (W (-n1)))

/-- drawref1.HasOf -/
noncomputable def ref_HasOf (kind1 : Int) (b1 : Box) (p1 : Point) : Option Int :=
  bnd (W ((W (2 * (W (p1.X - b1.X)))) - b1.W_)) fun u1 =>
  bnd (W ((W (2 * (W (p1.Y - b1.Y)))) - b1.H)) fun v1 =>
  Option.bind (ref_Abs u1) fun r1 =>
  Option.bind (gd (!(decide (b1.W_ < r1))) (ref_Abs v1)) fun r2 =>
  bif (decide (b1.W_ < r1)) || (decide (b1.H < r2)) then (
    some (-1))
  else (
    Option.bind (ref_Abs u1) fun r3 =>
    Option.bind (gd (!(decide (r3 = b1.W_))) (ref_Abs v1)) fun r4 =>
    Option.bind (α := Int) (
      bif (decide (r3 = b1.W_)) || (decide (r4 = b1.H)) then (
        some 0)
      else (
        some 1)) fun j_8 =>
    bindR (σ := Unit) (ρ := Int) (
      bif decide (kind1 = 3) then (
        Option.bind (ref_HasOf_1 (W ((W ((W ((W (u1 * u1)) * b1.H)) * b1.H)) + (W ((W ((W (v1 * v1)) * b1.W_)) * b1.W_)))) (W ((W ((W (b1.W_ * b1.W_)) * b1.H)) * b1.H))) fun r5 =>
        some (Res.ab r5))
      else (
        bif decide (kind1 = 4) then (
          Option.bind (ref_Abs u1) fun r6 =>
          Option.bind (ref_Abs v1) fun r7 =>
          Option.bind (ref_HasOf_1 (W ((W (r6 * b1.H)) + (W (r7 * b1.W_)))) (W (b1.W_ * b1.H))) fun r8 =>
          some (Res.ab r8))
        else (
          bif decide (kind1 = 2) then (
            Option.bind (α := (Int × Int × Int × Int)) (
              bif decide (b1.W_ < b1.H) then (
                some (v1, u1, b1.H, b1.W_))
              else (
                some (u1, v1, b1.W_, b1.H))) fun j_18 =>
            Option.bind (ref_Abs j_18.1) fun r9 =>
            bnd (max (W (r9 - (W (j_18.2.2.1 - j_18.2.2.2)))) 0) fun s1 =>
            Option.bind (ref_HasOf_1 (W ((W (s1 * s1)) + (W (j_18.2.1 * j_18.2.1)))) (W (j_18.2.2.2 * j_18.2.2.2))) fun r10 =>
            some (Res.ab r10))
          else (
            bif decide (kind1 = 5) then (
              bnd ((min b1.W_ b1.H).tdiv 4) fun n1 =>
              bnd (W ((W ((W ((W (p1.X - b1.X)) - b1.W_)) + n1)) - (W (p1.Y - b1.Y)))) fun d1 =>
              bif (decide (0 < d1)) && (decide (0 < n1)) then (
                some (Res.ab (-1)))
              else (
                bif (decide (d1 = 0)) && (decide (0 < n1)) then (
                  some (Res.ab 0))
                else (
                  some (Res.nx ()))))
            else (
              some (Res.nx ())))))) fun j_10 =>
    some j_8)

/-- drawlaw1.OutlinesMatch$1 -/
noncomputable def law_OutlinesMatch_1 (c0_1 : Int) (c1_1 : Box) (c2_1 : Point) : Option Int :=
  Option.bind (ref_HasOf c0_1 c1_1 c2_1) fun r1 =>
  some r1

/-- drawlaw1.is[int] -/
noncomputable def law_is_int (got1 : Int) (e1 : Int) (want1 : Int) (right1 : (Option Int)) : Option Bool :=
  bif !decide (want1 = 0) then (
    some ((decide (got1 = 0)) && (decide (e1 = want1))))
  else (
    Option.bind (gd ((decide (e1 = 0))) (right1)) fun r1 =>
    some ((decide (e1 = 0)) && (decide (got1 = r1))))

/-- shape.Port$1 -/
noncomputable def shape_Port_1 (p1 : Point) (c0_1 : Int) (c1_1 : Box) : Option Bool :=
  Option.bind (shape_has c0_1 c1_1 p1) fun r1 =>
  some (decide (0 ≤ r1))

/-- shape.Port$2 -/
noncomputable def shape_Port_2 (n1 : Int) (c0_1 : (Point → Option Bool)) (c1_1 : Point) : Option Bool :=
  Option.bind (c0_1 (⟨c1_1.X, n1⟩ : Point)) fun r1 =>
  some r1

noncomputable def shape_edge_L1 (j_1 : Int) (to1 : Int) (holds1 : (Int → Option Bool)) (s3_ : Int) : Option (Step Int (Int × Bool)) :=
  Option.bind (holds1 s3_) fun r1 =>
  bif r1 then (
    some (Step.done (s3_, true)))
  else (
    bif decide (s3_ = to1) then (
      some (Step.done (0, false)))
    else (
      bnd (W (s3_ + j_1)) fun n1 =>
      some (Step.again n1)))

/-- shape.edge -/
noncomputable def shape_edge (from1 : Int) (to1 : Int) (holds1 : (Int → Option Bool)) : Option (Int × Bool) :=
  Option.bind (α := Int) (
    bif decide (to1 < from1) then (
      some (-1))
    else (
      some 1)) fun j_1 =>
  loop (shape_edge_L1 j_1 to1 holds1) from1

/-- shape.Port$3 -/
noncomputable def shape_Port_3 (n1 : Int) (c0_1 : (Point → Option Bool)) (c1_1 : Point) : Option Bool :=
  Option.bind (c0_1 (⟨n1, c1_1.Y⟩ : Point)) fun r1 =>
  some r1

/-- shape.Port -/
noncomputable def shape_Port (kind1 : Int) (b1 : Box) (side1 : Int) (at1 : Int) : Option (Point × Int) :=
  bnd ((⟨(0 : Int), (0 : Int)⟩ : Point)) fun v1 =>
  Option.bind (shape_isKind kind1) fun r1 =>
  bif !r1 then (
    bnd ((⟨(0 : Int), (0 : Int)⟩ : Point)) fun v2 =>
    some (v2, 1))
  else (
    Option.bind (geom_CheckBox b1) fun e1 =>
    bif !decide (e1 = 0) then (
      bnd ((⟨(0 : Int), (0 : Int)⟩ : Point)) fun v3 =>
      some (v3, e1))
    else (
      bif (((decide (side1 < 1)) || (decide (4 < side1))) || (decide (at1 < 0))) || (decide (1000 < at1)) then (
        bnd ((⟨(0 : Int), (0 : Int)⟩ : Point)) fun v4 =>
        some (v4, 3))
      else (
        bnd ((⟨W (b1.X + ((W (b1.W_ * at1)).tdiv 1000)), W (b1.Y + ((W (b1.H * at1)).tdiv 1000))⟩ : Point)) fun v5 =>
        bif (decide (side1 = 1)) || (decide (side1 = 3)) then (
          bnd (W (b1.Y + b1.H)) fun to1 =>
          Option.bind (α := (Int × Int)) (
            bif decide (side1 = 3) then (
              some (to1, b1.Y))
            else (
              some (b1.Y, to1))) fun j_13 =>
          Option.bind (shape_edge j_13.1 j_13.2 (fun x0 => shape_Port_2 x0 (fun x0 => shape_Port_1 x0 kind1 b1) v5)) fun r2 =>
          Option.bind (α := Int) (
            bif !r2.2 then (
              some (W (b1.Y + (b1.H.tdiv 2))))
            else (
              some r2.1)) fun j_16 =>
          bnd ((⟨v5.X, j_16⟩ : Point)) fun v6 =>
          some (v6, 0))
        else (
          bnd (W (b1.X + b1.W_)) fun to2 =>
          Option.bind (α := (Int × Int)) (
            bif decide (side1 = 2) then (
              some (to2, b1.X))
            else (
              some (b1.X, to2))) fun j_20 =>
          Option.bind (shape_edge j_20.1 j_20.2 (fun x0 => shape_Port_3 x0 (fun x0 => shape_Port_1 x0 kind1 b1) v5)) fun r3 =>
          Option.bind (α := Int) (
            bif !r3.2 then (
              some (W (b1.X + (b1.W_.tdiv 2))))
            else (
              some r3.1)) fun j_23 =>
          bnd ((⟨j_23, v5.Y⟩ : Point)) fun v7 =>
          some (v7, 0)))))

/-- drawref1.PortError -/
noncomputable def ref_PortError (side1 : Int) (at1 : Int) : Option Int :=
  Option.bind (ref_In side1 1 4) fun r1 =>
  Option.bind (gd (!(!r1)) (ref_In at1 0 1000)) fun r2 =>
  Option.bind (ref_When ((!r1) || (!r2)) 3) fun r3 =>
  some r3

/-- drawref1.Down -/
noncomputable def ref_Down (a1 : Int) (b1 : Int) : Option Int :=
  need (0 < b1) <|
  bnd (a1.tdiv b1) fun q1 =>
  Option.bind (α := Int) (
    bif decide (a1 < (W (q1 * b1))) then (
      bnd (W (q1 - 1)) fun q2 =>
      some q2)
    else (
      some q1)) fun j_3 =>
  some j_3

noncomputable def ref_PortOf_L1 (b1 : Box) (x1 : Int) (kind1 : Int) (s8_ : Int) : Option (Step Int (Res Unit Point)) :=
  bif decide (s8_ ≤ (W (b1.Y + b1.H))) then (
    bnd ((⟨x1, s8_⟩ : Point)) fun v2 =>
    Option.bind (ref_HasOf kind1 b1 v2) fun r3 =>
    bif decide (0 ≤ r3) then (
      some (Step.done (Res.ab v2)))
    else (
      bnd (W (s8_ + 1)) fun k1 =>
      some (Step.again k1)))
  else (
    some (Step.done (Res.nx ())))

noncomputable def ref_PortOf_L2 (b1 : Box) (x1 : Int) (kind1 : Int) (s16_ : Int) : Option (Step Int (Res Unit Point)) :=
  bif decide (b1.Y ≤ s16_) then (
    bnd ((⟨x1, s16_⟩ : Point)) fun v3 =>
    Option.bind (ref_HasOf kind1 b1 v3) fun r4 =>
    bif decide (0 ≤ r4) then (
      some (Step.done (Res.ab v3)))
    else (
      bnd (W (s16_ - 1)) fun k3 =>
      some (Step.again k3)))
  else (
    some (Step.done (Res.nx ())))

noncomputable def ref_PortOf_L3 (b1 : Box) (y1 : Int) (kind1 : Int) (s23_ : Int) : Option (Step Int (Res Unit Point)) :=
  bif decide (s23_ ≤ (W (b1.X + b1.W_))) then (
    bnd ((⟨s23_, y1⟩ : Point)) fun v4 =>
    Option.bind (ref_HasOf kind1 b1 v4) fun r5 =>
    bif decide (0 ≤ r5) then (
      some (Step.done (Res.ab v4)))
    else (
      bnd (W (s23_ + 1)) fun k4 =>
      some (Step.again k4)))
  else (
    some (Step.done (Res.nx ())))

noncomputable def ref_PortOf_L4 (b1 : Box) (y1 : Int) (kind1 : Int) (s30_ : Int) : Option (Step Int (Res Unit Point)) :=
  bif decide (b1.X ≤ s30_) then (
    bnd ((⟨s30_, y1⟩ : Point)) fun v5 =>
    Option.bind (ref_HasOf kind1 b1 v5) fun r6 =>
    bif decide (0 ≤ r6) then (
      some (Step.done (Res.ab v5)))
    else (
      bnd (W (s30_ - 1)) fun k6 =>
      some (Step.again k6)))
  else (
    some (Step.done (Res.nx ())))

/-- drawref1.PortOf -/
noncomputable def ref_PortOf (kind1 : Int) (b1 : Box) (side1 : Int) (at1 : Int) : Option Point :=
  bnd ((⟨(0 : Int), (0 : Int)⟩ : Point)) fun v1 =>
  Option.bind (ref_Down (W (b1.W_ * at1)) 1000) fun r1 =>
  Option.bind (ref_Down (W (b1.H * at1)) 1000) fun r2 =>
  bnd (W (b1.X + r1)) fun x1 =>
  bnd (W (b1.Y + r2)) fun y1 =>
  bindR (σ := Unit) (ρ := Point) (
    bif decide (side1 = 1) then (
      loop (ref_PortOf_L1 b1 x1 kind1) b1.Y)
    else (
      bif decide (side1 = 3) then (
        bnd (W (b1.Y + b1.H)) fun k2 =>
        loop (ref_PortOf_L2 b1 x1 kind1) k2)
      else (
        bif decide (side1 = 4) then (
          loop (ref_PortOf_L3 b1 y1 kind1) b1.X)
        else (
          bnd (W (b1.X + b1.W_)) fun k5 =>
          loop (ref_PortOf_L4 b1 y1 kind1) k5)))) fun j_6 =>
  bif (decide (side1 = 1)) || (decide (side1 = 3)) then (
    Option.bind (ref_Down b1.H 2) fun r7 =>
    bnd ((⟨x1, W (b1.Y + r7)⟩ : Point)) fun v6 =>
    some v6)
  else (
    Option.bind (ref_Down b1.W_ 2) fun r8 =>
    bnd ((⟨W (b1.X + r8), y1⟩ : Point)) fun v7 =>
    some v7)

/-- drawlaw1.OutlinesMatch$2 -/
noncomputable def law_OutlinesMatch_2 (c0_1 : Int) (c1_1 : Box) (c2_1 : Int) (c3_1 : Int) : Option Point :=
  bnd ((⟨(0 : Int), (0 : Int)⟩ : Point)) fun v1 =>
  Option.bind (ref_PortOf c0_1 c1_1 c2_1 c3_1) fun r1 =>
  some r1

/-- drawlaw1.is[api.Point] -/
noncomputable def law_is_Point (got1 : Point) (e1 : Int) (want1 : Int) (right1 : (Option Point)) : Option Bool :=
  bif !decide (want1 = 0) then (
    some ((decide (got1 = (⟨(0 : Int), (0 : Int)⟩ : Point))) && (decide (e1 = want1))))
  else (
    Option.bind (gd ((decide (e1 = 0))) (right1)) fun r1 =>
    some ((decide (e1 = 0)) && (decide (got1 = r1))))

noncomputable def geom_boxes_L1 (l1 : (List Box)) (i : Int) (s : Unit) : Option (Res Unit (Res Unit Int)) :=
  need (inR l1 i) <|
  bnd (gx l1 i) fun v1 =>
  Option.bind (geom_CheckBox v1) fun e1 =>
  bif !decide (e1 = 0) then (
    some (Res.ab (Res.ab e1)))
  else (
    some (Res.nx ()))

/-- geom.boxes -/
noncomputable def geom_boxes (l1 : (List Box)) : Option Int :=
  bindR (σ := Unit) (ρ := Int) (
    rforE (l1.length : Int) (geom_boxes_L1 l1) (fun s => Res.nx s) ()) fun j_1 =>
  some 0

/-- geom.Gap -/
noncomputable def geom_Gap (a1 : Box) (b1 : Box) : Option (Int × Int × Int) :=
  Option.bind (geom_boxes [a1, b1]) fun e1 =>
  bif !decide (e1 = 0) then (
    some (0, 0, e1))
  else (
    some (max (W ((max a1.X b1.X) - (min (W (a1.X + a1.W_)) (W (b1.X + b1.W_))))) 0, max (W ((max a1.Y b1.Y) - (min (W (a1.Y + a1.H)) (W (b1.Y + b1.H))))) 0, 0))

/-- shape.Facing -/
noncomputable def shape_Facing (a1 : Box) (b1 : Box) : Option (Int × Int × Int) :=
  Option.bind (geom_Gap a1 b1) fun r1 =>
  bif !decide (r1.2.2 = 0) then (
    some (0, 0, r1.2.2))
  else (
    bif ((!decide (r1.1 = 0)) && (decide (r1.2.1 ≤ r1.1))) && (decide (a1.X < b1.X)) then (
      some (2, 4, 0))
    else (
      bif (!decide (r1.1 = 0)) && (decide (r1.2.1 ≤ r1.1)) then (
        some (4, 2, 0))
      else (
        bif (!decide (r1.2.1 = 0)) && (decide (a1.Y < b1.Y)) then (
          some (3, 1, 0))
        else (
          bif !decide (r1.2.1 = 0) then (
            some (1, 3, 0))
          else (
            some (1, 1, 0))))))

/-- drawref1.GapOf -/
noncomputable def ref_GapOf (a1 : Box) (b1 : Box) : Option (Int × Int) :=
  some (max (max 0 (W ((W (b1.X - a1.X)) - a1.W_))) (W ((W (a1.X - b1.X)) - b1.W_)), max (max 0 (W ((W (b1.Y - a1.Y)) - a1.H))) (W ((W (a1.Y - b1.Y)) - b1.H)))

/-- drawref1.FacingOf -/
noncomputable def ref_FacingOf (a1 : Box) (b1 : Box) : Option (Int × Int) :=
  Option.bind (ref_GapOf a1 b1) fun r1 =>
  bif ((decide (0 < r1.1)) && (decide (r1.2 ≤ r1.1))) && (decide (a1.X < b1.X)) then (
    some (2, 4))
  else (
    bif (decide (0 < r1.1)) && (decide (r1.2 ≤ r1.1)) then (
      some (4, 2))
    else (
      bif (decide (0 < r1.2)) && (decide (a1.Y < b1.Y)) then (
        some (3, 1))
      else (
        bif decide (0 < r1.2) then (
          some (1, 3))
        else (
          some (1, 1)))))

/-- drawlaw1.OutlinesMatch -/
noncomputable def law_OutlinesMatch (kind1 : Int) (b1 : Box) (c1 : Box) (p1 : Point) (side1 : Int) (at1 : Int) : Option Bool :=
  Option.bind (ref_ShapeError kind1) fun r1 =>
  Option.bind (ref_BoxError b1) fun r2 =>
  Option.bind (ref_First [r1, r2]) fun own1 =>
  Option.bind (shape_Has kind1 b1 p1) fun r3 =>
  Option.bind (law_shapes) fun r4 =>
  Option.bind (gd (!(!r4)) (ref_PointError p1)) fun r5 =>
  Option.bind (gd (!(!r4)) (ref_First [own1, r5])) fun r6 =>
  Option.bind (gd (!(!r4)) (law_is_int r3.1 r3.2 r6 (law_OutlinesMatch_1 kind1 b1 p1))) fun r7 =>
  bif (!r4) || (!r7) then (
    some false)
  else (
    Option.bind (shape_Port kind1 b1 side1 at1) fun r8 =>
    Option.bind (ref_PortError side1 at1) fun r9 =>
    Option.bind (ref_First [own1, r9]) fun r10 =>
    Option.bind (law_is_Point r8.1 r8.2 r10 (law_OutlinesMatch_2 kind1 b1 side1 at1)) fun r11 =>
    bif !r11 then (
      some false)
    else (
      Option.bind (shape_Facing b1 c1) fun r12 =>
      Option.bind (ref_BoxError b1) fun r13 =>
      Option.bind (ref_BoxError c1) fun r14 =>
      Option.bind (ref_First [r13, r14]) fun want1 =>
      bif !decide (want1 = 0) then (
        some (((decide (r12.1 = 0)) && (decide (r12.2.1 = 0))) && (decide (r12.2.2 = want1))))
      else (
        Option.bind (ref_FacingOf b1 c1) fun r15 =>
        some (((decide (r12.2.2 = 0)) && (decide (r12.1 = r15.1))) && (decide (r12.2.1 = r15.2))))))


end Go.DB
