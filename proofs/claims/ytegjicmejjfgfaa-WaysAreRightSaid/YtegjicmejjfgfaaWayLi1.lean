/-
  What the functions compute, as plain functions (printed by a program of one's own).
-/
import Derived.Test.YtegjicmejjfgfaaWayTy
set_option maxRecDepth 100000
set_option linter.unusedSimpArgs false
set_option linter.unusedVariables false
namespace Go.DB
open Go Go.RowKit

/-- slices.Compact[[]int,int] -/
noncomputable def slices_Compact_int (l : List Int) : Option (List Int) := need ((l.length : Int) < 4611686018427387904) (some (compactI l))

/-- slices.Sort[[]int,int] -/
noncomputable def slices_Sort_int (l : List Int) : Option (List Int) := need ((l.length : Int) < 4611686018427387904) (some (sortI l))

/-- drawref1.In -/
noncomputable def ref_In (n1 : Int) (low1 : Int) (high1 : Int) : Option Bool :=
  some ((decide (low1 ≤ n1)) && (decide (n1 ≤ high1)))

/-- drawref1.When -/
noncomputable def ref_When (is1 : Bool) (e1 : Int) : Option Int :=
  bif is1 then (
    some e1)
  else (
    some 0)

/-- drawref1.PointError -/
noncomputable def ref_PointError (p1 : Point) : Option Int :=
  Option.bind (ref_In p1.X (-1000000) 1000000) fun r1 =>
  Option.bind (gd (!(!r1)) (ref_In p1.Y (-1000000) 1000000)) fun r2 =>
  Option.bind (ref_When ((!r1) || (!r2)) 3) fun r3 =>
  some r3

/-- drawref1.sideError -/
noncomputable def ref_sideError (side1 : Int) : Option Int :=
  Option.bind (ref_In side1 1 4) fun r1 =>
  Option.bind (ref_When (!r1) 3) fun r2 =>
  some r2

noncomputable def ref_First_L1 (l1 : (List Int)) (i : Int) (s : Unit) : Option (Res Unit (Res Unit Int)) :=
  need (inR l1 i) <|
  bnd (gx l1 i) fun e1 =>
  bif !decide (e1 = 0) then (
    some (Res.ab (Res.ab e1)))
  else (
    some (Res.nx ()))

/-- drawref1.First -/
noncomputable def ref_First (l1 : (List Int)) : Option Int :=
  bindR (σ := Unit) (ρ := Int) (
    rforE (l1.length : Int) (ref_First_L1 l1) (fun s => Res.nx s) ()) fun j_1 =>
  some 0

/-- drawref1.BoxError -/
noncomputable def ref_BoxError (b1 : Box) : Option Int :=
  Option.bind (ref_PointError (⟨b1.X, b1.Y⟩ : Point)) fun r1 =>
  Option.bind (ref_In b1.W_ 1 20000) fun r2 =>
  Option.bind (gd (!(!r2)) (ref_In b1.H 1 20000)) fun r3 =>
  Option.bind (ref_When ((!r2) || (!r3)) 3) fun r4 =>
  Option.bind (ref_First [r1, r4]) fun r5 =>
  some r5

noncomputable def ref_BoxesError_L1 (l1 : (List Box)) (i : Int) (s : Unit) : Option (Res Unit (Res Unit Int)) :=
  need (inR l1 i) <|
  bnd (gx l1 i) fun v1 =>
  Option.bind (ref_BoxError v1) fun e1 =>
  bif !decide (e1 = 0) then (
    some (Res.ab (Res.ab e1)))
  else (
    some (Res.nx ()))

/-- drawref1.BoxesError -/
noncomputable def ref_BoxesError (l1 : (List Box)) : Option Int :=
  bif decide (1000 < (l1.length : Int)) then (
    some 4)
  else (
    bindR (σ := Unit) (ρ := Int) (
      rforE (l1.length : Int) (ref_BoxesError_L1 l1) (fun s => Res.nx s) ()) fun j_2 =>
    some 0)

/-- drawref1.toward -/
noncomputable def ref_toward (side1 : Int) : Option Point :=
  bnd ((⟨(0 : Int), (0 : Int)⟩ : Point)) fun v1 =>
  bif decide (side1 = 1) then (
    bnd ((⟨(0 : Int), (-1)⟩ : Point)) fun v2 =>
    some v2)
  else (
    bif decide (side1 = 2) then (
      bnd ((⟨1, (0 : Int)⟩ : Point)) fun v3 =>
      some v3)
    else (
      bif decide (side1 = 3) then (
        bnd ((⟨(0 : Int), 1⟩ : Point)) fun v4 =>
        some v4)
      else (
        bnd ((⟨(-1), (0 : Int)⟩ : Point)) fun v5 =>
        some v5)))

/-- drawref1.step -/
noncomputable def ref_step (p1 : Point) (way1 : Point) (n1 : Int) : Option Point :=
  bnd ((⟨(0 : Int), (0 : Int)⟩ : Point)) fun v1 =>
  bnd ((⟨W (p1.X + (W (n1 * way1.X))), W (p1.Y + (W (n1 * way1.Y)))⟩ : Point)) fun v2 =>
  some v2

/-- drawref1.Ends -/
noncomputable def ref_Ends (t1 : Task) : Option (Point × Point) :=
  bnd ((⟨(0 : Int), (0 : Int)⟩ : Point)) fun v1 =>
  bnd ((⟨(0 : Int), (0 : Int)⟩ : Point)) fun v2 =>
  Option.bind (ref_toward t1.FromSide) fun r1 =>
  Option.bind (ref_step t1.From r1 t1.Clear) fun r2 =>
  Option.bind (ref_toward t1.ToSide) fun r3 =>
  Option.bind (ref_step t1.To r3 t1.Clear) fun r4 =>
  some (r2, r4)

/-- drawref1.TaskError -/
noncomputable def ref_TaskError (t1 : Task) : Option Int :=
  Option.bind (ref_PointError t1.From) fun r1 =>
  Option.bind (ref_sideError t1.FromSide) fun r2 =>
  Option.bind (ref_PointError t1.To) fun r3 =>
  Option.bind (ref_sideError t1.ToSide) fun r4 =>
  Option.bind (ref_When (decide (100 < (t1.Walls.length : Int))) 4) fun r5 =>
  Option.bind (ref_First [r1, r2, r3, r4, r5]) fun e1 =>
  bif !decide (e1 = 0) then (
    some e1)
  else (
    Option.bind (ref_BoxesError t1.Walls) fun e2 =>
    bif !decide (e2 = 0) then (
      some e2)
    else (
      Option.bind (ref_In t1.Clear 1 200) fun r6 =>
      bif !r6 then (
        some 3)
      else (
        Option.bind (ref_Ends t1) fun r7 =>
        Option.bind (ref_PointError r7.1) fun r8 =>
        Option.bind (ref_PointError r7.2) fun r9 =>
        Option.bind (ref_First [r8, r9]) fun r10 =>
        some r10)))

/-- geom.out -/
noncomputable def geom_out (n1 : Int) : Option Bool :=
  some ((decide (n1 < (-1000000))) || (decide (1000000 < n1)))

/-- geom.CheckPoint -/
noncomputable def geom_CheckPoint (p1 : Point) : Option Int :=
  Option.bind (geom_out p1.X) fun r1 =>
  Option.bind (gd (!r1) (geom_out p1.Y)) fun r2 =>
  bif r1 || r2 then (
    some 3)
  else (
    some 0)

/-- route.isSide -/
noncomputable def route_isSide (side1 : Int) : Option Bool :=
  some ((decide (1 ≤ side1)) && (decide (side1 ≤ 4)))

/-- geom.CheckBox -/
noncomputable def geom_CheckBox (b1 : Box) : Option Int :=
  Option.bind (geom_out b1.X) fun r1 =>
  Option.bind (gd (!r1) (geom_out b1.Y)) fun r2 =>
  bif ((((r1 || r2) || (decide (b1.W_ < 1))) || (decide (20000 < b1.W_))) || (decide (b1.H < 1))) || (decide (20000 < b1.H)) then (
    some 3)
  else (
    some 0)

/-- route.toward -/
noncomputable def route_toward (side1 : Int) : Option Point :=
  bnd ((⟨(0 : Int), (0 : Int)⟩ : Point)) fun v1 =>
  need (0 ≤ side1 ∧ side1 < (4 + 1 : Nat)) <|
  bnd (gx (⟨[(⟨(0 : Int), (0 : Int)⟩ : Point), (⟨(0 : Int), (-1)⟩ : Point), (⟨1, (0 : Int)⟩ : Point), (⟨(0 : Int), 1⟩ : Point), (⟨(-1), (0 : Int)⟩ : Point)]⟩ : (Arr 4 Point)).l side1) fun v2 =>
  some v2

/-- route.away -/
noncomputable def route_away (p1 : Point) (d1 : Point) (n1 : Int) : Option Point :=
  bnd ((⟨(0 : Int), (0 : Int)⟩ : Point)) fun v1 =>
  bnd ((⟨W (p1.X + (W (n1 * d1.X))), W (p1.Y + (W (n1 * d1.Y)))⟩ : Point)) fun v2 =>
  some v2

/-- route.ends -/
noncomputable def route_ends (t1 : Task) : Option (Point × Point) :=
  bnd ((⟨(0 : Int), (0 : Int)⟩ : Point)) fun start1 =>
  bnd ((⟨(0 : Int), (0 : Int)⟩ : Point)) fun end1 =>
  Option.bind (route_toward t1.FromSide) fun r1 =>
  Option.bind (route_away t1.From r1 t1.Clear) fun r2 =>
  Option.bind (route_toward t1.ToSide) fun r3 =>
  Option.bind (route_away t1.To r3 t1.Clear) fun r4 =>
  some (r2, r4)

noncomputable def route_Check_L1 (v1 : (List Anon_p_side)) (i : Int) (s : Unit) : Option (Res Unit (Res Unit Int)) :=
  need (inR v1 i) <|
  bnd (gx v1 i) fun v2 =>
  Option.bind (geom_CheckPoint v2.p) fun e1 =>
  bif !decide (e1 = 0) then (
    some (Res.ab (Res.ab e1)))
  else (
    Option.bind (route_isSide v2.side) fun r1 =>
    bif !r1 then (
      some (Res.ab (Res.ab 3)))
    else (
      some (Res.nx ())))

noncomputable def route_Check_L2 (t1 : Task) (i : Int) (s : Unit) : Option (Res Unit (Res Unit Int)) :=
  need (inR t1.Walls i) <|
  bnd (gx t1.Walls i) fun v3 =>
  Option.bind (geom_CheckBox v3) fun e2 =>
  bif !decide (e2 = 0) then (
    some (Res.ab (Res.ab e2)))
  else (
    some (Res.nx ()))

/-- route.Check -/
noncomputable def route_Check (t1 : Task) : Option Int :=
  bnd ([(⟨t1.From, t1.FromSide⟩ : Anon_p_side), (⟨t1.To, t1.ToSide⟩ : Anon_p_side)]) fun v1 =>
  bindR (σ := Unit) (ρ := Int) (
    rforE (v1.length : Int) (route_Check_L1 v1) (fun s => Res.nx s) ()) fun j_2 =>
  bif decide (100 < (t1.Walls.length : Int)) then (
    some 4)
  else (
    bindR (σ := Unit) (ρ := Int) (
      rforE (t1.Walls.length : Int) (route_Check_L2 t1) (fun s => Res.nx s) ()) fun j_13 =>
    bif (decide (t1.Clear < 1)) || (decide (200 < t1.Clear)) then (
      some 3)
    else (
      Option.bind (route_ends t1) fun r2 =>
      Option.bind (geom_CheckPoint r2.1) fun e3 =>
      bif !decide (e3 = 0) then (
        some e3)
      else (
        Option.bind (geom_CheckPoint r2.2) fun r3 =>
        some r3)))

noncomputable def geom_points_L1 (l1 : (List Point)) (i : Int) (s : Unit) : Option (Res Unit (Res Unit Int)) :=
  need (inR l1 i) <|
  bnd (gx l1 i) fun v1 =>
  Option.bind (geom_CheckPoint v1) fun e1 =>
  bif !decide (e1 = 0) then (
    some (Res.ab (Res.ab e1)))
  else (
    some (Res.nx ()))

/-- geom.points -/
noncomputable def geom_points (l1 : (List Point)) : Option Int :=
  bindR (σ := Unit) (ρ := Int) (
    rforE (l1.length : Int) (geom_points_L1 l1) (fun s => Res.nx s) ()) fun j_1 =>
  some 0

/-- geom.CheckPoints -/
noncomputable def geom_CheckPoints (l1 : (List Point)) : Option Int :=
  bif decide (1000 < (l1.length : Int)) then (
    some 4)
  else (
    Option.bind (geom_points l1) fun r1 =>
    some r1)

noncomputable def geom_CheckPath_L1 (l1 : (List Point)) (s5_ : Int) : Option (Step Int (Res Unit Int)) :=
  bif decide (s5_ < (l1.length : Int)) then (
    need (inR l1 s5_) <|
    need (inR l1 (W (s5_ - 1))) <|
    need (inR l1 s5_) <|
    need (inR l1 (W (s5_ - 1))) <|
    bif decide ((decide (((gx l1 s5_).X) = ((gx l1 (W (s5_ - 1))).X))) = (decide (((gx l1 s5_).Y) = ((gx l1 (W (s5_ - 1))).Y)))) then (
      some (Step.done (Res.ab 2)))
    else (
      bnd (W (s5_ + 1)) fun i1 =>
      some (Step.again i1)))
  else (
    some (Step.done (Res.nx ())))

/-- geom.CheckPath -/
noncomputable def geom_CheckPath (l1 : (List Point)) : Option Int :=
  Option.bind (geom_CheckPoints l1) fun e1 =>
  bif !decide (e1 = 0) then (
    some e1)
  else (
    bif decide ((l1.length : Int) < 2) then (
      some 2)
    else (
      bindR (σ := Unit) (ρ := Int) (
        loop (geom_CheckPath_L1 l1) 1) fun j_4 =>
      some 0))

/-- route.heading$1 -/
noncomputable def route_heading_1 (n1 : Int) : Option Int :=
  some (min (max n1 (-1)) 1)

/-- route.heading -/
noncomputable def route_heading (a1 : Point) (b1 : Point) : Option Point :=
  bnd ((⟨(0 : Int), (0 : Int)⟩ : Point)) fun v1 =>
  Option.bind (route_heading_1 (W (b1.X - a1.X))) fun r1 =>
  Option.bind (route_heading_1 (W (b1.Y - a1.Y))) fun r2 =>
  bnd ((⟨r1, r2⟩ : Point)) fun v2 =>
  some v2

/-- route.opposite -/
noncomputable def route_opposite (d1 : Point) : Option Point :=
  bnd ((⟨(0 : Int), (0 : Int)⟩ : Point)) fun v1 =>
  bnd ((⟨W (-d1.X), W (-d1.Y)⟩ : Point)) fun v2 =>
  some v2

/-- geom.apart -/
noncomputable def geom_apart (a1 : Point) (b1 : Point) : Option Int :=
  bnd (W (a1.X - b1.X)) fun x1 =>
  bnd (W (a1.Y - b1.Y)) fun y1 =>
  some (W ((max x1 (W (-x1))) + (max y1 (W (-y1)))))

noncomputable def geom_length_L1 (l1 : (List Point)) (s2_ : (Int × Int)) : Option (Step (Int × Int) Int) :=
  bif decide (s2_.2 < (l1.length : Int)) then (
    need (inR l1 (W (s2_.2 - 1))) <|
    need (inR l1 s2_.2) <|
    Option.bind (geom_apart (gx l1 (W (s2_.2 - 1))) (gx l1 s2_.2)) fun r1 =>
    bnd (W (s2_.1 + r1)) fun n1 =>
    bnd (W (s2_.2 + 1)) fun i1 =>
    some (Step.again (n1, i1)))
  else (
    some (Step.done s2_.1))

/-- geom.length -/
noncomputable def geom_length (l1 : (List Point)) : Option Int :=
  Option.bind (α := Int) (
    loop (geom_length_L1 l1) (0, 1)) fun j_1 =>
  some j_1

/-- geom.Length -/
noncomputable def geom_Length (l1 : (List Point)) : Option (Int × Int) :=
  Option.bind (geom_CheckPath l1) fun e1 =>
  bif !decide (e1 = 0) then (
    some (0, e1))
  else (
    Option.bind (geom_length l1) fun r1 =>
    some (r1, 0))

noncomputable def route_zones_L1 (t1 : Task) (i : Int) (s : (List Route_zone)) : Option (List Route_zone) :=
  need (inR t1.Walls i) <|
  bnd (gx t1.Walls i) fun v1 =>
  need (room (s.length + [(⟨W (v1.X - t1.Clear), W (v1.Y - t1.Clear), W ((W (v1.X + v1.W_)) + t1.Clear), W ((W (v1.Y + v1.H)) + t1.Clear)⟩ : Route_zone)].length)) <|
  some (s ++ [(⟨W (v1.X - t1.Clear), W (v1.Y - t1.Clear), W ((W (v1.X + v1.W_)) + t1.Clear), W ((W (v1.Y + v1.H)) + t1.Clear)⟩ : Route_zone)])

/-- route.zones -/
noncomputable def route_zones (t1 : Task) : Option (List Route_zone) :=
  Option.bind (α := (List Route_zone)) (
    rfor (t1.Walls.length : Int) (route_zones_L1 t1) ([] : List Route_zone)) fun j_1 =>
  some j_1

/-- slices.Clone[[]api.Point,api.Point] -/
noncomputable def slices_Clone_Point (s1 : (List Point)) : Option (List Point) :=
  nilc s1 (
    some ([] : List Point)) (
    need (room (([] : (List Point)).length + s1.length)) <|
    bnd (([] : (List Point)) ++ s1) fun v1 =>
    some v1)

/-- route.free$1 -/
noncomputable def route_free_1 (z1 : Route_zone) (c0_1 : Point) (c1_1 : Point) : Option Bool :=
  some ((((decide (z1.left < (max c0_1.X c1_1.X))) && (decide ((min c0_1.X c1_1.X) < z1.right))) && (decide (z1.top < (max c0_1.Y c1_1.Y)))) && (decide ((min c0_1.Y c1_1.Y) < z1.bottom)))

noncomputable def slices_IndexFunc_zone_L1 (f1 : (Route_zone → Option Bool)) (s1 : (List Route_zone)) (i : Int) (s : Unit) : Option (Res Unit (Res Unit Int)) :=
  need (inR s1 i) <|
  Option.bind (f1 (gx s1 i)) fun r1 =>
  bif r1 then (
    some (Res.ab (Res.ab i)))
  else (
    some (Res.nx ()))

/-- slices.IndexFunc[[]route.zone,route.zone] -/
noncomputable def slices_IndexFunc_zone (s1 : (List Route_zone)) (f1 : (Route_zone → Option Bool)) : Option Int :=
  bindR (σ := Unit) (ρ := Int) (
    rforE (s1.length : Int) (slices_IndexFunc_zone_L1 f1 s1) (fun s => Res.nx s) ()) fun j_1 =>
  some (-1)

/-- slices.ContainsFunc[[]route.zone,route.zone] -/
noncomputable def slices_ContainsFunc_zone (s1 : (List Route_zone)) (f1 : (Route_zone → Option Bool)) : Option Bool :=
  Option.bind (slices_IndexFunc_zone s1 f1) fun r1 =>
  some (decide (0 ≤ r1))

/-- route.free -/
noncomputable def route_free (l1 : (List Route_zone)) (a1 : Point) (b1 : Point) : Option Bool :=
  Option.bind (slices_ContainsFunc_zone l1 (fun x0 => route_free_1 x0 a1 b1)) fun r1 =>
  some (!r1)

noncomputable def route_lines_1_L2 (n1 : Int) (s8_ : ((List Int) × Int)) : Option (Step ((List Int) × Int) (List Int)) :=
  bif decide (s8_.2 ≤ (W (n1 + 1))) then (
    Option.bind (α := (List Int)) (
      bif (decide ((-1000000) ≤ s8_.2)) && (decide (s8_.2 ≤ 1000000)) then (
        need (room (s8_.1.length + [s8_.2].length)) <|
        some (s8_.1 ++ [s8_.2]))
      else (
        some s8_.1)) fun j_10 =>
    bnd (W (s8_.2 + 1)) fun k2 =>
    some (Step.again (j_10, k2)))
  else (
    some (Step.done s8_.1))

noncomputable def route_lines_1_L1 (at1 : (List Int)) (i : Int) (s : (List Int)) : Option (List Int) :=
  need (inR at1 i) <|
  bnd (gx at1 i) fun n1 =>
  bnd (W (n1 - 1)) fun k1 =>
  loop (route_lines_1_L2 n1) (s, k1)

/-- route.lines$1 -/
noncomputable def route_lines_1 (l1 : (List Int)) (at1 : (List Int)) : Option (List Int) :=
  Option.bind (α := (List Int)) (
    rfor (at1.length : Int) (route_lines_1_L1 at1) l1) fun j_1 =>
  some j_1

noncomputable def route_lines_L1 (r2 : (List Route_zone)) (i : Int) (s : ((List Int) × (List Int))) : Option ((List Int) × (List Int)) :=
  need (inR r2 i) <|
  bnd (gx r2 i) fun v1 =>
  Option.bind (route_lines_1 s.1 [v1.left, v1.right]) fun xs2 =>
  Option.bind (route_lines_1 s.2 [v1.top, v1.bottom]) fun ys2 =>
  some (xs2, ys2)

/-- route.lines -/
noncomputable def route_lines (t1 : Task) : Option ((List Int) × (List Int)) :=
  Option.bind (route_ends t1) fun r1 =>
  Option.bind (route_lines_1 ([] : List Int) [r1.1.X, r1.2.X]) fun xs1 =>
  Option.bind (route_lines_1 ([] : List Int) [r1.1.Y, r1.2.Y]) fun ys1 =>
  Option.bind (route_zones t1) fun r2 =>
  Option.bind (α := ((List Int) × (List Int))) (
    rfor (r2.length : Int) (route_lines_L1 r2) (xs1, ys1)) fun j_5 =>
  Option.bind (slices_Sort_int j_5.1) fun r3 =>
  Option.bind (slices_Sort_int j_5.2) fun r4 =>
  Option.bind (slices_Compact_int r3) fun xs3 =>
  Option.bind (slices_Compact_int r4) fun ys3 =>
  some (xs3, ys3)

/-- cmp.isNaN[int] -/
noncomputable def cmp_isNaN_int (x1 : Int) : Option Bool :=
  some (!decide (x1 = x1))

/-- cmp.Less[int] -/
noncomputable def cmp_Less_int (x1 : Int) (y1 : Int) : Option Bool :=
  Option.bind (cmp_isNaN_int x1) fun r1 =>
  Option.bind (gd (r1) (cmp_isNaN_int y1)) fun r2 =>
  some ((r1 && (!r2)) || (decide (x1 < y1)))

/-- slices.isNaN[int] -/
noncomputable def slices_isNaN_int (x1 : Int) : Option Bool :=
  some (!decide (x1 = x1))

noncomputable def slices_BinarySearch_int_L1 (x1 : (List Int)) (target1 : Int) (s3_ : (Int × Int)) : Option (Step (Int × Int) Int) :=
  bif decide (s3_.1 < s3_.2) then (
    bnd (W ((KI.of .u64 (W (s3_.1 + s3_.2))).shr 1).n) fun h1 =>
    need (inR x1 h1) <|
    Option.bind (cmp_Less_int (gx x1 h1) target1) fun r1 =>
    bif r1 then (
      bnd (W (h1 + 1)) fun i1 =>
      some (Step.again (i1, s3_.2)))
    else (
      some (Step.again (s3_.1, h1))))
  else (
    some (Step.done s3_.1))

/-- slices.BinarySearch[[]int,int] -/
noncomputable def slices_BinarySearch_int (x1 : (List Int)) (target1 : Int) : Option (Int × Bool) :=
  bnd ((x1.length : Int)) fun n1 =>
  Option.bind (α := Int) (
    loop (slices_BinarySearch_int_L1 x1 target1) (0, n1)) fun j_2 =>
  need ((decide (j_2 < n1)) = true → inR x1 j_2) <|
  need ((decide (j_2 < n1)) = true → (decide ((gx x1 j_2) = target1)) = false → inR x1 j_2) <|
  Option.bind (gd ((decide (j_2 < n1)) && !(decide ((gx x1 j_2) = target1))) (slices_isNaN_int (gx x1 j_2))) fun r2 =>
  Option.bind (gd ((decide (j_2 < n1)) && !(decide ((gx x1 j_2) = target1)) && r2) (slices_isNaN_int target1)) fun r3 =>
  some (j_2, (decide (j_2 < n1)) && ((decide ((gx x1 j_2) = target1)) || (r2 && r3)))

noncomputable def route_right_L1 (l1 : (List Point)) (n1 : Int) (s7_ : Int) : Option (Step Int (Res Unit Bool)) :=
  bif decide (s7_ < n1) then (
    need (inR l1 (W (s7_ - 2))) <|
    need (inR l1 (W (s7_ - 1))) <|
    Option.bind (route_heading (gx l1 (W (s7_ - 2))) (gx l1 (W (s7_ - 1)))) fun r2 =>
    need (inR l1 (W (s7_ - 1))) <|
    need (inR l1 s7_) <|
    Option.bind (route_heading (gx l1 (W (s7_ - 1))) (gx l1 s7_)) fun r3 =>
    Option.bind (gd (!(decide (r2 = r3))) (route_opposite r3)) fun r4 =>
    bif (decide (r2 = r3)) || (decide (r2 = r4)) then (
      some (Step.done (Res.ab false)))
    else (
      bnd (W (s7_ + 1)) fun i1 =>
      some (Step.again i1)))
  else (
    some (Step.done (Res.nx ())))

noncomputable def route_right_L2 (n1 : Int) (r5 : (Point × Point)) (way1 : (List Point)) (walls1 : (List Route_zone)) (s39_ : Int) : Option (Step Int (Res Unit Bool)) :=
  bif decide (s39_ < n1) then (
    need (inR ((way1.set (0 : Int).toNat r5.1).set (W (n1 - 1)).toNat r5.2) (W (s39_ - 1))) <|
    need (inR ((way1.set (0 : Int).toNat r5.1).set (W (n1 - 1)).toNat r5.2) s39_) <|
    Option.bind (route_free walls1 (gx ((way1.set (0 : Int).toNat r5.1).set (W (n1 - 1)).toNat r5.2) (W (s39_ - 1))) (gx ((way1.set (0 : Int).toNat r5.1).set (W (n1 - 1)).toNat r5.2) s39_)) fun r13 =>
    bif !r13 then (
      some (Step.done (Res.ab false)))
    else (
      bnd (W (s39_ + 1)) fun i2 =>
      some (Step.again i2)))
  else (
    some (Step.done (Res.nx ())))

noncomputable def route_right_L3 (v1 : (List Point)) (r14 : ((List Int) × (List Int))) (i : Int) (s : Unit) : Option (Res Unit (Res Unit Bool)) :=
  need (inR v1 i) <|
  bnd (gx v1 i) fun v2 =>
  Option.bind (slices_BinarySearch_int r14.1 v2.X) fun r15 =>
  Option.bind (slices_BinarySearch_int r14.2 v2.Y) fun r16 =>
  bif (!r15.2) || (!r16.2) then (
    some (Res.ab (Res.ab false)))
  else (
    some (Res.nx ()))

/-- route.right -/
noncomputable def route_right (t1 : Task) (l1 : (List Point)) : Option Bool :=
  Option.bind (geom_CheckPath l1) fun r1 =>
  need ((!decide (r1 = 0)) = false → inR l1 0) <|
  need (((!decide (r1 = 0)) || (!decide ((gx l1 0) = t1.From))) = false → inR l1 (W ((l1.length : Int) - 1))) <|
  bif ((!decide (r1 = 0)) || (!decide ((gx l1 0) = t1.From))) || (!decide ((gx l1 (W ((l1.length : Int) - 1))) = t1.To)) then (
    some false)
  else (
    bnd ((l1.length : Int)) fun n1 =>
    bindR (σ := Unit) (ρ := Bool) (
      loop (route_right_L1 l1 n1) 2) fun j_6 =>
    Option.bind (route_ends t1) fun r5 =>
    Option.bind (route_toward t1.FromSide) fun r6 =>
    Option.bind (route_toward t1.ToSide) fun r7 =>
    Option.bind (route_opposite r7) fun r8 =>
    need (inR l1 0) <|
    need (inR l1 1) <|
    Option.bind (route_heading (gx l1 0) (gx l1 1)) fun r9 =>
    need ((!decide (r9 = r6)) = false → inR l1 (W (n1 - 2))) <|
    need ((!decide (r9 = r6)) = false → inR l1 (W (n1 - 1))) <|
    Option.bind (gd (!(!decide (r9 = r6))) (route_heading (gx l1 (W (n1 - 2))) (gx l1 (W (n1 - 1))))) fun r10 =>
    bif (!decide (r9 = r6)) || (!decide (r10 = r8)) then (
      some false)
    else (
      need (segR l1.length 0 2) <|
      Option.bind (geom_Length (seg l1 0 2)) fun r11 =>
      need (segR l1.length (W (n1 - 2)) (l1.length : Int)) <|
      Option.bind (geom_Length (seg l1 (W (n1 - 2)) (l1.length : Int))) fun r12 =>
      bif ((decide (r11.1 < t1.Clear)) || (decide (r12.1 < t1.Clear))) || ((decide (n1 = 2)) && (decide (r11.1 < (W (2 * t1.Clear))))) then (
        some false)
      else (
        Option.bind (route_zones t1) fun walls1 =>
        Option.bind (slices_Clone_Point l1) fun way1 =>
        need (inR way1 0) <|
        need (inR (way1.set (0 : Int).toNat r5.1) (W (n1 - 1))) <|
        bindR (σ := Unit) (ρ := Bool) (
          loop (route_right_L2 n1 r5 way1 walls1) 1) fun j_38 =>
        Option.bind (route_lines t1) fun r14 =>
        need (segR l1.length 1 (W (n1 - 1))) <|
        bnd (seg l1 1 (W (n1 - 1))) fun v1 =>
        bindR (σ := Unit) (ρ := Bool) (
          rforE (v1.length : Int) (route_right_L3 v1 r14) (fun s => Res.nx s) ()) fun j_49 =>
        some true)))

/-- route.Right -/
noncomputable def route_Right (t1 : Task) (l1 : (List Point)) : Option (Bool × Int) :=
  Option.bind (route_Check t1) fun e1 =>
  bif !decide (e1 = 0) then (
    some (false, e1))
  else (
    Option.bind (geom_CheckPoints l1) fun e2 =>
    bif !decide (e2 = 0) then (
      some (false, e2))
    else (
      Option.bind (route_right t1 l1) fun r1 =>
      some (r1, 0)))

/-- drawlaw1.routes -/
noncomputable def law_routes  : Option Bool :=
  bnd ((⟨(⟨(0 : Int), (0 : Int)⟩ : Point), 2, (⟨9, (0 : Int)⟩ : Point), 4, ([] : (List Box)), 1⟩ : Task)) fun v1 =>
  Option.bind (route_Check v1) fun r1 =>
  Option.bind (gd ((decide (r1 = 0))) (route_Check (⟨(⟨(0 : Int), (0 : Int)⟩ : Point), (0 : Int), (⟨(0 : Int), (0 : Int)⟩ : Point), (0 : Int), ([] : (List Box)), (0 : Int)⟩ : Task))) fun r2 =>
  some ((decide (r1 = 0)) && (decide (r2 = 3)))

noncomputable def ref_PointsError_L1 (l1 : (List Point)) (i : Int) (s : Unit) : Option (Res Unit (Res Unit Int)) :=
  need (inR l1 i) <|
  bnd (gx l1 i) fun v1 =>
  Option.bind (ref_PointError v1) fun e1 =>
  bif !decide (e1 = 0) then (
    some (Res.ab (Res.ab e1)))
  else (
    some (Res.nx ()))

/-- drawref1.PointsError -/
noncomputable def ref_PointsError (l1 : (List Point)) : Option Int :=
  bif decide (1000 < (l1.length : Int)) then (
    some 4)
  else (
    bindR (σ := Unit) (ρ := Int) (
      rforE (l1.length : Int) (ref_PointsError_L1 l1) (fun s => Res.nx s) ()) fun j_2 =>
    some 0)

noncomputable def ref_IsRight_L1 (l1 : (List Point)) (s2_ : Int) : Option (Step Int (Res Unit Bool)) :=
  bif decide (s2_ < (l1.length : Int)) then (
    need (inR l1 s2_) <|
    need (inR l1 (W (s2_ - 1))) <|
    need (inR l1 s2_) <|
    need (inR l1 (W (s2_ - 1))) <|
    bif decide ((decide (((gx l1 s2_).X) = ((gx l1 (W (s2_ - 1))).X))) = (decide (((gx l1 s2_).Y) = ((gx l1 (W (s2_ - 1))).Y)))) then (
      some (Step.done (Res.ab false)))
    else (
      bnd (W (s2_ + 1)) fun i1 =>
      some (Step.again i1)))
  else (
    some (Step.done (Res.nx ())))

/-- drawref1.IsRight -/
noncomputable def ref_IsRight (l1 : (List Point)) : Option Bool :=
  bindR (σ := Unit) (ρ := Bool) (
    loop (ref_IsRight_L1 l1) 1) fun j_1 =>
  some (decide (1 < (l1.length : Int)))

/-- drawref1.Sign -/
noncomputable def ref_Sign (n1 : Int) : Option Int :=
  some (min (max n1 (-1)) 1)

/-- drawref1.way -/
noncomputable def ref_way (a1 : Point) (b1 : Point) : Option Point :=
  bnd ((⟨(0 : Int), (0 : Int)⟩ : Point)) fun v1 =>
  Option.bind (ref_Sign (W (b1.X - a1.X))) fun r1 =>
  Option.bind (ref_Sign (W (b1.Y - a1.Y))) fun r2 =>
  bnd ((⟨r1, r2⟩ : Point)) fun v2 =>
  some v2

noncomputable def ref_TidyOf_L1 (l1 : (List Point)) (i : Int) (s : (List Point)) : Option (List Point) :=
  need (inR l1 i) <|
  bnd (gx l1 i) fun v1 =>
  need (((decide (0 < i)) && (decide ((W (i + 1)) < (l1.length : Int)))) = true → inR l1 (W (i - 1))) <|
  Option.bind (gd (((decide (0 < i)) && (decide ((W (i + 1)) < (l1.length : Int))))) (ref_way (gx l1 (W (i - 1))) v1)) fun r1 =>
  need (((decide (0 < i)) && (decide ((W (i + 1)) < (l1.length : Int)))) = true → inR l1 (W (i + 1))) <|
  Option.bind (gd (((decide (0 < i)) && (decide ((W (i + 1)) < (l1.length : Int))))) (ref_way v1 (gx l1 (W (i + 1))))) fun r2 =>
  bif ((decide (0 < i)) && (decide ((W (i + 1)) < (l1.length : Int)))) && (decide (r1 = r2)) then (
    some s)
  else (
    need (room (s.length + [v1].length)) <|
    some (s ++ [v1]))

/-- drawref1.TidyOf -/
noncomputable def ref_TidyOf (l1 : (List Point)) : Option (List Point) :=
  Option.bind (α := (List Point)) (
    rfor (l1.length : Int) (ref_TidyOf_L1 l1) ([] : List Point)) fun j_1 =>
  some j_1

noncomputable def slices_Equal_Point_L1 (s1_1 : (List Point)) (s2_1 : (List Point)) (i : Int) (s : Unit) : Option (Res Unit (Res Unit Bool)) :=
  need (inR s1_1 i) <|
  need (inR s2_1 i) <|
  bif !decide ((gx s1_1 i) = (gx s2_1 i)) then (
    some (Res.ab (Res.ab false)))
  else (
    some (Res.nx ()))

/-- slices.Equal[[]api.Point,api.Point] -/
noncomputable def slices_Equal_Point (s1_1 : (List Point)) (s2_1 : (List Point)) : Option Bool :=
  bif !decide ((s1_1.length : Int) = (s2_1.length : Int)) then (
    some false)
  else (
    bindR (σ := Unit) (ρ := Bool) (
      rforE (s1_1.length : Int) (slices_Equal_Point_L1 s1_1 s2_1) (fun s => Res.nx s) ()) fun j_2 =>
    some true)

/-- drawref1.Abs -/
noncomputable def ref_Abs (n1 : Int) : Option Int :=
  some (max n1 (W (-n1)))

/-- drawref1.Far -/
noncomputable def ref_Far (a1 : Point) (b1 : Point) : Option Int :=
  Option.bind (ref_Abs (W (a1.X - b1.X))) fun r1 =>
  Option.bind (ref_Abs (W (a1.Y - b1.Y))) fun r2 =>
  some (W (r1 + r2))

noncomputable def ref_gridLines_1_L2 (v1 : (List Int)) (i : Int) (s : (List Int)) : Option (List Int) :=
  need (inR v1 i) <|
  bnd (gx v1 i) fun k1 =>
  Option.bind (ref_In k1 (-1000000) 1000000) fun r1 =>
  bif r1 then (
    need (room (s.length + [k1].length)) <|
    some (s ++ [k1]))
  else (
    some s)

noncomputable def ref_gridLines_1_L1 (l1 : (List Int)) (i : Int) (s : (List Int)) : Option (List Int) :=
  need (inR l1 i) <|
  bnd (gx l1 i) fun n1 =>
  bnd ([W (n1 - 1), n1, W (n1 + 1)]) fun v1 =>
  rfor (v1.length : Int) (ref_gridLines_1_L2 v1) s

/-- drawref1.gridLines$1 -/
noncomputable def ref_gridLines_1 (l1 : (List Int)) : Option (List Int) :=
  Option.bind (α := (List Int)) (
    rfor (l1.length : Int) (ref_gridLines_1_L1 l1) ([] : List Int)) fun j_1 =>
  Option.bind (slices_Sort_int j_1) fun r2 =>
  Option.bind (slices_Compact_int r2) fun r3 =>
  some r3

noncomputable def ref_gridLines_L1 (t1 : Task) (i : Int) (s : ((List Int) × (List Int))) : Option ((List Int) × (List Int)) :=
  need (inR t1.Walls i) <|
  bnd (gx t1.Walls i) fun v1 =>
  need (room (s.1.length + [W (v1.X - t1.Clear), W ((W (v1.X + v1.W_)) + t1.Clear)].length)) <|
  bnd (s.1 ++ [W (v1.X - t1.Clear), W ((W (v1.X + v1.W_)) + t1.Clear)]) fun xs2 =>
  need (room (s.2.length + [W (v1.Y - t1.Clear), W ((W (v1.Y + v1.H)) + t1.Clear)].length)) <|
  some (xs2, s.2 ++ [W (v1.Y - t1.Clear), W ((W (v1.Y + v1.H)) + t1.Clear)])

/-- drawref1.gridLines -/
noncomputable def ref_gridLines (t1 : Task) : Option ((List Int) × (List Int)) :=
  Option.bind (ref_Ends t1) fun r1 =>
  bnd ([r1.1.X, r1.2.X]) fun xs1 =>
  bnd ([r1.1.Y, r1.2.Y]) fun ys1 =>
  Option.bind (α := ((List Int) × (List Int))) (
    rfor (t1.Walls.length : Int) (ref_gridLines_L1 t1) (xs1, ys1)) fun j_4 =>
  Option.bind (ref_gridLines_1 j_4.1) fun xs3 =>
  Option.bind (ref_gridLines_1 j_4.2) fun ys2 =>
  some (xs3, ys2)

/-- drawref1.blocked$1 -/
noncomputable def ref_blocked_1 (w1 : Box) (c0_1 : Task) (c1_1 : Point) (c2_1 : Point) : Option Bool :=
  some ((((decide ((W (w1.X - c0_1.Clear)) < (max c1_1.X c2_1.X))) && (decide ((min c1_1.X c2_1.X) < (W ((W (w1.X + w1.W_)) + c0_1.Clear))))) && (decide ((W (w1.Y - c0_1.Clear)) < (max c1_1.Y c2_1.Y)))) && (decide ((min c1_1.Y c2_1.Y) < (W ((W (w1.Y + w1.H)) + c0_1.Clear)))))

noncomputable def slices_IndexFunc_Box_L1 (f1 : (Box → Option Bool)) (s1 : (List Box)) (i : Int) (s : Unit) : Option (Res Unit (Res Unit Int)) :=
  need (inR s1 i) <|
  Option.bind (f1 (gx s1 i)) fun r1 =>
  bif r1 then (
    some (Res.ab (Res.ab i)))
  else (
    some (Res.nx ()))

/-- slices.IndexFunc[[]api.Box,api.Box] -/
noncomputable def slices_IndexFunc_Box (s1 : (List Box)) (f1 : (Box → Option Bool)) : Option Int :=
  bindR (σ := Unit) (ρ := Int) (
    rforE (s1.length : Int) (slices_IndexFunc_Box_L1 f1 s1) (fun s => Res.nx s) ()) fun j_1 =>
  some (-1)

/-- slices.ContainsFunc[[]api.Box,api.Box] -/
noncomputable def slices_ContainsFunc_Box (s1 : (List Box)) (f1 : (Box → Option Bool)) : Option Bool :=
  Option.bind (slices_IndexFunc_Box s1 f1) fun r1 =>
  some (decide (0 ≤ r1))

/-- drawref1.blocked -/
noncomputable def ref_blocked (t1 : Task) (a1 : Point) (b1 : Point) : Option Bool :=
  Option.bind (slices_ContainsFunc_Box t1.Walls (fun x0 => ref_blocked_1 x0 t1 a1 b1)) fun r1 =>
  some r1

noncomputable def ref_IsWay_L1 (l1 : (List Point)) (n1 : Int) (s9_ : Int) : Option (Step Int (Res Unit Bool)) :=
  bif decide ((W (s9_ + 1)) < n1) then (
    need (inR l1 (W (s9_ - 1))) <|
    need (inR l1 s9_) <|
    need (inR l1 s9_) <|
    need (inR l1 (W (s9_ + 1))) <|
    bif decide ((decide (((gx l1 (W (s9_ - 1))).X) = ((gx l1 s9_).X))) = (decide (((gx l1 s9_).X) = ((gx l1 (W (s9_ + 1))).X)))) then (
      some (Step.done (Res.ab false)))
    else (
      bnd (W (s9_ + 1)) fun i1 =>
      some (Step.again i1)))
  else (
    some (Step.done (Res.nx ())))

noncomputable def ref_IsWay_L2 (v1 : (List Point)) (r11 : ((List Int) × (List Int))) (i : Int) (s : Unit) : Option (Res Unit (Res Unit Bool)) :=
  need (inR v1 i) <|
  bnd (gx v1 i) fun v2 =>
  Option.bind (slices_BinarySearch_int r11.1 v2.X) fun r12 =>
  Option.bind (slices_BinarySearch_int r11.2 v2.Y) fun r13 =>
  bif (!r12.2) || (!r13.2) then (
    some (Res.ab (Res.ab false)))
  else (
    some (Res.nx ()))

noncomputable def ref_IsWay_L3 (m1 : (List Point)) (n1 : Int) (t1 : Task) (r14 : (Point × Point)) (s53_ : Int) : Option (Step Int (Res Unit Bool)) :=
  bif decide (s53_ < n1) then (
    need (inR ((m1.set (0 : Int).toNat r14.1).set (W (n1 - 1)).toNat r14.2) (W (s53_ - 1))) <|
    need (inR ((m1.set (0 : Int).toNat r14.1).set (W (n1 - 1)).toNat r14.2) s53_) <|
    Option.bind (ref_blocked t1 (gx ((m1.set (0 : Int).toNat r14.1).set (W (n1 - 1)).toNat r14.2) (W (s53_ - 1))) (gx ((m1.set (0 : Int).toNat r14.1).set (W (n1 - 1)).toNat r14.2) s53_)) fun r15 =>
    bif r15 then (
      some (Step.done (Res.ab false)))
    else (
      bnd (W (s53_ + 1)) fun i2 =>
      some (Step.again i2)))
  else (
    some (Step.done (Res.nx ())))

/-- drawref1.IsWay -/
noncomputable def ref_IsWay (t1 : Task) (l1 : (List Point)) : Option Bool :=
  bnd ((l1.length : Int)) fun n1 =>
  Option.bind (ref_IsRight l1) fun r1 =>
  need ((!r1) = false → inR l1 0) <|
  need (((!r1) || (!decide ((gx l1 0) = t1.From))) = false → inR l1 (W (n1 - 1))) <|
  Option.bind (gd (!(((!r1) || (!decide ((gx l1 0) = t1.From))) || (!decide ((gx l1 (W (n1 - 1))) = t1.To)))) (ref_TidyOf l1)) fun r2 =>
  Option.bind (gd (!(((!r1) || (!decide ((gx l1 0) = t1.From))) || (!decide ((gx l1 (W (n1 - 1))) = t1.To)))) (slices_Equal_Point r2 l1)) fun r3 =>
  bif (((!r1) || (!decide ((gx l1 0) = t1.From))) || (!decide ((gx l1 (W (n1 - 1))) = t1.To))) || (!r3) then (
    some false)
  else (
    bindR (σ := Unit) (ρ := Bool) (
      loop (ref_IsWay_L1 l1 n1) 1) fun j_8 =>
    Option.bind (ref_toward t1.ToSide) fun r4 =>
    need (inR l1 0) <|
    need (inR l1 1) <|
    Option.bind (ref_way (gx l1 0) (gx l1 1)) fun r5 =>
    Option.bind (ref_toward t1.FromSide) fun r6 =>
    need ((!decide (r5 = r6)) = false → inR l1 (W (n1 - 1))) <|
    need ((!decide (r5 = r6)) = false → inR l1 (W (n1 - 2))) <|
    Option.bind (gd (!(!decide (r5 = r6))) (ref_way (gx l1 (W (n1 - 1))) (gx l1 (W (n1 - 2))))) fun r7 =>
    bif (!decide (r5 = r6)) || (!decide (r7 = r4)) then (
      some false)
    else (
      need ((decide (n1 = 2)) = true → inR l1 0) <|
      need ((decide (n1 = 2)) = true → inR l1 1) <|
      Option.bind (gd ((decide (n1 = 2))) (ref_Far (gx l1 0) (gx l1 1))) fun r8 =>
      need (((decide (n1 = 2)) && (decide (r8 < (W (2 * t1.Clear))))) = false → inR l1 0) <|
      need (((decide (n1 = 2)) && (decide (r8 < (W (2 * t1.Clear))))) = false → inR l1 1) <|
      Option.bind (gd (!((decide (n1 = 2)) && (decide (r8 < (W (2 * t1.Clear)))))) (ref_Far (gx l1 0) (gx l1 1))) fun r9 =>
      need ((((decide (n1 = 2)) && (decide (r8 < (W (2 * t1.Clear))))) || (decide (r9 < t1.Clear))) = false → inR l1 (W (n1 - 2))) <|
      need ((((decide (n1 = 2)) && (decide (r8 < (W (2 * t1.Clear))))) || (decide (r9 < t1.Clear))) = false → inR l1 (W (n1 - 1))) <|
      Option.bind (gd (!(((decide (n1 = 2)) && (decide (r8 < (W (2 * t1.Clear))))) || (decide (r9 < t1.Clear)))) (ref_Far (gx l1 (W (n1 - 2))) (gx l1 (W (n1 - 1))))) fun r10 =>
      bif (((decide (n1 = 2)) && (decide (r8 < (W (2 * t1.Clear))))) || (decide (r9 < t1.Clear))) || (decide (r10 < t1.Clear)) then (
        some false)
      else (
        Option.bind (ref_gridLines t1) fun r11 =>
        need (segR l1.length 1 (W (n1 - 1))) <|
        bnd (seg l1 1 (W (n1 - 1))) fun v1 =>
        bindR (σ := Unit) (ρ := Bool) (
          rforE (v1.length : Int) (ref_IsWay_L2 v1 r11) (fun s => Res.nx s) ()) fun j_39 =>
        Option.bind (slices_Clone_Point l1) fun m1 =>
        Option.bind (ref_Ends t1) fun r14 =>
        need (inR m1 0) <|
        need (inR (m1.set (0 : Int).toNat r14.1) (W (n1 - 1))) <|
        bindR (σ := Unit) (ρ := Bool) (
          loop (ref_IsWay_L3 m1 n1 t1 r14) 1) fun j_52 =>
        some true)))

/-- drawlaw1.WaysAreRight$1 -/
noncomputable def law_WaysAreRight_1 (c0_1 : Task) (c1_1 : (List Point)) : Option Bool :=
  Option.bind (ref_IsWay c0_1 c1_1) fun r1 =>
  some r1

/-- drawlaw1.is[bool] -/
noncomputable def law_is_bool (got1 : Bool) (e1 : Int) (want1 : Int) (right1 : (Option Bool)) : Option Bool :=
  bif !decide (want1 = 0) then (
    some ((decide (got1 = false)) && (decide (e1 = want1))))
  else (
    Option.bind (gd ((decide (e1 = 0))) (right1)) fun r1 =>
    some ((decide (e1 = 0)) && (decide (got1 = r1))))

/-- drawlaw1.WaysAreRight -/
noncomputable def law_WaysAreRight (t1 : Task) (l1 : (List Point)) : Option Bool :=
  Option.bind (ref_TaskError t1) fun own1 =>
  Option.bind (route_Right t1 l1) fun r1 =>
  Option.bind (law_routes) fun r2 =>
  Option.bind (gd (r2) (route_Check t1)) fun r3 =>
  Option.bind (gd ((r2 && (decide (r3 = own1)))) (ref_PointsError l1)) fun r4 =>
  Option.bind (gd ((r2 && (decide (r3 = own1)))) (ref_First [own1, r4])) fun r5 =>
  Option.bind (gd ((r2 && (decide (r3 = own1)))) (law_is_bool r1.1 r1.2 r5 (law_WaysAreRight_1 t1 l1))) fun r6 =>
  some ((r2 && (decide (r3 = own1))) && r6)


end Go.DB
