/-
  What the functions compute, as plain functions (printed by a program of one's own).
-/
import Derived.Test.YtieepiblancbpaaAreTy
set_option maxRecDepth 100000
set_option linter.unusedSimpArgs false
set_option linter.unusedVariables false
namespace Go.DB
open Go Go.RowKit

/-- drawref1.In -/
noncomputable def ref_In (n1 : Int) (low1 : Int) (high1 : Int) : Option Bool :=
 some ((decide (low1 ≤ n1)) && (decide (n1 ≤ high1)))

/-- drawref1.When -/
noncomputable def ref_When (is1 : Bool) (e1 : Int) : Option Int :=
 bif is1 then (
  some e1)
 else (
  some 0)

/-- drawref1.PointError -/
noncomputable def ref_PointError (p1 : Point) : Option Int :=
 Option.bind (ref_In p1.X (-1000000) 1000000) fun r1 =>
 Option.bind (gd (!(!r1)) (ref_In p1.Y (-1000000) 1000000)) fun r2 =>
 Option.bind (ref_When ((!r1) || (!r2)) 3) fun r3 =>
 some r3

noncomputable def ref_PointsError_L1 (l1 : (List Point)) (i : Int) (s : Unit) : Option (Res Unit (Res Unit Int)) :=
 need (inR l1 i) <|
 bnd (gx l1 i) fun v1 =>
 Option.bind (ref_PointError v1) fun e1 =>
 bif !decide (e1 = 0) then (
  some (Res.ab (Res.ab e1)))
 else (
  some (Res.nx ()))

/-- drawref1.PointsError -/
noncomputable def ref_PointsError (l1 : (List Point)) : Option Int :=
 bif decide (1000 < (l1.length : Int)) then (
  some 4)
 else (
  bindR (σ := Unit) (ρ := Int) (
   rforE (l1.length : Int) (ref_PointsError_L1 l1) (fun s => Res.nx s) ()) fun j_2 =>
  some 0)

/-- geom.out -/
noncomputable def geom_out (n1 : Int) : Option Bool :=
 some ((decide (n1 < (-1000000))) || (decide (1000000 < n1)))

/-- geom.CheckPoint -/
noncomputable def geom_CheckPoint (p1 : Point) : Option Int :=
 Option.bind (geom_out p1.X) fun r1 =>
 Option.bind (gd (!r1) (geom_out p1.Y)) fun r2 =>
 bif r1 || r2 then (
  some 3)
 else (
  some 0)

noncomputable def geom_points_L1 (l1 : (List Point)) (i : Int) (s : Unit) : Option (Res Unit (Res Unit Int)) :=
 need (inR l1 i) <|
 bnd (gx l1 i) fun v1 =>
 Option.bind (geom_CheckPoint v1) fun e1 =>
 bif !decide (e1 = 0) then (
  some (Res.ab (Res.ab e1)))
 else (
  some (Res.nx ()))

/-- geom.points -/
noncomputable def geom_points (l1 : (List Point)) : Option Int :=
 bindR (σ := Unit) (ρ := Int) (
  rforE (l1.length : Int) (geom_points_L1 l1) (fun s => Res.nx s) ()) fun j_1 =>
 some 0

/-- geom.CheckPoints -/
noncomputable def geom_CheckPoints (l1 : (List Point)) : Option Int :=
 bif decide (1000 < (l1.length : Int)) then (
  some 4)
 else (
  Option.bind (geom_points l1) fun r1 =>
  some r1)

/-- geom.ring -/
noncomputable def geom_ring (l1 : (List Point)) : Option Int :=
 Option.bind (geom_CheckPoints l1) fun e1 =>
 bif !decide (e1 = 0) then (
  some e1)
 else (
  bif decide ((l1.length : Int) < 3) then (
   some 2)
  else (
   some 0))

noncomputable def geom_Area_L1 (l1 : (List Point)) (i : Int) (s : Int) : Option Int :=
 need (inR l1 i) <|
 bnd (gx l1 i) fun v1 =>
 need (0 < (l1.length : Int)) <|
 need (inR l1 ((W (i + 1)).tmod (l1.length : Int))) <|
 bnd (gx l1 ((W (i + 1)).tmod (l1.length : Int))) fun v2 =>
 bnd (W (s + (W ((W (v1.X * v2.Y)) - (W (v2.X * v1.Y)))))) fun sum1 =>
 some sum1

/-- geom.Area -/
noncomputable def geom_Area (l1 : (List Point)) : Option (Int × Int) :=
 Option.bind (geom_ring l1) fun e1 =>
 bif !decide (e1 = 0) then (
  some (0, e1))
 else (
  Option.bind (α := Int) (
   rfor (l1.length : Int) (geom_Area_L1 l1) 0) fun j_3 =>
  some (max j_3 (W (-j_3)), 0))

/-- geom.between -/
noncomputable def geom_between (a1 : Point) (b1 : Point) (p1 : Point) : Option Bool :=
 some ((((decide ((min a1.X b1.X) ≤ p1.X)) && (decide (p1.X ≤ (max a1.X b1.X)))) && (decide ((min a1.Y b1.Y) ≤ p1.Y))) && (decide (p1.Y ≤ (max a1.Y b1.Y))))

/-- geom.on -/
noncomputable def geom_on (a1 : Point) (b1 : Point) (p1 : Point) : Option Bool :=
 Option.bind (gd ((decide ((W ((W (b1.X - a1.X)) * (W (p1.Y - a1.Y)))) = (W ((W (b1.Y - a1.Y)) * (W (p1.X - a1.X))))))) (geom_between a1 b1 p1)) fun r1 =>
 some ((decide ((W ((W (b1.X - a1.X)) * (W (p1.Y - a1.Y)))) = (W ((W (b1.Y - a1.Y)) * (W (p1.X - a1.X)))))) && r1)

noncomputable def geom_Inside_L1 (l1 : (List Point)) (p1 : Point) (i : Int) (s : Int) : Option (Res Int (Res Int (Int × Int))) :=
 need (inR l1 i) <|
 bnd (gx l1 i) fun v1 =>
 need (0 < (l1.length : Int)) <|
 need (inR l1 ((W (i + 1)).tmod (l1.length : Int))) <|
 bnd (gx l1 ((W (i + 1)).tmod (l1.length : Int))) fun v2 =>
 Option.bind (geom_on v1 v2 p1) fun r1 =>
 bif r1 then (
  some (Res.ab (Res.ab (0, 0))))
 else (
  bif decide ((decide (p1.Y < v1.Y)) = (decide (p1.Y < v2.Y))) then (
   some (Res.nx s))
  else (
   Option.bind (α := (Point × Point)) (
    bif decide (v2.Y < v1.Y) then (
     some (v2, v1))
    else (
     some (v1, v2))) fun j_18 =>
   bif decide ((W ((W (p1.X - j_18.1.X)) * (W (j_18.2.Y - j_18.1.Y)))) < (W ((W (j_18.2.X - j_18.1.X)) * (W (p1.Y - j_18.1.Y))))) then (
    bnd (W (-s)) fun where1 =>
    some (Res.nx where1))
   else (
    some (Res.nx s))))

/-- geom.Inside -/
noncomputable def geom_Inside (l1 : (List Point)) (p1 : Point) : Option (Int × Int) :=
 Option.bind (geom_CheckPoints l1) fun e1 =>
 bif !decide (e1 = 0) then (
  some (0, e1))
 else (
  Option.bind (geom_CheckPoint p1) fun e2 =>
  bif !decide (e2 = 0) then (
   some (0, e2))
  else (
   bif decide ((l1.length : Int) < 3) then (
    some (0, 2))
   else (
    bindR (σ := Int) (ρ := (Int × Int)) (
     rforE (l1.length : Int) (geom_Inside_L1 l1 p1) (fun s => Res.nx s) (-1)) fun j_6 =>
    some (j_6, 0))))

/-- geom.sign -/
noncomputable def geom_sign (n1 : Int) : Option Int :=
 bif decide (0 < n1) then (
  some 1)
 else (
  bif decide (n1 < 0) then (
   some (-1))
  else (
   some 0))

/-- geom.bend -/
noncomputable def geom_bend (a1 : Point) (b1 : Point) (c1 : Point) : Option Int :=
 Option.bind (geom_sign (W ((W ((W (b1.X - a1.X)) * (W (c1.Y - b1.Y)))) - (W ((W (b1.Y - a1.Y)) * (W (c1.X - b1.X))))))) fun r1 =>
 some r1

/-- geom.Bend -/
noncomputable def geom_Bend (a1 : Point) (b1 : Point) (c1 : Point) : Option (Int × Int) :=
 Option.bind (geom_points [a1, b1, c1]) fun e1 =>
 bif !decide (e1 = 0) then (
  some (0, e1))
 else (
  Option.bind (geom_bend a1 b1 c1) fun r1 =>
  some (r1, 0))

/-- drawlaw1.geoms -/
noncomputable def law_geoms  : Option Bool :=
 Option.bind (geom_Bend (⟨(0 : Int), (0 : Int)⟩ : Point) (⟨1, (0 : Int)⟩ : Point) (⟨1, 1⟩ : Point)) fun r1 =>
 some ((decide (r1.2 = 0)) && (decide (r1.1 = 1)))

noncomputable def ref_First_L1 (l1 : (List Int)) (i : Int) (s : Unit) : Option (Res Unit (Res Unit Int)) :=
 need (inR l1 i) <|
 bnd (gx l1 i) fun e1 =>
 bif !decide (e1 = 0) then (
  some (Res.ab (Res.ab e1)))
 else (
  some (Res.nx ()))

/-- drawref1.First -/
noncomputable def ref_First (l1 : (List Int)) : Option Int :=
 bindR (σ := Unit) (ρ := Int) (
  rforE (l1.length : Int) (ref_First_L1 l1) (fun s => Res.nx s) ()) fun j_1 =>
 some 0

/-- drawref1.Abs -/
noncomputable def ref_Abs (n1 : Int) : Option Int :=
 some (max n1 (W (-n1)))

noncomputable def ref_AreaOf_L1 (l1 : (List Point)) (i : Int) (s : Int) : Option Int :=
 need (inR l1 i) <|
 bnd (gx l1 i) fun v1 =>
 need (0 < (l1.length : Int)) <|
 need (inR l1 ((W (i + 1)).tmod (l1.length : Int))) <|
 bnd (gx l1 ((W (i + 1)).tmod (l1.length : Int))) fun v2 =>
 bnd (W (s + (W ((W (v1.X * v2.Y)) - (W (v1.Y * v2.X)))))) fun n1 =>
 some n1

/-- drawref1.AreaOf -/
noncomputable def ref_AreaOf (l1 : (List Point)) : Option Int :=
 Option.bind (α := Int) (
  rfor (l1.length : Int) (ref_AreaOf_L1 l1) 0) fun j_1 =>
 Option.bind (ref_Abs j_1) fun r1 =>
 some r1

/-- drawlaw1.AreasMatch$1 -/
noncomputable def law_AreasMatch_1 (c0_1 : (List Point)) : Option Int :=
 Option.bind (ref_AreaOf c0_1) fun r1 =>
 some r1

/-- drawlaw1.is[int] -/
noncomputable def law_is_int (got1 : Int) (e1 : Int) (want1 : Int) (right1 : (Option Int)) : Option Bool :=
 bif !decide (want1 = 0) then (
  some ((decide (got1 = 0)) && (decide (e1 = want1))))
 else (
  Option.bind (gd ((decide (e1 = 0))) (right1)) fun r1 =>
  some ((decide (e1 = 0)) && (decide (got1 = r1))))

/-- drawref1.on -/
noncomputable def ref_on (a1 : Point) (b1 : Point) (p1 : Point) : Option Bool :=
 Option.bind (gd ((decide ((W ((W (b1.X - a1.X)) * (W (p1.Y - a1.Y)))) = (W ((W (b1.Y - a1.Y)) * (W (p1.X - a1.X))))))) (ref_In p1.X (min a1.X b1.X) (max a1.X b1.X))) fun r1 =>
 Option.bind (gd (((decide ((W ((W (b1.X - a1.X)) * (W (p1.Y - a1.Y)))) = (W ((W (b1.Y - a1.Y)) * (W (p1.X - a1.X)))))) && r1)) (ref_In p1.Y (min a1.Y b1.Y) (max a1.Y b1.Y))) fun r2 =>
 some (((decide ((W ((W (b1.X - a1.X)) * (W (p1.Y - a1.Y)))) = (W ((W (b1.Y - a1.Y)) * (W (p1.X - a1.X)))))) && r1) && r2)

noncomputable def ref_InsideOf_L1 (l1 : (List Point)) (p1 : Point) (i : Int) (s : Int) : Option (Res Int (Res Int Int)) :=
 need (inR l1 i) <|
 bnd (gx l1 i) fun v1 =>
 need (0 < (l1.length : Int)) <|
 need (inR l1 ((W (i + 1)).tmod (l1.length : Int))) <|
 bnd (gx l1 ((W (i + 1)).tmod (l1.length : Int))) fun v2 =>
 Option.bind (ref_on v1 v2 p1) fun r1 =>
 bif r1 then (
  some (Res.ab (Res.ab 0)))
 else (
  bif !decide ((decide (p1.Y < v1.Y)) = (decide (p1.Y < v2.Y))) then (
   Option.bind (α := (Point × Point)) (
    bif decide (v1.Y < v2.Y) then (
     some (v2, v1))
    else (
     some (v1, v2))) fun j_13 =>
   bif decide ((W ((W (j_13.2.X - j_13.1.X)) * (W (p1.Y - j_13.1.Y)))) < (W ((W (p1.X - j_13.1.X)) * (W (j_13.2.Y - j_13.1.Y))))) then (
    bnd (W (-s)) fun odd1 =>
    some (Res.nx odd1))
   else (
    some (Res.nx s)))
  else (
   some (Res.nx s)))

/-- drawref1.InsideOf -/
noncomputable def ref_InsideOf (l1 : (List Point)) (p1 : Point) : Option Int :=
 bindR (σ := Int) (ρ := Int) (
  rforE (l1.length : Int) (ref_InsideOf_L1 l1 p1) (fun s => Res.nx s) (-1)) fun j_1 =>
 some j_1

/-- drawlaw1.AreasMatch$2 -/
noncomputable def law_AreasMatch_2 (c0_1 : (List Point)) (c1_1 : Point) : Option Int :=
 Option.bind (ref_InsideOf c0_1 c1_1) fun r1 =>
 some r1

/-- slices.Clone[[]api.Point,api.Point] -/
noncomputable def slices_Clone_Point (s1 : (List Point)) : Option (List Point) :=
 nilc s1 (
  some ([] : List Point)) (
  need (room (([] : (List Point)).length + s1.length)) <|
  bnd (([] : (List Point)) ++ s1) fun v1 =>
  some v1)

def sortQ_Point (x : Point) : Prop := (-1000000 ≤ x.X ∧ x.X ≤ 1000000) ∧ -1000000 ≤ x.Y ∧ x.Y ≤ 1000000
instance : Inhabited { x : Point // sortQ_Point x } := ⟨⟨⟨0, 0⟩, by unfold sortQ_Point; decide⟩⟩
def sortC_Point (x y : { x : Point // sortQ_Point x }) : Int := if x.1.X = y.1.X then W (x.1.Y - y.1.Y) else W (x.1.X - y.1.X)

/-- slices.SortFunc[[]drawboard/api.Point,drawboard/api.Point] -/
noncomputable def slices_SortFunc_Point (l : List Point) : Option (List Point) := need ((l.length : Int) < 4611686018427387904 ∧ ∀ x ∈ l, sortQ_Point x) (some (sortF sortC_Point l))

noncomputable def slices_Compact_Point_L2 (s1 : (List Point)) (s3_ : Int) (s11_ : (Int × Int × (List Point))) : Option (Step (Int × Int × (List Point)) (Int × (List Point))) :=
 need (segR s11_.2.2.length s3_ (s1.length : Int)) <|
 bif decide (s11_.2.1 < ((s1.length : Int) - s3_)) then (
  Option.bind (α := (Int × (List Point))) (
   need (segR s11_.2.2.length s3_ (s1.length : Int)) <|
   need (0 ≤ s11_.2.1 ∧ s11_.2.1 < (s1.length : Int) - s3_) <|
   need (inR s11_.2.2 (s3_ + s11_.2.1)) <|
   need (segR s11_.2.2.length s3_ (s1.length : Int)) <|
   need (0 ≤ (W (s11_.2.1 - 1)) ∧ (W (s11_.2.1 - 1)) < (s1.length : Int) - s3_) <|
   need (inR s11_.2.2 (s3_ + (W (s11_.2.1 - 1)))) <|
   bif !decide ((gx s11_.2.2 (s3_ + s11_.2.1)) = (gx s11_.2.2 (s3_ + (W (s11_.2.1 - 1))))) then (
    need (segR s11_.2.2.length s3_ (s1.length : Int)) <|
    need (0 ≤ s11_.2.1 ∧ s11_.2.1 < (s1.length : Int) - s3_) <|
    need (inR s11_.2.2 (s3_ + s11_.2.1)) <|
    bnd (gx s11_.2.2 (s3_ + s11_.2.1)) fun v1 =>
    need (inR s11_.2.2 s11_.1) <|
    bnd (s11_.2.2.set s11_.1.toNat v1) fun s2 =>
    bnd (W (s11_.1 + 1)) fun k1 =>
    some (k1, s2))
   else (
    some (s11_.1, s11_.2.2))) fun j_14 =>
  bnd (W (s11_.2.1 + 1)) fun k2_1 =>
  some (Step.again (j_14.1, k2_1, j_14.2)))
 else (
  some (Step.done (s11_.1, s11_.2.2)))

noncomputable def slices_Compact_Point_L1 (s1 : (List Point)) (s3_ : Int) : Option (Step Int (Res Unit (List Point))) :=
 bif decide (s3_ < (s1.length : Int)) then (
  bindR (σ := Unit) (ρ := (Step Int (Res Unit (List Point)))) (
   need (inR s1 s3_) <|
   need (inR s1 (W (s3_ - 1))) <|
   bif decide ((gx s1 s3_) = (gx s1 (W (s3_ - 1)))) then (
    need (segR s1.length s3_ (s1.length : Int)) <|
    Option.bind (α := (Int × (List Point))) (
     loop (slices_Compact_Point_L2 s1 s3_) (s3_, 1, s1)) fun j_10 =>
    need (segR j_10.2.length j_10.1 (j_10.2.length : Int)) <|
    bnd (j_10.2.take j_10.1.toNat ++ List.replicate (j_10.2.length - j_10.1.toNat) (⟨(0 : Int), (0 : Int)⟩ : Point)) fun s3 =>
    need (segR s3.length 0 j_10.1) <|
    bnd (seg s3 0 j_10.1) fun v2 =>
    some (Res.ab (Step.done (Res.ab v2))))
   else (
    some (Res.nx ()))) fun j_5 =>
  bnd (W (s3_ + 1)) fun k2 =>
  some (Step.again k2))
 else (
  some (Step.done (Res.nx ())))

/-- slices.Compact[[]api.Point,api.Point] -/
noncomputable def slices_Compact_Point (s1 : (List Point)) : Option (List Point) :=
 bif decide ((s1.length : Int) < 2) then (
  some s1)
 else (
  bindR (σ := Unit) (ρ := (List Point)) (
   loop (slices_Compact_Point_L1 s1) 1) fun j_2 =>
  some s1)

noncomputable def geom_Convex_2_L2 (v1 : Point) (s8_ : (List Point)) : Option (Step (List Point) (List Point)) :=
 need ((decide (2 ≤ (s8_.length : Int))) = true → inR s8_ (W ((s8_.length : Int) - 2))) <|
 need ((decide (2 ≤ (s8_.length : Int))) = true → inR s8_ (W ((s8_.length : Int) - 1))) <|
 Option.bind (gd ((decide (2 ≤ (s8_.length : Int)))) (geom_bend (gx s8_ (W ((s8_.length : Int) - 2))) (gx s8_ (W ((s8_.length : Int) - 1))) v1)) fun r1 =>
 bif (decide (2 ≤ (s8_.length : Int))) && (decide (r1 ≤ 0)) then (
  need (segR s8_.length 0 (W ((s8_.length : Int) - 1))) <|
  some (Step.again (seg s8_ 0 (W ((s8_.length : Int) - 1)))))
 else (
  some (Step.done s8_))

noncomputable def geom_Convex_2_L1 (l1 : (List Point)) (i : Int) (s : (List Point)) : Option (List Point) :=
 need (inR l1 i) <|
 bnd (gx l1 i) fun v1 =>
 Option.bind (α := (List Point)) (
  loop (geom_Convex_2_L2 v1) s) fun j_7 =>
 need (room (j_7.length + [v1].length)) <|
 some (j_7 ++ [v1])

/-- geom.Convex$2 -/
noncomputable def geom_Convex_2 (l1 : (List Point)) : Option (List Point) :=
 Option.bind (α := (List Point)) (
  rfor (l1.length : Int) (geom_Convex_2_L1 l1) ([] : List Point)) fun j_1 =>
 need (segR j_1.length 0 (W ((j_1.length : Int) - 1))) <|
 bnd (seg j_1 0 (W ((j_1.length : Int) - 1))) fun v2 =>
 some v2

noncomputable def slices_Reverse_Point_L1  (s2_ : (Int × Int × (List Point))) : Option (Step (Int × Int × (List Point)) (List Point)) :=
 bif decide (s2_.1 < s2_.2.1) then (
  need (inR s2_.2.2 s2_.2.1) <|
  bnd (gx s2_.2.2 s2_.2.1) fun v1 =>
  need (inR s2_.2.2 s2_.1) <|
  bnd (gx s2_.2.2 s2_.1) fun v2 =>
  need (inR s2_.2.2 s2_.1) <|
  need (inR (s2_.2.2.set s2_.1.toNat v1) s2_.2.1) <|
  bnd ((s2_.2.2.set s2_.1.toNat v1).set s2_.2.1.toNat v2) fun s2 =>
  bnd (W (s2_.1 + 1)) fun i1 =>
  bnd (W (s2_.2.1 - 1)) fun j2 =>
  some (Step.again (i1, j2, s2)))
 else (
  some (Step.done s2_.2.2))

/-- slices.Reverse[[]api.Point,api.Point] -/
noncomputable def slices_Reverse_Point (s1 : (List Point)) : Option (List Point) :=
 bnd (W ((s1.length : Int) - 1)) fun j1 =>
 loop slices_Reverse_Point_L1 (0, j1, s1)

/-- geom.Convex -/
noncomputable def geom_Convex (l1 : (List Point)) : Option ((List Point) × Int) :=
 Option.bind (geom_CheckPoints l1) fun e1 =>
 bif !decide (e1 = 0) then (
  some (([] : (List Point)), e1))
 else (
  bif decide ((l1.length : Int) = 0) then (
   some (([] : (List Point)), 9))
  else (
   Option.bind (slices_Clone_Point l1) fun l2 =>
   Option.bind (slices_SortFunc_Point l2) fun r1 =>
   Option.bind (slices_Compact_Point r1) fun l3 =>
   bif decide ((l3.length : Int) = 1) then (
    some (l3, 0))
   else (
    Option.bind (geom_Convex_2 l3) fun there1 =>
    Option.bind (slices_Reverse_Point l3) fun r2 =>
    Option.bind (geom_Convex_2 r2) fun r3 =>
    need (room (there1.length + r3.length)) <|
    some (there1 ++ r3, 0))))

/-- drawref1.ConvexOf$1 -/
noncomputable def ref_ConvexOf_1 (a1 : Point) (b1 : Point) : Option Int :=
 bif !decide (a1.X = b1.X) then (
  some (W (a1.X - b1.X)))
 else (
  some (W (a1.Y - b1.Y)))

noncomputable def slices_MinFunc_Point_L1 (x1 : (List Point)) (cmp1 : (Point → Point → Option Int)) (s6_ : (Int × Point)) : Option (Step (Int × Point) Point) :=
 bif decide (s6_.1 < (x1.length : Int)) then (
  Option.bind (α := Point) (
   need (inR x1 s6_.1) <|
   Option.bind (cmp1 (gx x1 s6_.1) s6_.2) fun r1 =>
   bif decide (r1 < 0) then (
    need (inR x1 s6_.1) <|
    bnd (gx x1 s6_.1) fun v3 =>
    some v3)
   else (
    some s6_.2)) fun j_8 =>
  bnd (W (s6_.1 + 1)) fun i1 =>
  some (Step.again (i1, j_8)))
 else (
  some (Step.done s6_.2))

/-- slices.MinFunc[[]api.Point,api.Point] -/
noncomputable def slices_MinFunc_Point (x1 : (List Point)) (cmp1 : (Point → Point → Option Int)) : Option Point :=
 bnd ((⟨(0 : Int), (0 : Int)⟩ : Point)) fun v1 =>
 bif decide ((x1.length : Int) < 1) then (
  none)
 else (
  need (inR x1 0) <|
  bnd (gx x1 0) fun v2 =>
  Option.bind (α := Point) (
   loop (slices_MinFunc_Point_L1 x1 cmp1) (1, v2)) fun j_5 =>
  some j_5)

/-- drawref1.Sign -/
noncomputable def ref_Sign (n1 : Int) : Option Int :=
 some (min (max n1 (-1)) 1)

/-- drawref1.side -/
noncomputable def ref_side (a1 : Point) (b1 : Point) (p1 : Point) : Option Int :=
 Option.bind (ref_Sign (W ((W ((W (b1.X - a1.X)) * (W (p1.Y - a1.Y)))) - (W ((W (b1.Y - a1.Y)) * (W (p1.X - a1.X))))))) fun r1 =>
 some r1

/-- drawref1.Far -/
noncomputable def ref_Far (a1 : Point) (b1 : Point) : Option Int :=
 Option.bind (ref_Abs (W (a1.X - b1.X))) fun r1 =>
 Option.bind (ref_Abs (W (a1.Y - b1.Y))) fun r2 =>
 some (W (r1 + r2))

noncomputable def ref_ConvexOf_L2 (l1 : (List Point)) (v1 : Point) (i : Int) (s : (Bool × Point)) : Option (Bool × Point) :=
 need (inR l1 i) <|
 bnd (gx l1 i) fun v2 =>
 bif decide (v2 = v1) then (
  some (s.1, s.2))
 else (
  bif !s.1 then (
   some (true, v2))
  else (
   Option.bind (ref_side v1 s.2 v2) fun s1 =>
   Option.bind (gd (!(decide (s1 < 0)) && (decide (s1 = 0))) (ref_Far v1 v2)) fun r2 =>
   Option.bind (gd (!(decide (s1 < 0)) && (decide (s1 = 0))) (ref_Far v1 s.2)) fun r3 =>
   bif (decide (s1 < 0)) || ((decide (s1 = 0)) && (decide (r3 < r2))) then (
    some (s.1, v2))
   else (
    some (s.1, s.2))))

noncomputable def ref_ConvexOf_L1 (l1 : (List Point)) (r1 : Point) (s3_ : (List Point)) : Option (Step (List Point) (List Point)) :=
 need (inR s3_ (W ((s3_.length : Int) - 1))) <|
 bnd (gx s3_ (W ((s3_.length : Int) - 1))) fun v1 =>
 Option.bind (α := (Bool × Point)) (
  rfor (l1.length : Int) (ref_ConvexOf_L2 l1 v1) (false, v1)) fun j_6 =>
 bif (!j_6.1) || (decide (j_6.2 = r1)) then (
  some (Step.done s3_))
 else (
  need (room (s3_.length + [j_6.2].length)) <|
  some (Step.again (s3_ ++ [j_6.2])))

/-- drawref1.ConvexOf -/
noncomputable def ref_ConvexOf (l1 : (List Point)) : Option (List Point) :=
 Option.bind (slices_MinFunc_Point l1 ref_ConvexOf_1) fun r1 =>
 bnd ([r1]) fun out1 =>
 loop (ref_ConvexOf_L1 l1 r1) out1

/-- drawlaw1.AreasMatch$3 -/
noncomputable def law_AreasMatch_3 (c0_1 : (List Point)) : Option (List Point) :=
 Option.bind (ref_ConvexOf c0_1) fun r1 =>
 some r1

noncomputable def slices_Equal_Point_L1 (s1_1 : (List Point)) (s2_1 : (List Point)) (i : Int) (s : Unit) : Option (Res Unit (Res Unit Bool)) :=
 need (inR s1_1 i) <|
 need (inR s2_1 i) <|
 bif !decide ((gx s1_1 i) = (gx s2_1 i)) then (
  some (Res.ab (Res.ab false)))
 else (
  some (Res.nx ()))

/-- slices.Equal[[]api.Point,api.Point] -/
noncomputable def slices_Equal_Point (s1_1 : (List Point)) (s2_1 : (List Point)) : Option Bool :=
 bif !decide ((s1_1.length : Int) = (s2_1.length : Int)) then (
  some false)
 else (
  bindR (σ := Unit) (ρ := Bool) (
   rforE (s1_1.length : Int) (slices_Equal_Point_L1 s1_1 s2_1) (fun s => Res.nx s) ()) fun j_2 =>
  some true)

/-- drawlaw1.lists[api.Point] -/
noncomputable def law_lists_Point (got1 : (List Point)) (e1 : Int) (want1 : Int) (right1 : (Option (List Point))) : Option Bool :=
 bif !decide (want1 = 0) then (
  some ((decide ((got1.length : Int) = 0)) && (decide (e1 = want1))))
 else (
  Option.bind (gd ((decide (e1 = 0))) (right1)) fun r1 =>
  Option.bind (gd ((decide (e1 = 0))) (slices_Equal_Point got1 r1)) fun r2 =>
  some ((decide (e1 = 0)) && r2))

/-- drawlaw1.AreasMatch$4 -/
noncomputable def law_AreasMatch_4 (c0_1 : (List Point)) : Option (List Point) :=
 Option.bind (ref_ConvexOf c0_1) fun r1 =>
 some r1

/-- drawlaw1.AreasMatch$5 -/
noncomputable def law_AreasMatch_5 (q1 : Point) (c0_1 : (List Point)) : Option Bool :=
 Option.bind (ref_InsideOf c0_1 q1) fun r1 =>
 some (decide (r1 < 0))

noncomputable def slices_IndexFunc_Point_L1 (f1 : (Point → Option Bool)) (s1 : (List Point)) (i : Int) (s : Unit) : Option (Res Unit (Res Unit Int)) :=
 need (inR s1 i) <|
 Option.bind (f1 (gx s1 i)) fun r1 =>
 bif r1 then (
  some (Res.ab (Res.ab i)))
 else (
  some (Res.nx ()))

/-- slices.IndexFunc[[]api.Point,api.Point] -/
noncomputable def slices_IndexFunc_Point (s1 : (List Point)) (f1 : (Point → Option Bool)) : Option Int :=
 bindR (σ := Unit) (ρ := Int) (
  rforE (s1.length : Int) (slices_IndexFunc_Point_L1 f1 s1) (fun s => Res.nx s) ()) fun j_1 =>
 some (-1)

/-- slices.ContainsFunc[[]api.Point,api.Point] -/
noncomputable def slices_ContainsFunc_Point (s1 : (List Point)) (f1 : (Point → Option Bool)) : Option Bool :=
 Option.bind (slices_IndexFunc_Point s1 f1) fun r1 =>
 some (decide (0 ≤ r1))

/-- drawlaw1.AreasMatch -/
noncomputable def law_AreasMatch (l1 : (List Point)) (p1 : Point) : Option Bool :=
 Option.bind (ref_PointsError l1) fun own1 =>
 Option.bind (ref_When (decide ((l1.length : Int) < 3)) 2) fun few1 =>
 Option.bind (geom_Area l1) fun r1 =>
 Option.bind (geom_Inside l1 p1) fun r2 =>
 Option.bind (law_geoms) fun r3 =>
 Option.bind (gd (!(!r3)) (ref_First [own1, few1])) fun r4 =>
 Option.bind (gd (!(!r3)) (law_is_int r1.1 r1.2 r4 (law_AreasMatch_1 l1))) fun r5 =>
 Option.bind (gd (!((!r3) || (!r5))) (ref_PointError p1)) fun r6 =>
 Option.bind (gd (!((!r3) || (!r5))) (ref_First [own1, r6, few1])) fun r7 =>
 Option.bind (gd (!((!r3) || (!r5))) (law_is_int r2.1 r2.2 r7 (law_AreasMatch_2 l1 p1))) fun r8 =>
 bif ((!r3) || (!r5)) || (!r8) then (
  some false)
 else (
  Option.bind (geom_Convex l1) fun r9 =>
  Option.bind (ref_When (decide ((l1.length : Int) = 0)) 9) fun r10 =>
  Option.bind (ref_First [own1, r10]) fun want1 =>
  Option.bind (law_lists_Point r9.1 r9.2 want1 (law_AreasMatch_3 l1)) fun r11 =>
  bif ((!r11) || (!decide (want1 = 0))) || (decide ((r9.1.length : Int) < 3)) then (
   Option.bind (law_lists_Point r9.1 r9.2 want1 (law_AreasMatch_4 l1)) fun r12 =>
   some r12)
  else (
   Option.bind (slices_ContainsFunc_Point l1 (fun x0 => law_AreasMatch_5 x0 r9.1)) fun r13 =>
   some (!r13)))


end Go.DB
