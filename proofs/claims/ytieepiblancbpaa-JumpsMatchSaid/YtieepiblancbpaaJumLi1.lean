/-
  What the functions compute, as plain functions (printed by a program of one's own).
-/
import Derived.Test.YtieepiblancbpaaJumTy
set_option maxRecDepth 100000
set_option linter.unusedSimpArgs false
set_option linter.unusedVariables false
namespace Go.DB
open Go Go.RowKit

/-- slices.Compact[[]int,int] -/
noncomputable def slices_Compact_int (l : List Int) : Option (List Int) := need ((l.length : Int) < 4611686018427387904) (some (compactI l))

/-- slices.Sort[[]int,int] -/
noncomputable def slices_Sort_int (l : List Int) : Option (List Int) := need ((l.length : Int) < 4611686018427387904) (some (sortI l))

def sortQ_Geom_rail (x : Geom_rail) : Prop := -1000000 ≤ x.at_ ∧ x.at_ ≤ 1000000
instance : Inhabited { x : Geom_rail // sortQ_Geom_rail x } := ⟨⟨⟨0, 0, 0, 0, false⟩, by unfold sortQ_Geom_rail; decide⟩⟩
def sortC_Geom_rail (x y : { x : Geom_rail // sortQ_Geom_rail x }) : Int := W (x.1.at_ - y.1.at_)

/-- slices.SortFunc[[]drawboard/geom.rail,drawboard/geom.rail] -/
noncomputable def slices_SortFunc_rail (l : List Geom_rail) : Option (List Geom_rail) := need ((l.length : Int) < 4611686018427387904 ∧ ∀ x ∈ l, sortQ_Geom_rail x) (some (sortF sortC_Geom_rail l))

/-- geom.out -/
noncomputable def geom_out (n1 : Int) : Option Bool :=
  some ((decide (n1 < (-1000000))) || (decide (1000000 < n1)))

/-- geom.CheckPoint -/
noncomputable def geom_CheckPoint (p1 : Point) : Option Int :=
  Option.bind (geom_out p1.X) fun r1 =>
  Option.bind (gd (!r1) (geom_out p1.Y)) fun r2 =>
  bif r1 || r2 then (
    some 3)
  else (
    some 0)

noncomputable def geom_points_L1 (l1 : (List Point)) (i : Int) (s : Unit) : Option (Res Unit (Res Unit Int)) :=
  need (inR l1 i) <|
  bnd (gx l1 i) fun v1 =>
  Option.bind (geom_CheckPoint v1) fun e1 =>
  bif !decide (e1 = 0) then (
    some (Res.ab (Res.ab e1)))
  else (
    some (Res.nx ()))

/-- geom.points -/
noncomputable def geom_points (l1 : (List Point)) : Option Int :=
  bindR (σ := Unit) (ρ := Int) (
    rforE (l1.length : Int) (geom_points_L1 l1) (fun s => Res.nx s) ()) fun j_1 =>
  some 0

/-- geom.CheckPoints -/
noncomputable def geom_CheckPoints (l1 : (List Point)) : Option Int :=
  bif decide (1000 < (l1.length : Int)) then (
    some 4)
  else (
    Option.bind (geom_points l1) fun r1 =>
    some r1)

noncomputable def geom_CheckPath_L1 (l1 : (List Point)) (s5_ : Int) : Option (Step Int (Res Unit Int)) :=
  bif decide (s5_ < (l1.length : Int)) then (
    need (inR l1 s5_) <|
    need (inR l1 (W (s5_ - 1))) <|
    need (inR l1 s5_) <|
    need (inR l1 (W (s5_ - 1))) <|
    bif decide ((decide (((gx l1 s5_).X) = ((gx l1 (W (s5_ - 1))).X))) = (decide (((gx l1 s5_).Y) = ((gx l1 (W (s5_ - 1))).Y)))) then (
      some (Step.done (Res.ab 2)))
    else (
      bnd (W (s5_ + 1)) fun i1 =>
      some (Step.again i1)))
  else (
    some (Step.done (Res.nx ())))

/-- geom.CheckPath -/
noncomputable def geom_CheckPath (l1 : (List Point)) : Option Int :=
  Option.bind (geom_CheckPoints l1) fun e1 =>
  bif !decide (e1 = 0) then (
    some e1)
  else (
    bif decide ((l1.length : Int) < 2) then (
      some 2)
    else (
      bindR (σ := Unit) (ρ := Int) (
        loop (geom_CheckPath_L1 l1) 1) fun j_4 =>
      some 0))

/-- geom.apart -/
noncomputable def geom_apart (a1 : Point) (b1 : Point) : Option Int :=
  bnd (W (a1.X - b1.X)) fun x1 =>
  bnd (W (a1.Y - b1.Y)) fun y1 =>
  some (W ((max x1 (W (-x1))) + (max y1 (W (-y1)))))

noncomputable def geom_rails_L1 (l1 : (List Point)) (s2_ : ((List Geom_rail) × (List Geom_rail) × Int × Int)) : Option (Step ((List Geom_rail) × (List Geom_rail) × Int × Int) ((List Geom_rail) × (List Geom_rail))) :=
  bif decide (s2_.2.2.2 < (l1.length : Int)) then (
    need (inR l1 (W (s2_.2.2.2 - 1))) <|
    bnd (gx l1 (W (s2_.2.2.2 - 1))) fun v1 =>
    need (inR l1 s2_.2.2.2) <|
    bnd (gx l1 s2_.2.2.2) fun v2 =>
    Option.bind (α := ((List Geom_rail) × (List Geom_rail))) (
      bif decide (v1.Y = v2.Y) then (
        need (room (s2_.1.length + [(⟨v1.Y, min v1.X v2.X, max v1.X v2.X, s2_.2.2.1, decide (v2.X < v1.X)⟩ : Geom_rail)].length)) <|
        some (s2_.1 ++ [(⟨v1.Y, min v1.X v2.X, max v1.X v2.X, s2_.2.2.1, decide (v2.X < v1.X)⟩ : Geom_rail)], s2_.2.1))
      else (
        need (room (s2_.2.1.length + [(⟨v1.X, min v1.Y v2.Y, max v1.Y v2.Y, s2_.2.2.1, decide (v2.Y < v1.Y)⟩ : Geom_rail)].length)) <|
        some (s2_.1, s2_.2.1 ++ [(⟨v1.X, min v1.Y v2.Y, max v1.Y v2.Y, s2_.2.2.1, decide (v2.Y < v1.Y)⟩ : Geom_rail)]))) fun j_8 =>
    Option.bind (geom_apart v1 v2) fun r1 =>
    bnd (W (s2_.2.2.1 + r1)) fun along1 =>
    bnd (W (s2_.2.2.2 + 1)) fun i1 =>
    some (Step.again (j_8.1, j_8.2, along1, i1)))
  else (
    some (Step.done (s2_.1, s2_.2.1)))

/-- geom.rails -/
noncomputable def geom_rails (l1 : (List Point)) : Option ((List Geom_rail) × (List Geom_rail)) :=
  Option.bind (α := ((List Geom_rail) × (List Geom_rail))) (
    loop (geom_rails_L1 l1) (([] : List Geom_rail), ([] : List Geom_rail), 0, 1)) fun j_1 =>
  Option.bind (α := ((List Geom_rail) × (List Geom_rail))) (
    Option.bind (slices_SortFunc_rail j_1.1) fun r2 =>
    Option.bind (slices_SortFunc_rail j_1.2) fun r3 =>
    some (r2, r3)) fun j_15 =>
  some (j_15.1, j_15.2)

noncomputable def slices_BinarySearchFunc_int_L1 (x1 : (List Geom_rail)) (cmp1 : (Geom_rail → Int → Option Int)) (target1 : Int) (s3_ : (Int × Int)) : Option (Step (Int × Int) Int) :=
  bif decide (s3_.1 < s3_.2) then (
    bnd (W ((KI.of .u64 (W (s3_.1 + s3_.2))).shr 1).n) fun h1 =>
    need (inR x1 h1) <|
    Option.bind (cmp1 (gx x1 h1) target1) fun r1 =>
    bif decide (r1 < 0) then (
      bnd (W (h1 + 1)) fun i1 =>
      some (Step.again (i1, s3_.2)))
    else (
      some (Step.again (s3_.1, h1))))
  else (
    some (Step.done s3_.1))

/-- slices.BinarySearchFunc[[]geom.rail,geom.rail,int] -/
noncomputable def slices_BinarySearchFunc_int (x1 : (List Geom_rail)) (target1 : Int) (cmp1 : (Geom_rail → Int → Option Int)) : Option (Int × Bool) :=
  bnd ((x1.length : Int)) fun n1 =>
  Option.bind (α := Int) (
    loop (slices_BinarySearchFunc_int_L1 x1 cmp1 target1) (0, n1)) fun j_2 =>
  need ((decide (j_2 < n1)) = true → inR x1 j_2) <|
  Option.bind (gd ((decide (j_2 < n1))) (cmp1 (gx x1 j_2) target1)) fun r2 =>
  some (j_2, (decide (j_2 < n1)) && (decide (r2 = 0)))

/-- geom.crossed$1 -/
noncomputable def geom_crossed_1 (r1 : Geom_rail) (at1 : Int) : Option Int :=
  some (W (r1.at_ - at1))

noncomputable def geom_crossed_L2 (v1 : Geom_rail) (others1 : (List Geom_rail)) (s8_ : ((List Int) × Int)) : Option (Step ((List Int) × Int) (List Int)) :=
  need ((decide (s8_.2 < (others1.length : Int))) = true → inR others1 s8_.2) <|
  bif (decide (s8_.2 < (others1.length : Int))) && (decide (((gx others1 s8_.2).at_) < v1.to_)) then (
    Option.bind (α := (List Int)) (
      need (inR others1 s8_.2) <|
      bnd (gx others1 s8_.2) fun v2 =>
      bif (decide (v2.from_ < v1.at_)) && (decide (v1.at_ < v2.to_)) then (
        Option.bind (α := Int) (
          bif v1.back then (
            some (W (v1.to_ - v2.at_)))
          else (
            some (W (v2.at_ - v1.from_)))) fun j_15 =>
        need (room (s8_.1.length + [W (v1.along + j_15)].length)) <|
        some (s8_.1 ++ [W (v1.along + j_15)]))
      else (
        some s8_.1)) fun j_11 =>
    bnd (W (s8_.2 + 1)) fun k1 =>
    some (Step.again (j_11, k1)))
  else (
    some (Step.done s8_.1))

noncomputable def geom_crossed_L1 (mine1 : (List Geom_rail)) (others1 : (List Geom_rail)) (i : Int) (s : (List Int)) : Option (List Int) :=
  need (inR mine1 i) <|
  bnd (gx mine1 i) fun v1 =>
  Option.bind (slices_BinarySearchFunc_int others1 (W (v1.from_ + 1)) geom_crossed_1) fun r1 =>
  loop (geom_crossed_L2 v1 others1) (s, r1.1)

/-- geom.crossed -/
noncomputable def geom_crossed (mine1 : (List Geom_rail)) (others1 : (List Geom_rail)) (out1 : (List Int)) : Option (List Int) :=
  Option.bind (α := (List Int)) (
    rfor (mine1.length : Int) (geom_crossed_L1 mine1 others1) out1) fun j_1 =>
  some j_1

noncomputable def geom_Jumps_L1 (l1 : (List (List Point))) (i : Int) (s : Unit) : Option (Res Unit (Res Unit ((List (List Int)) × Int))) :=
  need (inR l1 i) <|
  Option.bind (geom_CheckPath (gx l1 i)) fun e1 =>
  bif !decide (e1 = 0) then (
    some (Res.ab (Res.ab (([] : (List (List Int))), e1))))
  else (
    some (Res.nx ()))

noncomputable def geom_Jumps_L3 (r1 : ((List Geom_rail) × (List Geom_rail))) (p10_ : Int × ((List (List Int)) × (List (List Geom_rail)) × (List (List Geom_rail)))) (i : Int) (s : (List Int)) : Option (List Int) :=
  need (inR p10_.2.2.2 i) <|
  Option.bind (geom_crossed r1.1 (gx p10_.2.2.2 i) s) fun jumps1 =>
  need (inR p10_.2.2.1 i) <|
  Option.bind (geom_crossed r1.2 (gx p10_.2.2.1 i) jumps1) fun jumps2 =>
  some jumps2

noncomputable def geom_Jumps_L2 (l1 : (List (List Point))) (i : Int) (s : ((List (List Int)) × (List (List Geom_rail)) × (List (List Geom_rail)))) : Option ((List (List Int)) × (List (List Geom_rail)) × (List (List Geom_rail))) :=
  need (inR l1 i) <|
  Option.bind (geom_rails (gx l1 i)) fun r1 =>
  Option.bind (α := (List Int)) (
    rfor (s.2.1.length : Int) (geom_Jumps_L3 r1 (i, s)) ([] : List Int)) fun j_15 =>
  need (room (s.2.1.length + [r1.1].length)) <|
  need (room (s.2.2.length + [r1.2].length)) <|
  bnd (s.2.1 ++ [r1.1]) fun overs1 =>
  bnd (s.2.2 ++ [r1.2]) fun downs1 =>
  Option.bind (slices_Sort_int j_15) fun r2 =>
  Option.bind (slices_Compact_int r2) fun r3 =>
  need (room (s.1.length + [r3].length)) <|
  some (s.1 ++ [r3], overs1, downs1)

/-- geom.Jumps -/
noncomputable def geom_Jumps (l1 : (List (List Point))) : Option ((List (List Int)) × Int) :=
  bif decide (100 < (l1.length : Int)) then (
    some (([] : (List (List Int))), 4))
  else (
    bindR (σ := Unit) (ρ := ((List (List Int)) × Int)) (
      rforE (l1.length : Int) (geom_Jumps_L1 l1) (fun s => Res.nx s) ()) fun j_2 =>
    Option.bind (α := ((List (List Int)) × (List (List Geom_rail)) × (List (List Geom_rail)))) (
      rfor (l1.length : Int) (geom_Jumps_L2 l1) (([] : List (List Int)), ([] : List (List Geom_rail)), ([] : List (List Geom_rail)))) fun j_9 =>
    some (j_9.1, 0))

/-- drawref1.When -/
noncomputable def ref_When (is1 : Bool) (e1 : Int) : Option Int :=
  bif is1 then (
    some e1)
  else (
    some 0)

/-- drawref1.In -/
noncomputable def ref_In (n1 : Int) (low1 : Int) (high1 : Int) : Option Bool :=
  some ((decide (low1 ≤ n1)) && (decide (n1 ≤ high1)))

/-- drawref1.PointError -/
noncomputable def ref_PointError (p1 : Point) : Option Int :=
  Option.bind (ref_In p1.X (-1000000) 1000000) fun r1 =>
  Option.bind (gd (!(!r1)) (ref_In p1.Y (-1000000) 1000000)) fun r2 =>
  Option.bind (ref_When ((!r1) || (!r2)) 3) fun r3 =>
  some r3

noncomputable def ref_PointsError_L1 (l1 : (List Point)) (i : Int) (s : Unit) : Option (Res Unit (Res Unit Int)) :=
  need (inR l1 i) <|
  bnd (gx l1 i) fun v1 =>
  Option.bind (ref_PointError v1) fun e1 =>
  bif !decide (e1 = 0) then (
    some (Res.ab (Res.ab e1)))
  else (
    some (Res.nx ()))

/-- drawref1.PointsError -/
noncomputable def ref_PointsError (l1 : (List Point)) : Option Int :=
  bif decide (1000 < (l1.length : Int)) then (
    some 4)
  else (
    bindR (σ := Unit) (ρ := Int) (
      rforE (l1.length : Int) (ref_PointsError_L1 l1) (fun s => Res.nx s) ()) fun j_2 =>
    some 0)

noncomputable def ref_IsRight_L1 (l1 : (List Point)) (s2_ : Int) : Option (Step Int (Res Unit Bool)) :=
  bif decide (s2_ < (l1.length : Int)) then (
    need (inR l1 s2_) <|
    need (inR l1 (W (s2_ - 1))) <|
    need (inR l1 s2_) <|
    need (inR l1 (W (s2_ - 1))) <|
    bif decide ((decide (((gx l1 s2_).X) = ((gx l1 (W (s2_ - 1))).X))) = (decide (((gx l1 s2_).Y) = ((gx l1 (W (s2_ - 1))).Y)))) then (
      some (Step.done (Res.ab false)))
    else (
      bnd (W (s2_ + 1)) fun i1 =>
      some (Step.again i1)))
  else (
    some (Step.done (Res.nx ())))

/-- drawref1.IsRight -/
noncomputable def ref_IsRight (l1 : (List Point)) : Option Bool :=
  bindR (σ := Unit) (ρ := Bool) (
    loop (ref_IsRight_L1 l1) 1) fun j_1 =>
  some (decide (1 < (l1.length : Int)))

noncomputable def ref_First_L1 (l1 : (List Int)) (i : Int) (s : Unit) : Option (Res Unit (Res Unit Int)) :=
  need (inR l1 i) <|
  bnd (gx l1 i) fun e1 =>
  bif !decide (e1 = 0) then (
    some (Res.ab (Res.ab e1)))
  else (
    some (Res.nx ()))

/-- drawref1.First -/
noncomputable def ref_First (l1 : (List Int)) : Option Int :=
  bindR (σ := Unit) (ρ := Int) (
    rforE (l1.length : Int) (ref_First_L1 l1) (fun s => Res.nx s) ()) fun j_1 =>
  some 0

/-- drawref1.PathError -/
noncomputable def ref_PathError (l1 : (List Point)) : Option Int :=
  Option.bind (ref_PointsError l1) fun r1 =>
  Option.bind (ref_IsRight l1) fun r2 =>
  Option.bind (ref_When (!r2) 2) fun r3 =>
  Option.bind (ref_First [r1, r3]) fun r4 =>
  some r4

/-- geom.sign -/
noncomputable def geom_sign (n1 : Int) : Option Int :=
  bif decide (0 < n1) then (
    some 1)
  else (
    bif decide (n1 < 0) then (
      some (-1))
    else (
      some 0))

/-- geom.bend -/
noncomputable def geom_bend (a1 : Point) (b1 : Point) (c1 : Point) : Option Int :=
  Option.bind (geom_sign (W ((W ((W (b1.X - a1.X)) * (W (c1.Y - b1.Y)))) - (W ((W (b1.Y - a1.Y)) * (W (c1.X - b1.X))))))) fun r1 =>
  some r1

/-- geom.Bend -/
noncomputable def geom_Bend (a1 : Point) (b1 : Point) (c1 : Point) : Option (Int × Int) :=
  Option.bind (geom_points [a1, b1, c1]) fun e1 =>
  bif !decide (e1 = 0) then (
    some (0, e1))
  else (
    Option.bind (geom_bend a1 b1 c1) fun r1 =>
    some (r1, 0))

/-- drawlaw1.geoms -/
noncomputable def law_geoms  : Option Bool :=
  Option.bind (geom_Bend (⟨(0 : Int), (0 : Int)⟩ : Point) (⟨1, (0 : Int)⟩ : Point) (⟨1, 1⟩ : Point)) fun r1 =>
  some ((decide (r1.2 = 0)) && (decide (r1.1 = 1)))

/-- drawref1.crossing -/
noncomputable def ref_crossing (a1 : Point) (b1 : Point) (c1 : Point) (d1 : Point) : Option (Point × Bool) :=
  bnd ((⟨(0 : Int), (0 : Int)⟩ : Point)) fun v1 =>
  Option.bind (α := (Point × Point × Point × Point)) (
    bif (decide (a1.X = b1.X)) && (decide (c1.Y = d1.Y)) then (
      some (c1, d1, a1, b1))
    else (
      some (a1, b1, c1, d1))) fun j_2 =>
  bif (!decide (j_2.1.Y = j_2.2.1.Y)) || (!decide (j_2.2.2.1.X = j_2.2.2.2.X)) then (
    bnd ((⟨(0 : Int), (0 : Int)⟩ : Point)) fun v2 =>
    some (v2, false))
  else (
    bnd ((⟨j_2.2.2.1.X, j_2.1.Y⟩ : Point)) fun v3 =>
    some (v3, (((decide ((min j_2.1.X j_2.2.1.X) < v3.X)) && (decide (v3.X < (max j_2.1.X j_2.2.1.X)))) && (decide ((min j_2.2.2.1.Y j_2.2.2.2.Y) < v3.Y))) && (decide (v3.Y < (max j_2.2.2.1.Y j_2.2.2.2.Y)))))

/-- drawref1.Abs -/
noncomputable def ref_Abs (n1 : Int) : Option Int :=
  some (max n1 (W (-n1)))

/-- drawref1.Far -/
noncomputable def ref_Far (a1 : Point) (b1 : Point) : Option Int :=
  Option.bind (ref_Abs (W (a1.X - b1.X))) fun r1 =>
  Option.bind (ref_Abs (W (a1.Y - b1.Y))) fun r2 =>
  some (W (r1 + r2))

noncomputable def ref_JumpsOf_L4 (a1 : (List Point)) (b1 : (List Point)) (p5_ : Int × (List (List Int))) (s11_ : (Int × Int × (List (List Int)))) (s22_ : (Int × (List (List Int)))) : Option (Step (Int × (List (List Int))) (List (List Int))) :=
  bif decide (s22_.1 < (b1.length : Int)) then (
    Option.bind (α := (List (List Int))) (
      need (inR a1 (W (s11_.2.1 - 1))) <|
      need (inR a1 s11_.2.1) <|
      need (inR b1 (W (s22_.1 - 1))) <|
      need (inR b1 s22_.1) <|
      Option.bind (ref_crossing (gx a1 (W (s11_.2.1 - 1))) (gx a1 s11_.2.1) (gx b1 (W (s22_.1 - 1))) (gx b1 s22_.1)) fun r1 =>
      bif r1.2 then (
        need (inR s22_.2 p5_.1) <|
        need (inR s22_.2 p5_.1) <|
        need (inR a1 (W (s11_.2.1 - 1))) <|
        Option.bind (ref_Far (gx a1 (W (s11_.2.1 - 1))) r1.1) fun r2 =>
        need (room ((gx s22_.2 p5_.1).length + [W (s11_.1 + r2)].length)) <|
        need (inR s22_.2 p5_.1) <|
        some (s22_.2.set p5_.1.toNat ((gx s22_.2 p5_.1) ++ [W (s11_.1 + r2)])))
      else (
        some s22_.2)) fun j_24 =>
    bnd (W (s22_.1 + 1)) fun j1 =>
    some (Step.again (j1, j_24)))
  else (
    some (Step.done s22_.2))

noncomputable def ref_JumpsOf_L3 (a1 : (List Point)) (v2 : (List (List Point))) (p5_ : Int × (List (List Int))) (s11_ : (Int × Int × (List (List Int)))) (i : Int) (s : (List (List Int))) : Option (List (List Int)) :=
  need (inR v2 i) <|
  bnd (gx v2 i) fun b1 =>
  loop (ref_JumpsOf_L4 a1 b1 p5_ s11_) (1, s)

noncomputable def ref_JumpsOf_L2 (a1 : (List Point)) (l1 : (List (List Point))) (p5_ : Int × (List (List Int))) (s11_ : (Int × Int × (List (List Int)))) : Option (Step (Int × Int × (List (List Int))) (List (List Int))) :=
  bif decide (s11_.2.1 < (a1.length : Int)) then (
    Option.bind (α := (Int × (List (List Int)))) (
      need (segR l1.length 0 p5_.1) <|
      bnd (seg l1 0 p5_.1) fun v2 =>
      Option.bind (α := (List (List Int))) (
        rfor (v2.length : Int) (ref_JumpsOf_L3 a1 v2 p5_ s11_) s11_.2.2) fun j_16 =>
      need (inR a1 (W (s11_.2.1 - 1))) <|
      need (inR a1 s11_.2.1) <|
      Option.bind (ref_Far (gx a1 (W (s11_.2.1 - 1))) (gx a1 s11_.2.1)) fun r3 =>
      bnd (W (s11_.1 + r3)) fun at1 =>
      some (at1, j_16)) fun j_13 =>
    bnd (W (s11_.2.1 + 1)) fun i1 =>
    some (Step.again (j_13.1, i1, j_13.2)))
  else (
    some (Step.done s11_.2.2))

noncomputable def ref_JumpsOf_L1 (l1 : (List (List Point))) (i : Int) (s : (List (List Int))) : Option (List (List Int)) :=
  need (inR l1 i) <|
  bnd (gx l1 i) fun a1 =>
  Option.bind (α := (List (List Int))) (
    loop (ref_JumpsOf_L2 a1 l1 (i, s)) (0, 1, s)) fun j_10 =>
  need (inR j_10 i) <|
  need (inR j_10 i) <|
  Option.bind (slices_Sort_int (gx j_10 i)) fun r4 =>
  bnd (j_10.set i.toNat r4) fun out2 =>
  need (inR out2 i) <|
  need (inR out2 i) <|
  Option.bind (slices_Compact_int (gx out2 i)) fun r5 =>
  need (inR out2 i) <|
  some (out2.set i.toNat r5)

/-- drawref1.JumpsOf -/
noncomputable def ref_JumpsOf (l1 : (List (List Point))) : Option (List (List Int)) :=
  bnd ((l1.length : Int)) fun v1 =>
  need (0 ≤ v1 ∧ v1 ≤ v1 ∧ v1 ≤ 1073741824) <|
  bnd (List.replicate v1.toNat ([] : (List Int))) fun out1 =>
  Option.bind (α := (List (List Int))) (
    rfor (l1.length : Int) (ref_JumpsOf_L1 l1) out1) fun j_4 =>
  some j_4

noncomputable def slices_EqualFunc_Lint_L1 (eq1 : ((List Int) → (List Int) → Option Bool)) (s1_1 : (List (List Int))) (s2_1 : (List (List Int))) (i : Int) (s : Unit) : Option (Res Unit (Res Unit Bool)) :=
  need (inR s1_1 i) <|
  need (inR s2_1 i) <|
  Option.bind (eq1 (gx s1_1 i) (gx s2_1 i)) fun r1 =>
  bif !r1 then (
    some (Res.ab (Res.ab false)))
  else (
    some (Res.nx ()))

/-- slices.EqualFunc[[][]int,[][]int,[]int,[]int] -/
noncomputable def slices_EqualFunc_Lint (s1_1 : (List (List Int))) (s2_1 : (List (List Int))) (eq1 : ((List Int) → (List Int) → Option Bool)) : Option Bool :=
  bif !decide ((s1_1.length : Int) = (s2_1.length : Int)) then (
    some false)
  else (
    bindR (σ := Unit) (ρ := Bool) (
      rforE (s1_1.length : Int) (slices_EqualFunc_Lint_L1 eq1 s1_1 s2_1) (fun s => Res.nx s) ()) fun j_2 =>
    some true)

noncomputable def slices_Equal_int_L1 (s1_1 : (List Int)) (s2_1 : (List Int)) (i : Int) (s : Unit) : Option (Res Unit (Res Unit Bool)) :=
  need (inR s1_1 i) <|
  need (inR s2_1 i) <|
  bif !decide ((gx s1_1 i) = (gx s2_1 i)) then (
    some (Res.ab (Res.ab false)))
  else (
    some (Res.nx ()))

/-- slices.Equal[[]int,int] -/
noncomputable def slices_Equal_int (s1_1 : (List Int)) (s2_1 : (List Int)) : Option Bool :=
  bif !decide ((s1_1.length : Int) = (s2_1.length : Int)) then (
    some false)
  else (
    bindR (σ := Unit) (ρ := Bool) (
      rforE (s1_1.length : Int) (slices_Equal_int_L1 s1_1 s2_1) (fun s => Res.nx s) ()) fun j_2 =>
    some true)

/-- drawlaw1.JumpsMatch$1 -/
noncomputable def law_JumpsMatch_1 (a1 : (List Int)) (b1 : (List Int)) : Option Bool :=
  Option.bind (slices_Equal_int a1 b1) fun r1 =>
  some r1

noncomputable def law_JumpsMatch_L1 (l1 : (List (List Point))) (i : Int) (s : Int) : Option Int :=
  need (inR l1 i) <|
  Option.bind (ref_PathError (gx l1 i)) fun r2 =>
  Option.bind (ref_First [s, r2]) fun want2 =>
  some want2

/-- drawlaw1.JumpsMatch -/
noncomputable def law_JumpsMatch (l1 : (List (List Point))) : Option Bool :=
  Option.bind (geom_Jumps l1) fun r1 =>
  Option.bind (ref_When (decide (100 < (l1.length : Int))) 4) fun want1 =>
  Option.bind (α := Int) (
    rfor (l1.length : Int) (law_JumpsMatch_L1 l1) want1) fun j_3 =>
  Option.bind (law_geoms) fun r3 =>
  bif (!r3) || (!decide (j_3 = 0)) then (
    Option.bind (law_geoms) fun r4 =>
    some ((r4 && (decide ((r1.1.length : Int) = 0))) && (decide (r1.2 = j_3))))
  else (
    Option.bind (gd ((decide (r1.2 = 0))) (ref_JumpsOf l1)) fun r5 =>
    Option.bind (gd ((decide (r1.2 = 0))) (slices_EqualFunc_Lint r1.1 r5 law_JumpsMatch_1)) fun r6 =>
    some ((decide (r1.2 = 0)) && r6))


end Go.DB
