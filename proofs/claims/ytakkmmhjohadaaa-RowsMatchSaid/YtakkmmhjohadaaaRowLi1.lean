/-
  What the functions compute, as plain functions (printed by a program of one's own).
-/
import Derived.Test.YtakkmmhjohadaaaRowTy
set_option maxRecDepth 100000
set_option linter.unusedSimpArgs false
set_option linter.unusedVariables false
namespace Go.DB
open Go Go.RowKit

noncomputable def slices_Equal_Point_L1 (s1_1 : (List Point)) (s2_1 : (List Point)) (i : Int) (s : Unit) : Option (Res Unit (Res Unit Bool)) :=
  need (inR s1_1 i) <|
  need (inR s2_1 i) <|
  bif !decide ((gx s1_1 i) = (gx s2_1 i)) then (
    some (Res.ab (Res.ab false)))
  else (
    some (Res.nx ()))

/-- slices.Equal[[]api.Point,api.Point] -/
noncomputable def slices_Equal_Point (s1_1 : (List Point)) (s2_1 : (List Point)) : Option Bool :=
  bif !decide ((s1_1.length : Int) = (s2_1.length : Int)) then (
    some false)
  else (
    bindR (σ := Unit) (ρ := Bool) (
      rforE (s1_1.length : Int) (slices_Equal_Point_L1 s1_1 s2_1) (fun s => Res.nx s) ()) fun j_2 =>
    some true)

noncomputable def ref_RowsOf_L1 (gap1 : Int) (sizes1 : (List Point)) (width1 : Int) (i : Int) (s : ((List Point) × Int × Int × Int)) : Option ((List Point) × Int × Int × Int) :=
  need (inR sizes1 i) <|
  bnd (gx sizes1 i) fun v1 =>
  Option.bind (α := (Int × Int × Int)) (
    bif (decide (0 < s.2.1)) && (decide (width1 < (W (s.2.1 + v1.X)))) then (
      bnd (W ((W (s.2.2.1 + s.2.2.2)) + gap1)) fun y1 =>
      some (0, y1, 0))
    else (
      some (s.2.1, s.2.2.1, s.2.2.2))) fun j_7 =>
  need (room (s.1.length + [(⟨j_7.1, j_7.2.1⟩ : Point)].length)) <|
  bnd (s.1 ++ [(⟨j_7.1, j_7.2.1⟩ : Point)]) fun out1 =>
  bnd (W (j_7.1 + (W (v1.X + gap1)))) fun x1 =>
  bnd (max j_7.2.2 v1.Y) fun high1 =>
  some (out1, x1, j_7.2.1, high1)

/-- drawref1.RowsOf -/
noncomputable def ref_RowsOf (sizes1 : (List Point)) (width1 : Int) (gap1 : Int) : Option ((List Point) × Int) :=
  Option.bind (α := ((List Point) × Int × Int × Int)) (
    rfor (sizes1.length : Int) (ref_RowsOf_L1 gap1 sizes1 width1) (([] : List Point), 0, 0, 0)) fun j_1 =>
  some (j_1.1, W (j_1.2.2.1 + j_1.2.2.2))

noncomputable def tree_levels_L2 (t1 : (List Branch)) (s3_ : ((List (List Int)) × (List Int))) (i : Int) (s : (List Int)) : Option (List Int) :=
  need (inR s3_.2 i) <|
  need (inR t1 (gx s3_.2 i)) <|
  need (room (s.length + ((gx t1 (gx s3_.2 i)).Kids).length)) <|
  some (s ++ ((gx t1 (gx s3_.2 i)).Kids))

noncomputable def tree_levels_L1 (t1 : (List Branch)) (s3_ : ((List (List Int)) × (List Int))) : Option (Step ((List (List Int)) × (List Int)) (List (List Int))) :=
  bif decide (0 < (s3_.2.length : Int)) then (
    need (room (s3_.1.length + [s3_.2].length)) <|
    bnd (s3_.1 ++ [s3_.2]) fun out1 =>
    Option.bind (α := (List Int)) (
      rfor (s3_.2.length : Int) (tree_levels_L2 t1 s3_) ([] : List Int)) fun j_7 =>
    some (Step.again (out1, j_7)))
  else (
    some (Step.done s3_.1))

/-- tree.levels -/
noncomputable def tree_levels (t1 : (List Branch)) : Option (List (List Int)) :=
  bnd ([0]) fun l1 =>
  Option.bind (α := (List (List Int))) (
    loop (tree_levels_L1 t1) (([] : List (List Int)), l1)) fun j_2 =>
  some j_2

noncomputable def slices_Index_bool_L1 (s1 : (List Bool)) (v1 : Bool) (i : Int) (s : Unit) : Option (Res Unit (Res Unit Int)) :=
  need (inR s1 i) <|
  bif decide (v1 = (gx s1 i)) then (
    some (Res.ab (Res.ab i)))
  else (
    some (Res.nx ()))

/-- slices.Index[[]bool,bool] -/
noncomputable def slices_Index_bool (s1 : (List Bool)) (v1 : Bool) : Option Int :=
  bindR (σ := Unit) (ρ := Int) (
    rforE (s1.length : Int) (slices_Index_bool_L1 s1 v1) (fun s => Res.nx s) ()) fun j_1 =>
  some (-1)

/-- slices.Contains[[]bool,bool] -/
noncomputable def slices_Contains_bool (s1 : (List Bool)) (v1 : Bool) : Option Bool :=
  Option.bind (slices_Index_bool s1 v1) fun r1 =>
  some (decide (0 ≤ r1))

/-- tree.Check$1 -/
noncomputable def tree_Check_1 (n1 : Int) : Option Bool :=
  some ((decide (1 ≤ n1)) && (decide (n1 ≤ 1000)))

noncomputable def tree_Check_L2 (t1 : (List Branch)) (v2 : Branch) (i : Int) (s : (List Bool)) : Option (Res (List Bool) (Res (List Bool) (Res (List Bool) Int))) :=
  need (inR v2.Kids i) <|
  bnd (gx v2.Kids i) fun k1 =>
  bif (decide (k1 < 0)) || (decide ((t1.length : Int) ≤ k1)) then (
    some (Res.ab (Res.ab (Res.ab 10))))
  else (
    bif decide (k1 = 0) then (
      some (Res.ab (Res.ab (Res.ab 13))))
    else (
      need (inR s k1) <|
      bif gx s k1 then (
        some (Res.ab (Res.ab (Res.ab 6))))
      else (
        need (inR s k1) <|
        some (Res.nx (s.set k1.toNat true)))))

noncomputable def tree_Check_L1 (t1 : (List Branch)) (i : Int) (s : (List Bool)) : Option (Res (List Bool) (Res (List Bool) Int)) :=
  need (inR t1 i) <|
  bnd (gx t1 i) fun v2 =>
  Option.bind (tree_Check_1 v2.W_) fun r1 =>
  Option.bind (gd (!(!r1)) (tree_Check_1 v2.H)) fun r2 =>
  bif (!r1) || (!r2) then (
    some (Res.ab (Res.ab 3)))
  else (
    rforE (v2.Kids.length : Int) (tree_Check_L2 t1 v2) (fun s => Res.nx s) s)

noncomputable def tree_Check_L3 (r4 : (List (List Int))) (i : Int) (s : Int) : Option Int :=
  need (inR r4 i) <|
  bnd (W (s + ((gx r4 i).length : Int))) fun many1 =>
  some many1

/-- tree.Check -/
noncomputable def tree_Check (t1 : (List Branch)) : Option Int :=
  bif decide ((t1.length : Int) = 0) then (
    some 9)
  else (
    bif decide (300 < (t1.length : Int)) then (
      some 4)
    else (
      bnd ((t1.length : Int)) fun v1 =>
      need (0 ≤ v1 ∧ v1 ≤ v1 ∧ v1 ≤ 1073741824) <|
      bnd (List.replicate v1.toNat false) fun isKid1 =>
      bindR (σ := (List Bool)) (ρ := Int) (
        rforE (t1.length : Int) (tree_Check_L1 t1) (fun s => Res.nx s) isKid1) fun j_6 =>
      need (segR j_6.length 1 (j_6.length : Int)) <|
      Option.bind (slices_Contains_bool (seg j_6 1 (j_6.length : Int)) false) fun r3 =>
      bif r3 then (
        some 2)
      else (
        Option.bind (tree_levels t1) fun r4 =>
        Option.bind (α := Int) (
          rfor (r4.length : Int) (tree_Check_L3 r4) 0) fun j_29 =>
        bif decide (j_29 < (t1.length : Int)) then (
          some 13)
        else (
          some 0))))

/-- drawlaw1.trees -/
noncomputable def law_trees  : Option Bool :=
  Option.bind (tree_Check [(⟨1, 1, ([] : (List Int))⟩ : Branch)]) fun r1 =>
  Option.bind (gd ((decide (r1 = 0))) (tree_Check ([] : (List Branch)))) fun r2 =>
  some ((decide (r1 = 0)) && (decide (r2 = 9)))

/-- drawref1.When -/
noncomputable def ref_When (is1 : Bool) (e1 : Int) : Option Int :=
  bif is1 then (
    some e1)
  else (
    some 0)

noncomputable def slices_IndexFunc_Point_L1 (f1 : Point → Option Bool) (s1 : (List Point)) (i : Int) (s : Unit) : Option (Res Unit (Res Unit Int)) :=
  need (inR s1 i) <|
  Option.bind (f1 (gx s1 i)) fun r1 =>
  bif r1 then (
    some (Res.ab (Res.ab i)))
  else (
    some (Res.nx ()))

/-- slices.IndexFunc[[]api.Point,api.Point] -/
noncomputable def slices_IndexFunc_Point (s1 : (List Point)) (f1 : Point → Option Bool) : Option Int :=
  bindR (σ := Unit) (ρ := Int) (
    rforE (s1.length : Int) (slices_IndexFunc_Point_L1 f1 s1) (fun s => Res.nx s) ()) fun j_1 =>
  some (-1)

/-- slices.ContainsFunc[[]api.Point,api.Point] -/
noncomputable def slices_ContainsFunc_Point (s1 : (List Point)) (f1 : Point → Option Bool) : Option Bool :=
  Option.bind (slices_IndexFunc_Point s1 f1) fun r1 =>
  some (decide (0 ≤ r1))

/-- drawref1.In -/
noncomputable def ref_In (n1 : Int) (low1 : Int) (high1 : Int) : Option Bool :=
  some ((decide (low1 ≤ n1)) && (decide (n1 ≤ high1)))

/-- drawref1.RowsError$1 -/
noncomputable def ref_RowsError_1 (p1 : Point) : Option Bool :=
  Option.bind (ref_In p1.X 1 20000) fun r1 =>
  Option.bind (gd (!(!r1)) (ref_In p1.Y 1 20000)) fun r2 =>
  some ((!r1) || (!r2))

/-- drawref1.RowsError$2 -/
noncomputable def ref_RowsError_2 (p1 : Point) (c0_1 : Int) : Option Bool :=
  some (decide (c0_1 < p1.X))

/-- drawref1.RowsError -/
noncomputable def ref_RowsError (sizes1 : (List Point)) (width1 : Int) (gap1 : Int) : Option Int :=
  bif decide (1000 < (sizes1.length : Int)) then (
    some 4)
  else (
    Option.bind (slices_ContainsFunc_Point sizes1 ref_RowsError_1) fun bad1 =>
    Option.bind (gd (!bad1) (ref_In width1 1 200000)) fun r1 =>
    Option.bind (gd (!(bad1 || (!r1))) (ref_In gap1 0 1000)) fun r2 =>
    bif (bad1 || (!r1)) || (!r2) then (
      some 3)
    else (
      Option.bind (slices_ContainsFunc_Point sizes1 (fun x0 => ref_RowsError_2 x0 width1)) fun r3 =>
      Option.bind (ref_When r3 14) fun r4 =>
      some r4))

/-- tree.Rows$1 -/
noncomputable def tree_Rows_1 (n1 : Int) : Option Bool :=
  some ((decide (1 ≤ n1)) && (decide (n1 ≤ 20000)))

/-- tree.Rows$2 -/
noncomputable def tree_Rows_2 (s1 : Point) (c0_1 : Int) : Option Bool :=
  some (decide (c0_1 < s1.X))

noncomputable def tree_Rows_L1 (sizes1 : (List Point)) (i : Int) (s : Unit) : Option (Res Unit (Res Unit ((List Point) × Int × Int))) :=
  need (inR sizes1 i) <|
  bnd (gx sizes1 i) fun v1 =>
  Option.bind (tree_Rows_1 v1.X) fun r1 =>
  Option.bind (gd (!(!r1)) (tree_Rows_1 v1.Y)) fun r2 =>
  bif (!r1) || (!r2) then (
    some (Res.ab (Res.ab (([] : (List Point)), 0, 3))))
  else (
    some (Res.nx ()))

noncomputable def tree_Rows_L2 (gap1 : Int) (sizes1 : (List Point)) (width1 : Int) (i : Int) (s : ((List Point) × Int × Int × Int)) : Option ((List Point) × Int × Int × Int) :=
  need (inR sizes1 i) <|
  bnd (gx sizes1 i) fun v2 =>
  Option.bind (α := (Int × Int)) (
    bif (decide (0 < i)) && (decide (width1 < (W ((W (s.2.1 + gap1)) + v2.X)))) then (
      bnd (W (s.2.2.2 + gap1)) fun y1 =>
      some (0, y1))
    else (
      bif decide (0 < i) then (
        bnd (W (s.2.1 + gap1)) fun x1 =>
        some (x1, s.2.2.1))
      else (
        some (s.2.1, s.2.2.1)))) fun j_20 =>
  need (room (s.1.length + [(⟨j_20.1, j_20.2⟩ : Point)].length)) <|
  bnd (s.1 ++ [(⟨j_20.1, j_20.2⟩ : Point)]) fun out1 =>
  bnd (W (j_20.1 + v2.X)) fun x2 =>
  bnd (max s.2.2.2 (W (j_20.2 + v2.Y))) fun end1 =>
  some (out1, x2, j_20.2, end1)

/-- tree.Rows -/
noncomputable def tree_Rows (sizes1 : (List Point)) (width1 : Int) (gap1 : Int) : Option ((List Point) × Int × Int) :=
  bif decide (1000 < (sizes1.length : Int)) then (
    some (([] : (List Point)), 0, 4))
  else (
    bindR (σ := Unit) (ρ := ((List Point) × Int × Int)) (
      rforE (sizes1.length : Int) (tree_Rows_L1 sizes1) (fun s => Res.nx s) ()) fun j_2 =>
    bif (((decide (width1 < 1)) || (decide (200000 < width1))) || (decide (gap1 < 0))) || (decide (1000 < gap1)) then (
      some (([] : (List Point)), 0, 3))
    else (
      Option.bind (slices_ContainsFunc_Point sizes1 (fun x0 => tree_Rows_2 x0 width1)) fun r3 =>
      bif r3 then (
        some (([] : (List Point)), 0, 14))
      else (
        Option.bind (α := ((List Point) × Int × Int × Int)) (
          rfor (sizes1.length : Int) (tree_Rows_L2 gap1 sizes1 width1) (([] : List Point), 0, 0, 0)) fun j_14 =>
        some (j_14.1, j_14.2.2.2, 0))))

/-- drawlaw1.RowsMatch -/
noncomputable def law_RowsMatch (sizes1 : (List Point)) (width1 : Int) (gap1 : Int) : Option Bool :=
  Option.bind (tree_Rows sizes1 width1 gap1) fun r1 =>
  Option.bind (ref_RowsError sizes1 width1 gap1) fun want1 =>
  Option.bind (law_trees) fun r2 =>
  bif (!r2) || (!decide (want1 = 0)) then (
    Option.bind (law_trees) fun r3 =>
    some (((r3 && (decide ((r1.1.length : Int) = 0))) && (decide (r1.2.1 = 0))) && (decide (r1.2.2 = want1))))
  else (
    Option.bind (ref_RowsOf sizes1 width1 gap1) fun r4 =>
    Option.bind (gd ((decide (r1.2.2 = 0))) (slices_Equal_Point r1.1 r4.1)) fun r5 =>
    some (((decide (r1.2.2 = 0)) && r5) && (decide (r1.2.1 = r4.2))))


end Go.DB
