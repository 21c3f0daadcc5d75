/-
  What the functions compute, as plain functions (printed by a program of one's own).
-/
import Derived.Test.YtakkmmhjohadaaaEveTy
set_option maxRecDepth 100000
set_option linter.unusedSimpArgs false
set_option linter.unusedVariables false
namespace Go.DB
open Go Go.RowKit

noncomputable def slices_Equal_int_L1 (s1_1 : (List Int)) (s2_1 : (List Int)) (i : Int) (s : Unit) : Option (Res Unit (Res Unit Bool)) :=
  need (inR s1_1 i) <|
  need (inR s2_1 i) <|
  bif !decide ((gx s1_1 i) = (gx s2_1 i)) then (
    some (Res.ab (Res.ab false)))
  else (
    some (Res.nx ()))

/-- slices.Equal[[]int,int] -/
noncomputable def slices_Equal_int (s1_1 : (List Int)) (s2_1 : (List Int)) : Option Bool :=
  bif !decide ((s1_1.length : Int) = (s2_1.length : Int)) then (
    some false)
  else (
    bindR (σ := Unit) (ρ := Bool) (
      rforE (s1_1.length : Int) (slices_Equal_int_L1 s1_1 s2_1) (fun s => Res.nx s) ()) fun j_2 =>
    some true)

noncomputable def ref_RowWidth_L1 (l1 : (List Int)) (i : Int) (s : Int) : Option Int :=
  need (inR l1 i) <|
  bnd (W (s + (gx l1 i))) fun n2 =>
  some n2

/-- drawref1.RowWidth -/
noncomputable def ref_RowWidth (l1 : (List Int)) (gap1 : Int) : Option Int :=
  bnd (W (gap1 * (W ((l1.length : Int) - 1)))) fun n1 =>
  Option.bind (α := Int) (
    rfor (l1.length : Int) (ref_RowWidth_L1 l1) n1) fun j_2 =>
  some j_2

noncomputable def ref_evenWidth_L1 (self : ((List Int) × Int × Int) → Option Int) (x : ((List Int) × Int × Int)) (s4_ : (Int × Int)) : Option (Step (Int × Int) Int) :=
  bif decide ((W (x.2.1 - 1)) ≤ (W ((x.1.length : Int) - s4_.2))) then (
    Option.bind (α := Int) (
      need (segR x.1.length 0 s4_.2) <|
      Option.bind (ref_RowWidth (seg x.1 0 s4_.2) x.2.2) fun r2 =>
      need (segR x.1.length s4_.2 (x.1.length : Int)) <|
      Option.bind (self ((seg x.1 s4_.2 (x.1.length : Int)), (W (x.2.1 - 1)), x.2.2)) fun r3 =>
      bnd (max r2 r3) fun n1 =>
      bif (decide (s4_.1 < 0)) || (decide (n1 < s4_.1)) then (
        some n1)
      else (
        some s4_.1)) fun j_6 =>
    bnd (W (s4_.2 + 1)) fun k1 =>
    some (Step.again (j_6, k1)))
  else (
    some (Step.done s4_.1))

/-- drawref1.evenWidth -/
noncomputable def ref_evenWidth_body (self : ((List Int) × Int × Int) → Option Int) (x : ((List Int) × Int × Int)) : Option Int :=
  bif decide (x.2.1 = 1) then (
    Option.bind (ref_RowWidth x.1 x.2.2) fun r1 =>
    some r1)
  else (
    Option.bind (α := Int) (
      loop (ref_evenWidth_L1 self x) ((-1), 1)) fun j_3 =>
    some j_3)

noncomputable def ref_evenWidth (widths1 : (List Int)) (rows1 : Int) (gap1 : Int) : Option Int := fixp ref_evenWidth_body (widths1, rows1, gap1)

noncomputable def ref_EvenOf_L2 (s3_ : ((List Int) × Int × (List Int))) (gap1 : Int) (least1 : Int) (s7_ : Int) : Option (Step Int Int) :=
  need (segR s3_.1.length 0 s7_) <|
  Option.bind (ref_RowWidth (seg s3_.1 0 s7_) gap1) fun r1 =>
  need ((decide (least1 < r1)) = false → segR s3_.1.length s7_ (s3_.1.length : Int)) <|
  Option.bind (gd (!(decide (least1 < r1))) (ref_evenWidth (seg s3_.1 s7_ (s3_.1.length : Int)) (W (s3_.2.1 - 1)) gap1)) fun r2 =>
  bif (decide (least1 < r1)) || (decide (least1 < r2)) then (
    bnd (W (s7_ + 1)) fun k1 =>
    some (Step.again k1))
  else (
    some (Step.done s7_))

noncomputable def ref_EvenOf_L1 (gap1 : Int) (least1 : Int) (s3_ : ((List Int) × Int × (List Int))) : Option (Step ((List Int) × Int × (List Int)) ((List Int) × (List Int))) :=
  bif decide (1 < s3_.2.1) then (
    Option.bind (α := ((List Int) × (List Int))) (
      Option.bind (α := Int) (
        loop (ref_EvenOf_L2 s3_ gap1 least1) 1) fun j_6 =>
      need (room (s3_.2.2.length + [j_6].length)) <|
      need (segR s3_.1.length j_6 (s3_.1.length : Int)) <|
      bnd (seg s3_.1 j_6 (s3_.1.length : Int)) fun widths2 =>
      some (widths2, s3_.2.2 ++ [j_6])) fun j_5 =>
    bnd (W (s3_.2.1 - 1)) fun rows2 =>
    some (Step.again (j_5.1, rows2, j_5.2)))
  else (
    some (Step.done (s3_.1, s3_.2.2)))

/-- drawref1.EvenOf -/
noncomputable def ref_EvenOf (widths1 : (List Int)) (rows1 : Int) (gap1 : Int) : Option ((List Int) × Int) :=
  Option.bind (ref_evenWidth widths1 rows1 gap1) fun least1 =>
  Option.bind (α := ((List Int) × (List Int))) (
    loop (ref_EvenOf_L1 gap1 least1) (widths1, rows1, ([] : List Int))) fun j_2 =>
  need (room (j_2.2.length + [(j_2.1.length : Int)].length)) <|
  some (j_2.2 ++ [(j_2.1.length : Int)], least1)

noncomputable def tree_levels_L2 (t1 : (List Branch)) (s3_ : ((List (List Int)) × (List Int))) (i : Int) (s : (List Int)) : Option (List Int) :=
  need (inR s3_.2 i) <|
  need (inR t1 (gx s3_.2 i)) <|
  need (room (s.length + ((gx t1 (gx s3_.2 i)).Kids).length)) <|
  some (s ++ ((gx t1 (gx s3_.2 i)).Kids))

noncomputable def tree_levels_L1 (t1 : (List Branch)) (s3_ : ((List (List Int)) × (List Int))) : Option (Step ((List (List Int)) × (List Int)) (List (List Int))) :=
  bif decide (0 < (s3_.2.length : Int)) then (
    need (room (s3_.1.length + [s3_.2].length)) <|
    bnd (s3_.1 ++ [s3_.2]) fun out1 =>
    Option.bind (α := (List Int)) (
      rfor (s3_.2.length : Int) (tree_levels_L2 t1 s3_) ([] : List Int)) fun j_7 =>
    some (Step.again (out1, j_7)))
  else (
    some (Step.done s3_.1))

/-- tree.levels -/
noncomputable def tree_levels (t1 : (List Branch)) : Option (List (List Int)) :=
  bnd ([0]) fun l1 =>
  Option.bind (α := (List (List Int))) (
    loop (tree_levels_L1 t1) (([] : List (List Int)), l1)) fun j_2 =>
  some j_2

noncomputable def slices_Index_bool_L1 (s1 : (List Bool)) (v1 : Bool) (i : Int) (s : Unit) : Option (Res Unit (Res Unit Int)) :=
  need (inR s1 i) <|
  bif decide (v1 = (gx s1 i)) then (
    some (Res.ab (Res.ab i)))
  else (
    some (Res.nx ()))

/-- slices.Index[[]bool,bool] -/
noncomputable def slices_Index_bool (s1 : (List Bool)) (v1 : Bool) : Option Int :=
  bindR (σ := Unit) (ρ := Int) (
    rforE (s1.length : Int) (slices_Index_bool_L1 s1 v1) (fun s => Res.nx s) ()) fun j_1 =>
  some (-1)

/-- slices.Contains[[]bool,bool] -/
noncomputable def slices_Contains_bool (s1 : (List Bool)) (v1 : Bool) : Option Bool :=
  Option.bind (slices_Index_bool s1 v1) fun r1 =>
  some (decide (0 ≤ r1))

/-- tree.Check$1 -/
noncomputable def tree_Check_1 (n1 : Int) : Option Bool :=
  some ((decide (1 ≤ n1)) && (decide (n1 ≤ 1000)))

noncomputable def tree_Check_L2 (t1 : (List Branch)) (v2 : Branch) (i : Int) (s : (List Bool)) : Option (Res (List Bool) (Res (List Bool) (Res (List Bool) Int))) :=
  need (inR v2.Kids i) <|
  bnd (gx v2.Kids i) fun k1 =>
  bif (decide (k1 < 0)) || (decide ((t1.length : Int) ≤ k1)) then (
    some (Res.ab (Res.ab (Res.ab 10))))
  else (
    bif decide (k1 = 0) then (
      some (Res.ab (Res.ab (Res.ab 13))))
    else (
      need (inR s k1) <|
      bif gx s k1 then (
        some (Res.ab (Res.ab (Res.ab 6))))
      else (
        need (inR s k1) <|
        some (Res.nx (s.set k1.toNat true)))))

noncomputable def tree_Check_L1 (t1 : (List Branch)) (i : Int) (s : (List Bool)) : Option (Res (List Bool) (Res (List Bool) Int)) :=
  need (inR t1 i) <|
  bnd (gx t1 i) fun v2 =>
  Option.bind (tree_Check_1 v2.W_) fun r1 =>
  Option.bind (gd (!(!r1)) (tree_Check_1 v2.H)) fun r2 =>
  bif (!r1) || (!r2) then (
    some (Res.ab (Res.ab 3)))
  else (
    rforE (v2.Kids.length : Int) (tree_Check_L2 t1 v2) (fun s => Res.nx s) s)

noncomputable def tree_Check_L3 (r4 : (List (List Int))) (i : Int) (s : Int) : Option Int :=
  need (inR r4 i) <|
  bnd (W (s + ((gx r4 i).length : Int))) fun many1 =>
  some many1

/-- tree.Check -/
noncomputable def tree_Check (t1 : (List Branch)) : Option Int :=
  bif decide ((t1.length : Int) = 0) then (
    some 9)
  else (
    bif decide (300 < (t1.length : Int)) then (
      some 4)
    else (
      bnd ((t1.length : Int)) fun v1 =>
      need (0 ≤ v1 ∧ v1 ≤ v1 ∧ v1 ≤ 1073741824) <|
      bnd (List.replicate v1.toNat false) fun isKid1 =>
      bindR (σ := (List Bool)) (ρ := Int) (
        rforE (t1.length : Int) (tree_Check_L1 t1) (fun s => Res.nx s) isKid1) fun j_6 =>
      need (segR j_6.length 1 (j_6.length : Int)) <|
      Option.bind (slices_Contains_bool (seg j_6 1 (j_6.length : Int)) false) fun r3 =>
      bif r3 then (
        some 2)
      else (
        Option.bind (tree_levels t1) fun r4 =>
        Option.bind (α := Int) (
          rfor (r4.length : Int) (tree_Check_L3 r4) 0) fun j_29 =>
        bif decide (j_29 < (t1.length : Int)) then (
          some 13)
        else (
          some 0))))

/-- drawlaw1.trees -/
noncomputable def law_trees  : Option Bool :=
  Option.bind (tree_Check [(⟨1, 1, ([] : (List Int))⟩ : Branch)]) fun r1 =>
  Option.bind (gd ((decide (r1 = 0))) (tree_Check ([] : (List Branch)))) fun r2 =>
  some ((decide (r1 = 0)) && (decide (r2 = 9)))

/-- drawref1.When -/
noncomputable def ref_When (is1 : Bool) (e1 : Int) : Option Int :=
  bif is1 then (
    some e1)
  else (
    some 0)

/-- drawref1.In -/
noncomputable def ref_In (n1 : Int) (low1 : Int) (high1 : Int) : Option Bool :=
  some ((decide (low1 ≤ n1)) && (decide (n1 ≤ high1)))

noncomputable def slices_IndexFunc_int_L1 (f1 : Int → Option Bool) (s1 : (List Int)) (i : Int) (s : Unit) : Option (Res Unit (Res Unit Int)) :=
  need (inR s1 i) <|
  Option.bind (f1 (gx s1 i)) fun r1 =>
  bif r1 then (
    some (Res.ab (Res.ab i)))
  else (
    some (Res.nx ()))

/-- slices.IndexFunc[[]int,int] -/
noncomputable def slices_IndexFunc_int (s1 : (List Int)) (f1 : Int → Option Bool) : Option Int :=
  bindR (σ := Unit) (ρ := Int) (
    rforE (s1.length : Int) (slices_IndexFunc_int_L1 f1 s1) (fun s => Res.nx s) ()) fun j_1 =>
  some (-1)

/-- slices.ContainsFunc[[]int,int] -/
noncomputable def slices_ContainsFunc_int (s1 : (List Int)) (f1 : Int → Option Bool) : Option Bool :=
  Option.bind (slices_IndexFunc_int s1 f1) fun r1 =>
  some (decide (0 ≤ r1))

/-- drawref1.EvenError$1 -/
noncomputable def ref_EvenError_1 (n1 : Int) : Option Bool :=
  Option.bind (ref_In n1 1 20000) fun r1 =>
  some (!r1)

/-- drawref1.EvenError -/
noncomputable def ref_EvenError (widths1 : (List Int)) (rows1 : Int) (gap1 : Int) : Option Int :=
  bif decide (1000 < (widths1.length : Int)) then (
    some 4)
  else (
    Option.bind (slices_ContainsFunc_int widths1 ref_EvenError_1) fun bad1 =>
    Option.bind (gd (!bad1) (ref_In rows1 1 (widths1.length : Int))) fun r1 =>
    Option.bind (gd (!(bad1 || (!r1))) (ref_In gap1 0 1000)) fun r2 =>
    Option.bind (ref_When ((bad1 || (!r1)) || (!r2)) 3) fun r3 =>
    some r3)

noncomputable def tree_needed_L2 (gap1 : Int) (width1 : Int) (widths1 : (List Int)) (s15_ : (Int × Int)) : Option (Step (Int × Int) (Int × Int)) :=
  bif decide (width1 < (W (s15_.2 - gap1))) then (
    bnd (W (s15_.1 - 1)) fun to1 =>
    need (inR widths1 to1) <|
    bnd (W (s15_.2 - (W ((gx widths1 to1) + gap1)))) fun sum2 =>
    some (Step.again (to1, sum2)))
  else (
    some (Step.done (s15_.1, s15_.2)))

noncomputable def tree_needed_L1 (gap1 : Int) (width1 : Int) (widths1 : (List Int)) (s7_ : (Int × Int × Int × (List Int))) : Option (Step (Int × Int × Int × (List Int)) (Res (List Int) ((List Int) × Bool))) :=
  bif decide (0 ≤ s7_.2.2.1) then (
    bindR (σ := (Int × Int × (List Int))) (ρ := (Step (Int × Int × Int × (List Int)) (Res (List Int) ((List Int) × Bool)))) (
      need (inR widths1 s7_.2.2.1) <|
      bif decide (width1 < (gx widths1 s7_.2.2.1)) then (
        some (Res.ab (Step.done (Res.ab (([] : (List Int)), false)))))
      else (
        need (inR widths1 s7_.2.2.1) <|
        bnd (W (s7_.2.1 + (W ((gx widths1 s7_.2.2.1) + gap1)))) fun sum1 =>
        Option.bind (α := (Int × Int)) (
          loop (tree_needed_L2 gap1 width1 widths1) (s7_.1, sum1)) fun j_14 =>
        need (inR s7_.2.2.2 j_14.1) <|
        bnd (W ((gx s7_.2.2.2 j_14.1) + 1)) fun v2 =>
        need (inR s7_.2.2.2 s7_.2.2.1) <|
        some (Res.nx (j_14.1, j_14.2, s7_.2.2.2.set s7_.2.2.1.toNat v2)))) fun j_9 =>
    bnd (W (s7_.2.2.1 - 1)) fun i2 =>
    some (Step.again (j_9.1, j_9.2.1, i2, j_9.2.2)))
  else (
    some (Step.done (Res.nx s7_.2.2.2)))

/-- tree.needed -/
noncomputable def tree_needed (widths1 : (List Int)) (gap1 : Int) (width1 : Int) : Option ((List Int) × Bool) :=
  bnd ((widths1.length : Int)) fun n1 =>
  bnd (W (n1 + 1)) fun v1 =>
  need (0 ≤ v1 ∧ v1 ≤ v1 ∧ v1 ≤ 1073741824) <|
  bnd (List.replicate v1.toNat (0 : Int)) fun out1 =>
  bnd (W (n1 - 1)) fun i1 =>
  bindR (σ := (List Int)) (ρ := ((List Int) × Bool)) (
    loop (tree_needed_L1 gap1 width1 widths1) (n1, 0, i1, out1)) fun j_6 =>
  some (j_6, true)

noncomputable def tree_Even_L1 (widths1 : (List Int)) (i : Int) (s : Int) : Option (Res Int (Res Int ((List Int) × Int × Int))) :=
  need (inR widths1 i) <|
  bnd (gx widths1 i) fun w1 =>
  bif (decide (w1 < 1)) || (decide (20000 < w1)) then (
    some (Res.ab (Res.ab (([] : (List Int)), 0, 3))))
  else (
    bnd (W (s + w1)) fun all1 =>
    some (Res.nx all1))

noncomputable def tree_Even_L2 (gap1 : Int) (rows1 : Int) (widths1 : (List Int)) (s13_ : (Int × Int)) : Option (Step (Int × Int) Int) :=
  bif decide (1 < (W (s13_.2 - s13_.1))) then (
    bnd ((W (s13_.1 + s13_.2)).tdiv 2) fun mid1 =>
    Option.bind (tree_needed widths1 gap1 mid1) fun r1 =>
    need (r1.2 = true → inR r1.1 0) <|
    bif r1.2 && (decide ((gx r1.1 0) ≤ rows1)) then (
      some (Step.again (s13_.1, mid1)))
    else (
      some (Step.again (mid1, s13_.2))))
  else (
    some (Step.done s13_.2))

noncomputable def tree_Even_L4 (r2 : ((List Int) × Bool)) (s21_ : (Int × (List Int) × Int)) (s25_ : Int) : Option (Step Int Int) :=
  need (inR r2.1 (W (s21_.2.2 + s25_))) <|
  bif decide ((W (s21_.1 - 1)) < (gx r2.1 (W (s21_.2.2 + s25_)))) then (
    bnd (W (s25_ + 1)) fun many1 =>
    some (Step.again many1))
  else (
    some (Step.done s25_))

noncomputable def tree_Even_L3 (r2 : ((List Int) × Bool)) (s21_ : (Int × (List Int) × Int)) : Option (Step (Int × (List Int) × Int) (List Int)) :=
  bif decide (0 < s21_.1) then (
    Option.bind (α := ((List Int) × Int)) (
      Option.bind (α := Int) (
        loop (tree_Even_L4 r2 s21_) 1) fun j_24 =>
      need (room (s21_.2.1.length + [j_24].length)) <|
      bnd (s21_.2.1 ++ [j_24]) fun out1 =>
      bnd (W (s21_.2.2 + j_24)) fun i1 =>
      some (out1, i1)) fun j_23 =>
    bnd (W (s21_.1 - 1)) fun rows2 =>
    some (Step.again (rows2, j_23.1, j_23.2)))
  else (
    some (Step.done s21_.2.1))

/-- tree.Even -/
noncomputable def tree_Even (widths1 : (List Int)) (rows1 : Int) (gap1 : Int) : Option ((List Int) × Int × Int) :=
  bif decide (1000 < (widths1.length : Int)) then (
    some (([] : (List Int)), 0, 4))
  else (
    bindR (σ := Int) (ρ := ((List Int) × Int × Int)) (
      rforE (widths1.length : Int) (tree_Even_L1 widths1) (fun s => Res.nx s) 0) fun j_2 =>
    bif (((decide (rows1 < 1)) || (decide ((widths1.length : Int) < rows1))) || (decide (gap1 < 0))) || (decide (1000 < gap1)) then (
      some (([] : (List Int)), 0, 3))
    else (
      bnd (W (j_2 + (W (gap1 * (widths1.length : Int))))) fun high1 =>
      Option.bind (α := Int) (
        loop (tree_Even_L2 gap1 rows1 widths1) (0, high1)) fun j_12 =>
      Option.bind (tree_needed widths1 gap1 j_12) fun r2 =>
      Option.bind (α := (List Int)) (
        loop (tree_Even_L3 r2) (rows1, ([] : List Int), 0)) fun j_20 =>
      some (j_20, j_12, 0)))

/-- drawlaw1.EvensMatch -/
noncomputable def law_EvensMatch (widths1 : (List Int)) (rows1 : Int) (gap1 : Int) : Option Bool :=
  Option.bind (tree_Even widths1 rows1 gap1) fun r1 =>
  Option.bind (ref_EvenError widths1 rows1 gap1) fun want1 =>
  Option.bind (law_trees) fun r2 =>
  bif (!r2) || (!decide (want1 = 0)) then (
    Option.bind (law_trees) fun r3 =>
    some (((r3 && (decide ((r1.1.length : Int) = 0))) && (decide (r1.2.1 = 0))) && (decide (r1.2.2 = want1))))
  else (
    bif (decide (14 < (widths1.length : Int))) || (decide (6 < rows1)) then (
      some ((decide (r1.2.2 = 0)) && (decide ((r1.1.length : Int) = rows1))))
    else (
      Option.bind (ref_EvenOf widths1 rows1 gap1) fun r4 =>
      Option.bind (gd ((decide (r1.2.2 = 0))) (slices_Equal_int r1.1 r4.1)) fun r5 =>
      some (((decide (r1.2.2 = 0)) && r5) && (decide (r1.2.1 = r4.2)))))


end Go.DB
