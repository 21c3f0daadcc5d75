/-
  What the functions compute, as plain functions (printed by a program of one's own).
-/
import Derived.Test.YtakkmmhjohadaaaTreTy
set_option maxRecDepth 100000
set_option linter.unusedSimpArgs false
set_option linter.unusedVariables false
namespace Go.DB
open Go Go.RowKit

noncomputable def slices_Equal_int_L1 (s1_1 : (List Int)) (s2_1 : (List Int)) (i : Int) (s : Unit) : Option (Res Unit (Res Unit Bool)) :=
  need (inR s1_1 i) <|
  need (inR s2_1 i) <|
  bif !decide ((gx s1_1 i) = (gx s2_1 i)) then (
    some (Res.ab (Res.ab false)))
  else (
    some (Res.nx ()))

/-- slices.Equal[[]int,int] -/
noncomputable def slices_Equal_int (s1_1 : (List Int)) (s2_1 : (List Int)) : Option Bool :=
  bif !decide ((s1_1.length : Int) = (s2_1.length : Int)) then (
    some false)
  else (
    bindR (σ := Unit) (ρ := Bool) (
      rforE (s1_1.length : Int) (slices_Equal_int_L1 s1_1 s2_1) (fun s => Res.nx s) ()) fun j_2 =>
    some true)

/-- drawlaw1.lists[int] -/
noncomputable def law_lists_int (got1 : (List Int)) (e1 : Int) (want1 : Int) (right1 : Option (List Int)) : Option Bool :=
  bif !decide (want1 = 0) then (
    some ((decide ((got1.length : Int) = 0)) && (decide (e1 = want1))))
  else (
    Option.bind (gd ((decide (e1 = 0))) (right1)) fun r1 =>
    Option.bind (gd ((decide (e1 = 0))) (slices_Equal_int got1 r1)) fun r2 =>
    some ((decide (e1 = 0)) && r2))

noncomputable def ref_First_L1 (l1 : (List Int)) (i : Int) (s : Unit) : Option (Res Unit (Res Unit Int)) :=
  need (inR l1 i) <|
  bnd (gx l1 i) fun e1 =>
  bif !decide (e1 = 0) then (
    some (Res.ab (Res.ab e1)))
  else (
    some (Res.nx ()))

/-- drawref1.First -/
noncomputable def ref_First (l1 : (List Int)) : Option Int :=
  bindR (σ := Unit) (ρ := Int) (
    rforE (l1.length : Int) (ref_First_L1 l1) (fun s => Res.nx s) ()) fun j_1 =>
  some 0

/-- drawref1.When -/
noncomputable def ref_When (is1 : Bool) (e1 : Int) : Option Int :=
  bif is1 then (
    some e1)
  else (
    some 0)

noncomputable def slices_Index_int_L1 (s1 : (List Int)) (v1 : Int) (i : Int) (s : Unit) : Option (Res Unit (Res Unit Int)) :=
  need (inR s1 i) <|
  bif decide (v1 = (gx s1 i)) then (
    some (Res.ab (Res.ab i)))
  else (
    some (Res.nx ()))

/-- slices.Index[[]int,int] -/
noncomputable def slices_Index_int (s1 : (List Int)) (v1 : Int) : Option Int :=
  bindR (σ := Unit) (ρ := Int) (
    rforE (s1.length : Int) (slices_Index_int_L1 s1 v1) (fun s => Res.nx s) ()) fun j_1 =>
  some (-1)

/-- slices.Contains[[]int,int] -/
noncomputable def slices_Contains_int (s1 : (List Int)) (v1 : Int) : Option Bool :=
  Option.bind (slices_Index_int s1 v1) fun r1 =>
  some (decide (0 ≤ r1))

/-- drawref1.In -/
noncomputable def ref_In (n1 : Int) (low1 : Int) (high1 : Int) : Option Bool :=
  some ((decide (low1 ≤ n1)) && (decide (n1 ≤ high1)))

/-- slices.Sort[[]int,int] -/
noncomputable def slices_Sort_int (l : List Int) : Option (List Int) := need ((l.length : Int) < 4611686018427387904) (some (sortI l))

/-- tree.isNode -/
noncomputable def tree_isNode (t1 : (List Branch)) (k1 : Int) : Option Bool :=
  some ((decide (0 ≤ k1)) && (decide (k1 < (t1.length : Int))))

noncomputable def tree_levels_L2 (t1 : (List Branch)) (s3_ : ((List (List Int)) × (List Int))) (i : Int) (s : (List Int)) : Option (List Int) :=
  need (inR s3_.2 i) <|
  need (inR t1 (gx s3_.2 i)) <|
  need (room (s.length + ((gx t1 (gx s3_.2 i)).Kids).length)) <|
  some (s ++ ((gx t1 (gx s3_.2 i)).Kids))

noncomputable def tree_levels_L1 (t1 : (List Branch)) (s3_ : ((List (List Int)) × (List Int))) : Option (Step ((List (List Int)) × (List Int)) (List (List Int))) :=
  bif decide (0 < (s3_.2.length : Int)) then (
    need (room (s3_.1.length + [s3_.2].length)) <|
    bnd (s3_.1 ++ [s3_.2]) fun out1 =>
    Option.bind (α := (List Int)) (
      rfor (s3_.2.length : Int) (tree_levels_L2 t1 s3_) ([] : List Int)) fun j_7 =>
    some (Step.again (out1, j_7)))
  else (
    some (Step.done s3_.1))

/-- tree.levels -/
noncomputable def tree_levels (t1 : (List Branch)) : Option (List (List Int)) :=
  bnd ([0]) fun l1 =>
  Option.bind (α := (List (List Int))) (
    loop (tree_levels_L1 t1) (([] : List (List Int)), l1)) fun j_2 =>
  some j_2

noncomputable def slices_Index_bool_L1 (s1 : (List Bool)) (v1 : Bool) (i : Int) (s : Unit) : Option (Res Unit (Res Unit Int)) :=
  need (inR s1 i) <|
  bif decide (v1 = (gx s1 i)) then (
    some (Res.ab (Res.ab i)))
  else (
    some (Res.nx ()))

/-- slices.Index[[]bool,bool] -/
noncomputable def slices_Index_bool (s1 : (List Bool)) (v1 : Bool) : Option Int :=
  bindR (σ := Unit) (ρ := Int) (
    rforE (s1.length : Int) (slices_Index_bool_L1 s1 v1) (fun s => Res.nx s) ()) fun j_1 =>
  some (-1)

/-- slices.Contains[[]bool,bool] -/
noncomputable def slices_Contains_bool (s1 : (List Bool)) (v1 : Bool) : Option Bool :=
  Option.bind (slices_Index_bool s1 v1) fun r1 =>
  some (decide (0 ≤ r1))

/-- tree.Check$1 -/
noncomputable def tree_Check_1 (n1 : Int) : Option Bool :=
  some ((decide (1 ≤ n1)) && (decide (n1 ≤ 1000)))

noncomputable def tree_Check_L2 (t1 : (List Branch)) (v2 : Branch) (i : Int) (s : (List Bool)) : Option (Res (List Bool) (Res (List Bool) (Res (List Bool) Int))) :=
  need (inR v2.Kids i) <|
  bnd (gx v2.Kids i) fun k1 =>
  bif (decide (k1 < 0)) || (decide ((t1.length : Int) ≤ k1)) then (
    some (Res.ab (Res.ab (Res.ab 10))))
  else (
    bif decide (k1 = 0) then (
      some (Res.ab (Res.ab (Res.ab 13))))
    else (
      need (inR s k1) <|
      bif gx s k1 then (
        some (Res.ab (Res.ab (Res.ab 6))))
      else (
        need (inR s k1) <|
        some (Res.nx (s.set k1.toNat true)))))

noncomputable def tree_Check_L1 (t1 : (List Branch)) (i : Int) (s : (List Bool)) : Option (Res (List Bool) (Res (List Bool) Int)) :=
  need (inR t1 i) <|
  bnd (gx t1 i) fun v2 =>
  Option.bind (tree_Check_1 v2.W_) fun r1 =>
  Option.bind (gd (!(!r1)) (tree_Check_1 v2.H)) fun r2 =>
  bif (!r1) || (!r2) then (
    some (Res.ab (Res.ab 3)))
  else (
    rforE (v2.Kids.length : Int) (tree_Check_L2 t1 v2) (fun s => Res.nx s) s)

noncomputable def tree_Check_L3 (r4 : (List (List Int))) (i : Int) (s : Int) : Option Int :=
  need (inR r4 i) <|
  bnd (W (s + ((gx r4 i).length : Int))) fun many1 =>
  some many1

/-- tree.Check -/
noncomputable def tree_Check (t1 : (List Branch)) : Option Int :=
  bif decide ((t1.length : Int) = 0) then (
    some 9)
  else (
    bif decide (300 < (t1.length : Int)) then (
      some 4)
    else (
      bnd ((t1.length : Int)) fun v1 =>
      need (0 ≤ v1 ∧ v1 ≤ v1 ∧ v1 ≤ 1073741824) <|
      bnd (List.replicate v1.toNat false) fun isKid1 =>
      bindR (σ := (List Bool)) (ρ := Int) (
        rforE (t1.length : Int) (tree_Check_L1 t1) (fun s => Res.nx s) isKid1) fun j_6 =>
      need (segR j_6.length 1 (j_6.length : Int)) <|
      Option.bind (slices_Contains_bool (seg j_6 1 (j_6.length : Int)) false) fun r3 =>
      bif r3 then (
        some 2)
      else (
        Option.bind (tree_levels t1) fun r4 =>
        Option.bind (α := Int) (
          rfor (r4.length : Int) (tree_Check_L3 r4) 0) fun j_29 =>
        bif decide (j_29 < (t1.length : Int)) then (
          some 13)
        else (
          some 0))))

noncomputable def tree_Fold_L1 (t1 : (List Branch)) (folded1 : (List Int)) (i : Int) (s : (List Bool)) : Option (Res (List Bool) (Res (List Bool) ((List Int) × Int))) :=
  need (inR folded1 i) <|
  bnd (gx folded1 i) fun k1 =>
  Option.bind (tree_isNode t1 k1) fun r1 =>
  bif !r1 then (
    some (Res.ab (Res.ab (([] : (List Int)), 10))))
  else (
    need (inR s k1) <|
    bif gx s k1 then (
      some (Res.ab (Res.ab (([] : (List Int)), 6))))
    else (
      need (inR s k1) <|
      some (Res.nx (s.set k1.toNat true))))

noncomputable def tree_Fold_L3 (t1 : (List Branch)) (j_6 : (List Bool)) (s19_ : ((List Int) × (List Int))) (i : Int) (s : (List Int)) : Option (List Int) :=
  need (inR s19_.2 i) <|
  bnd (gx s19_.2 i) fun k2 =>
  need (inR j_6 k2) <|
  bif !(gx j_6 k2) then (
    need (inR t1 k2) <|
    need (room (s.length + ((gx t1 k2).Kids).length)) <|
    some (s ++ ((gx t1 k2).Kids)))
  else (
    some s)

noncomputable def tree_Fold_L2 (t1 : (List Branch)) (j_6 : (List Bool)) (s19_ : ((List Int) × (List Int))) : Option (Step ((List Int) × (List Int)) (List Int)) :=
  bif decide (0 < (s19_.2.length : Int)) then (
    need (room (s19_.1.length + s19_.2.length)) <|
    bnd (s19_.1 ++ s19_.2) fun out1 =>
    Option.bind (α := (List Int)) (
      rfor (s19_.2.length : Int) (tree_Fold_L3 t1 j_6 s19_) ([] : List Int)) fun j_23 =>
    some (Step.again (out1, j_23)))
  else (
    some (Step.done s19_.1))

/-- tree.Fold -/
noncomputable def tree_Fold (t1 : (List Branch)) (folded1 : (List Int)) : Option ((List Int) × Int) :=
  Option.bind (tree_Check t1) fun e1 =>
  bif !decide (e1 = 0) then (
    some (([] : (List Int)), e1))
  else (
    bnd ((t1.length : Int)) fun v1 =>
    need (0 ≤ v1 ∧ v1 ≤ v1 ∧ v1 ≤ 1073741824) <|
    bnd (List.replicate v1.toNat false) fun closed1 =>
    bindR (σ := (List Bool)) (ρ := ((List Int) × Int)) (
      rforE (folded1.length : Int) (tree_Fold_L1 t1 folded1) (fun s => Res.nx s) closed1) fun j_6 =>
    bnd ([0]) fun l1 =>
    Option.bind (α := (List Int)) (
      loop (tree_Fold_L2 t1 j_6) (([] : List Int), l1)) fun j_18 =>
    Option.bind (slices_Sort_int j_18) fun r2 =>
    some (r2, 0))

/-- drawlaw1.is[int] -/
noncomputable def law_is_int (got1 : Int) (e1 : Int) (want1 : Int) (right1 : Option Int) : Option Bool :=
  bif !decide (want1 = 0) then (
    some ((decide (got1 = 0)) && (decide (e1 = want1))))
  else (
    Option.bind (gd ((decide (e1 = 0))) (right1)) fun r1 =>
    some ((decide (e1 = 0)) && (decide (got1 = r1))))

/-- drawlaw1.is[bool] -/
noncomputable def law_is_bool (got1 : Bool) (e1 : Int) (want1 : Int) (right1 : Option Bool) : Option Bool :=
  bif !decide (want1 = 0) then (
    some ((decide (got1 = false)) && (decide (e1 = want1))))
  else (
    Option.bind (gd ((decide (e1 = 0))) (right1)) fun r1 =>
    some ((decide (e1 = 0)) && (decide (got1 = r1))))

noncomputable def tree_leaves_L3 (k1 : Int) (v3 : (List Int)) (i : Int) (s : (List Int)) : Option (List Int) :=
  need (inR v3 i) <|
  need (inR s k1) <|
  need (inR s (gx v3 i)) <|
  bnd (W ((gx s k1) + (gx s (gx v3 i)))) fun v4 =>
  need (inR s k1) <|
  some (s.set k1.toNat v4)

noncomputable def tree_leaves_L2 (t1 : (List Branch)) (v2 : (List Int)) (i : Int) (s : (List Int)) : Option (List Int) :=
  need (inR v2 i) <|
  bnd (gx v2 i) fun k1 =>
  need (inR t1 k1) <|
  bnd ((gx t1 k1).Kids) fun v3 =>
  Option.bind (α := (List Int)) (
    rfor (v3.length : Int) (tree_leaves_L3 k1 v3) s) fun j_19 =>
  need (inR j_19 k1) <|
  bnd (max (gx j_19 k1) 1) fun v5 =>
  need (inR j_19 k1) <|
  some (j_19.set k1.toNat v5)

noncomputable def tree_leaves_L1 (l1 : (List (List Int))) (t1 : (List Branch)) (s7_ : (Int × (List Int))) : Option (Step (Int × (List Int)) (List Int)) :=
  bif decide (0 ≤ s7_.1) then (
    Option.bind (α := (List Int)) (
      need (inR l1 s7_.1) <|
      bnd (gx l1 s7_.1) fun v2 =>
      rfor (v2.length : Int) (tree_leaves_L2 t1 v2) s7_.2) fun j_9 =>
    bnd (W (s7_.1 - 1)) fun i2 =>
    some (Step.again (i2, j_9)))
  else (
    some (Step.done s7_.2))

/-- tree.leaves -/
noncomputable def tree_leaves (t1 : (List Branch)) : Option (List Int) :=
  bnd ((t1.length : Int)) fun v1 =>
  need (0 ≤ v1 ∧ v1 ≤ v1 ∧ v1 ≤ 1073741824) <|
  bnd (List.replicate v1.toNat (0 : Int)) fun out1 =>
  Option.bind (tree_levels t1) fun l1 =>
  bnd (W ((l1.length : Int) - 1)) fun i1 =>
  Option.bind (α := (List Int)) (
    loop (tree_leaves_L1 l1 t1) (i1, out1)) fun j_6 =>
  some j_6

noncomputable def tree_Halves_L1 (l1 : (List Int)) (v1 : (List Int)) (i : Int) (s : Int) : Option Int :=
  need (inR v1 i) <|
  need (inR l1 (gx v1 i)) <|
  bnd (W (s + (gx l1 (gx v1 i)))) fun all1 =>
  some all1

noncomputable def tree_Halves_L2 (l1 : (List Int)) (v2 : (List Int)) (j_6 : Int) (i : Int) (s : (Int × Int × Int)) : Option (Int × Int × Int) :=
  need (inR v2 i) <|
  need (inR l1 (gx v2 i)) <|
  bnd (W (s.2.2 + (gx l1 (gx v2 i)))) fun left1 =>
  bnd (max (W ((W (2 * left1)) - j_6)) (W (j_6 - (W (2 * left1))))) fun d1 =>
  bif decide (d1 < s.2.1) then (
    some (W (i + 1), d1, left1))
  else (
    some (s.1, s.2.1, left1))

/-- tree.Halves -/
noncomputable def tree_Halves (t1 : (List Branch)) : Option (Int × Int) :=
  Option.bind (tree_Check t1) fun e1 =>
  bif !decide (e1 = 0) then (
    some (0, e1))
  else (
    Option.bind (tree_leaves t1) fun l1 =>
    need (inR t1 0) <|
    bnd ((gx t1 0).Kids) fun v1 =>
    Option.bind (α := Int) (
      rfor (v1.length : Int) (tree_Halves_L1 l1 v1) 0) fun j_6 =>
    need (inR t1 0) <|
    bnd ((gx t1 0).Kids) fun v2 =>
    Option.bind (α := (Int × Int × Int)) (
      rfor (v2.length : Int) (tree_Halves_L2 l1 v2 j_6) (0, j_6, 0)) fun j_15 =>
    some (j_15.1, 0))

noncomputable def tree_same_L1 (self : ((List Branch) × Int × Int) → Option Bool) (x : ((List Branch) × Int × Int)) (v1 : Branch) (v2 : Branch) (i : Int) (s : Unit) : Option (Res Unit (Res Unit Bool)) :=
  need (inR v1.Kids i) <|
  need (inR v2.Kids i) <|
  Option.bind (self (x.1, (gx v1.Kids i), (gx v2.Kids i))) fun r1 =>
  bif !r1 then (
    some (Res.ab (Res.ab false)))
  else (
    some (Res.nx ()))

/-- tree.same -/
noncomputable def tree_same_body (self : ((List Branch) × Int × Int) → Option Bool) (x : ((List Branch) × Int × Int)) : Option Bool :=
  need (inR x.1 x.2.1) <|
  bnd (gx x.1 x.2.1) fun v1 =>
  need (inR x.1 x.2.2) <|
  bnd (gx x.1 x.2.2) fun v2 =>
  bif ((!decide (v1.W_ = v2.W_)) || (!decide (v1.H = v2.H))) || (!decide ((v1.Kids.length : Int) = (v2.Kids.length : Int))) then (
    some false)
  else (
    bindR (σ := Unit) (ρ := Bool) (
      rforE (v1.Kids.length : Int) (tree_same_L1 self x v1 v2) (fun s => Res.nx s) ()) fun j_6 =>
    some true)

noncomputable def tree_same (t1 : (List Branch)) (a1 : Int) (b1 : Int) : Option Bool := fixp tree_same_body (t1, a1, b1)

/-- tree.Same -/
noncomputable def tree_Same (t1 : (List Branch)) (a1 : Int) (b1 : Int) : Option (Bool × Int) :=
  Option.bind (tree_Check t1) fun e1 =>
  bif !decide (e1 = 0) then (
    some (false, e1))
  else (
    Option.bind (tree_isNode t1 a1) fun r1 =>
    Option.bind (gd (!(!r1)) (tree_isNode t1 b1)) fun r2 =>
    bif (!r1) || (!r2) then (
      some (false, 10))
    else (
      Option.bind (tree_same t1 a1 b1) fun r3 =>
      some (r3, 0)))

noncomputable def slices_EqualFunc_int_L1 (eq1 : (List Int) → (List Int) → Option Bool) (s1_1 : (List (List Int))) (s2_1 : (List (List Int))) (i : Int) (s : Unit) : Option (Res Unit (Res Unit Bool)) :=
  need (inR s1_1 i) <|
  need (inR s2_1 i) <|
  Option.bind (eq1 (gx s1_1 i) (gx s2_1 i)) fun r1 =>
  bif !r1 then (
    some (Res.ab (Res.ab false)))
  else (
    some (Res.nx ()))

/-- slices.EqualFunc[[][]int,[][]int,[]int,[]int] -/
noncomputable def slices_EqualFunc_int (s1_1 : (List (List Int))) (s2_1 : (List (List Int))) (eq1 : (List Int) → (List Int) → Option Bool) : Option Bool :=
  bif !decide ((s1_1.length : Int) = (s2_1.length : Int)) then (
    some false)
  else (
    bindR (σ := Unit) (ρ := Bool) (
      rforE (s1_1.length : Int) (slices_EqualFunc_int_L1 eq1 s1_1 s2_1) (fun s => Res.nx s) ()) fun j_2 =>
    some true)

noncomputable def ref_LevelsOf_L2 (t1 : (List Branch)) (s3_ : ((List (List Int)) × (List Int))) (i : Int) (s : (List Int)) : Option (List Int) :=
  need (inR s3_.2 i) <|
  need (inR t1 (gx s3_.2 i)) <|
  need (room (s.length + ((gx t1 (gx s3_.2 i)).Kids).length)) <|
  some (s ++ ((gx t1 (gx s3_.2 i)).Kids))

noncomputable def ref_LevelsOf_L1 (t1 : (List Branch)) (s3_ : ((List (List Int)) × (List Int))) : Option (Step ((List (List Int)) × (List Int)) (List (List Int))) :=
  bif decide (0 < (s3_.2.length : Int)) then (
    need (room (s3_.1.length + [s3_.2].length)) <|
    bnd (s3_.1 ++ [s3_.2]) fun out1 =>
    Option.bind (α := (List Int)) (
      rfor (s3_.2.length : Int) (ref_LevelsOf_L2 t1 s3_) ([] : List Int)) fun j_7 =>
    some (Step.again (out1, j_7)))
  else (
    some (Step.done s3_.1))

/-- drawref1.LevelsOf -/
noncomputable def ref_LevelsOf (t1 : (List Branch)) : Option (List (List Int)) :=
  bnd ([0]) fun now1 =>
  Option.bind (α := (List (List Int))) (
    loop (ref_LevelsOf_L1 t1) (([] : List (List Int)), now1)) fun j_2 =>
  some j_2

/-- tree.Levels -/
noncomputable def tree_Levels (t1 : (List Branch)) : Option ((List (List Int)) × Int) :=
  Option.bind (tree_Check t1) fun e1 =>
  bif !decide (e1 = 0) then (
    some (([] : (List (List Int))), e1))
  else (
    Option.bind (tree_levels t1) fun r1 =>
    some (r1, 0))

/-- drawlaw1.trees -/
noncomputable def law_trees  : Option Bool :=
  Option.bind (tree_Check [(⟨1, 1, ([] : (List Int))⟩ : Branch)]) fun r1 =>
  Option.bind (gd ((decide (r1 = 0))) (tree_Check ([] : (List Branch)))) fun r2 =>
  some ((decide (r1 = 0)) && (decide (r2 = 9)))

/-- tree.Leaves -/
noncomputable def tree_Leaves (t1 : (List Branch)) : Option ((List Int) × Int) :=
  Option.bind (tree_Check t1) fun e1 =>
  bif !decide (e1 = 0) then (
    some (([] : (List Int)), e1))
  else (
    Option.bind (tree_leaves t1) fun r1 =>
    some (r1, 0))

noncomputable def ref_TreeError_L2 (t1 : (List Branch)) (v2 : Branch) (i : Int) (s : (List Bool)) : Option (Res (List Bool) (Res (List Bool) (Res (List Bool) Int))) :=
  need (inR v2.Kids i) <|
  bnd (gx v2.Kids i) fun k1 =>
  Option.bind (ref_In k1 0 (W ((t1.length : Int) - 1))) fun r5 =>
  bif !r5 then (
    some (Res.ab (Res.ab (Res.ab 10))))
  else (
    Option.bind (ref_When (decide (k1 = 0)) 13) fun r6 =>
    need (inR s k1) <|
    Option.bind (ref_When (gx s k1) 6) fun r7 =>
    Option.bind (ref_First [r6, r7]) fun e2 =>
    bif !decide (e2 = 0) then (
      some (Res.ab (Res.ab (Res.ab e2))))
    else (
      need (inR s k1) <|
      some (Res.nx (s.set k1.toNat true))))

noncomputable def ref_TreeError_L1 (t1 : (List Branch)) (i : Int) (s : (List Bool)) : Option (Res (List Bool) (Res (List Bool) Int)) :=
  need (inR t1 i) <|
  bnd (gx t1 i) fun v2 =>
  Option.bind (ref_In v2.W_ 1 1000) fun r3 =>
  Option.bind (gd (!(!r3)) (ref_In v2.H 1 1000)) fun r4 =>
  bif (!r3) || (!r4) then (
    some (Res.ab (Res.ab 3)))
  else (
    rforE (v2.Kids.length : Int) (ref_TreeError_L2 t1 v2) (fun s => Res.nx s) s)

noncomputable def ref_TreeError_L3 (r9 : (List (List Int))) (i : Int) (s : Int) : Option Int :=
  need (inR r9 i) <|
  bnd (W (s + ((gx r9 i).length : Int))) fun many1 =>
  some many1

/-- drawref1.TreeError -/
noncomputable def ref_TreeError (t1 : (List Branch)) : Option Int :=
  Option.bind (ref_When (decide ((t1.length : Int) = 0)) 9) fun r1 =>
  Option.bind (ref_When (decide (300 < (t1.length : Int))) 4) fun r2 =>
  Option.bind (ref_First [r1, r2]) fun e1 =>
  bif !decide (e1 = 0) then (
    some e1)
  else (
    bnd ((t1.length : Int)) fun v1 =>
    need (0 ≤ v1 ∧ v1 ≤ v1 ∧ v1 ≤ 1073741824) <|
    bnd (List.replicate v1.toNat false) fun kid1 =>
    bindR (σ := (List Bool)) (ρ := Int) (
      rforE (t1.length : Int) (ref_TreeError_L1 t1) (fun s => Res.nx s) kid1) fun j_8 =>
    need (segR j_8.length 1 (j_8.length : Int)) <|
    Option.bind (slices_Contains_bool (seg j_8 1 (j_8.length : Int)) false) fun r8 =>
    bif r8 then (
      some 2)
    else (
      Option.bind (ref_LevelsOf t1) fun r9 =>
      Option.bind (α := Int) (
        rfor (r9.length : Int) (ref_TreeError_L3 r9) 0) fun j_34 =>
      Option.bind (ref_When (!decide (j_34 = (t1.length : Int))) 13) fun r10 =>
      some r10))

noncomputable def ref_LeavesOf_L1 (self : ((List Branch) × Int) → Option Int) (x : ((List Branch) × Int)) (v1 : (List Int)) (i : Int) (s : Int) : Option Int :=
  need (inR v1 i) <|
  Option.bind (self (x.1, (gx v1 i))) fun r1 =>
  bnd (W (s + r1)) fun sum1 =>
  some sum1

/-- drawref1.LeavesOf -/
noncomputable def ref_LeavesOf_body (self : ((List Branch) × Int) → Option Int) (x : ((List Branch) × Int)) : Option Int :=
  need (inR x.1 x.2) <|
  bif decide ((((gx x.1 x.2).Kids).length : Int) = 0) then (
    some 1)
  else (
    need (inR x.1 x.2) <|
    bnd ((gx x.1 x.2).Kids) fun v1 =>
    Option.bind (α := Int) (
      rfor (v1.length : Int) (ref_LeavesOf_L1 self x v1) 0) fun j_5 =>
    some j_5)

noncomputable def ref_LeavesOf (t1 : (List Branch)) (n1 : Int) : Option Int := fixp ref_LeavesOf_body (t1, n1)

noncomputable def law_TreesMatch_1_L1 (c0_1 : (List Branch)) (i : Int) (s : (List Int)) : Option (List Int) :=
  Option.bind (ref_LeavesOf c0_1 i) fun r1 =>
  need (room (s.length + [r1].length)) <|
  some (s ++ [r1])

/-- drawlaw1.TreesMatch$1 -/
noncomputable def law_TreesMatch_1 (c0_1 : (List Branch)) : Option (List Int) :=
  Option.bind (α := (List Int)) (
    rfor (c0_1.length : Int) (law_TreesMatch_1_L1 c0_1) ([] : List Int)) fun j_1 =>
  some j_1

/-- drawlaw1.TreesMatch$2 -/
noncomputable def law_TreesMatch_2 (a1 : (List Int)) (b1 : (List Int)) : Option Bool :=
  Option.bind (slices_Equal_int a1 b1) fun r1 =>
  some r1

noncomputable def slices_EqualFunc_intx_L1 (eq1 : Int → Int → Option Bool) (s1_1 : (List Int)) (s2_1 : (List Int)) (i : Int) (s : Unit) : Option (Res Unit (Res Unit Bool)) :=
  need (inR s1_1 i) <|
  need (inR s2_1 i) <|
  Option.bind (eq1 (gx s1_1 i) (gx s2_1 i)) fun r1 =>
  bif !r1 then (
    some (Res.ab (Res.ab false)))
  else (
    some (Res.nx ()))

/-- slices.EqualFunc[[]int,[]int,int,int] -/
noncomputable def slices_EqualFunc_intx (s1_1 : (List Int)) (s2_1 : (List Int)) (eq1 : Int → Int → Option Bool) : Option Bool :=
  bif !decide ((s1_1.length : Int) = (s2_1.length : Int)) then (
    some false)
  else (
    bindR (σ := Unit) (ρ := Bool) (
      rforE (s1_1.length : Int) (slices_EqualFunc_intx_L1 eq1 s1_1 s2_1) (fun s => Res.nx s) ()) fun j_2 =>
    some true)

/-- drawref1.SameOf$1 -/
noncomputable def ref_SameOf_1 (self : ((List Branch) × Int × Int) → Option Bool) (x1 : Int) (y1 : Int) (c0_1 : (List Branch)) : Option Bool :=
  Option.bind (self (c0_1, x1, y1)) fun r1 =>
  some r1

/-- drawref1.SameOf -/
noncomputable def ref_SameOf_body (self : ((List Branch) × Int × Int) → Option Bool) (x : ((List Branch) × Int × Int)) : Option Bool :=
  need (inR x.1 x.2.1) <|
  need (inR x.1 x.2.2) <|
  need ((decide (((gx x.1 x.2.1).W_) = ((gx x.1 x.2.2).W_))) = true → inR x.1 x.2.1) <|
  need ((decide (((gx x.1 x.2.1).W_) = ((gx x.1 x.2.2).W_))) = true → inR x.1 x.2.2) <|
  need (((decide (((gx x.1 x.2.1).W_) = ((gx x.1 x.2.2).W_))) && (decide (((gx x.1 x.2.1).H) = ((gx x.1 x.2.2).H)))) = true → inR x.1 x.2.1) <|
  need (((decide (((gx x.1 x.2.1).W_) = ((gx x.1 x.2.2).W_))) && (decide (((gx x.1 x.2.1).H) = ((gx x.1 x.2.2).H)))) = true → inR x.1 x.2.2) <|
  Option.bind (gd (((decide (((gx x.1 x.2.1).W_) = ((gx x.1 x.2.2).W_))) && (decide (((gx x.1 x.2.1).H) = ((gx x.1 x.2.2).H))))) (slices_EqualFunc_intx ((gx x.1 x.2.1).Kids) ((gx x.1 x.2.2).Kids) (fun x0 x1 => ref_SameOf_1 self x0 x1 x.1))) fun r1 =>
  some (((decide (((gx x.1 x.2.1).W_) = ((gx x.1 x.2.2).W_))) && (decide (((gx x.1 x.2.1).H) = ((gx x.1 x.2.2).H)))) && r1)

noncomputable def ref_SameOf (t1 : (List Branch)) (a1 : Int) (b1 : Int) : Option Bool := fixp ref_SameOf_body (t1, a1, b1)

/-- drawlaw1.TreesMatch$3 -/
noncomputable def law_TreesMatch_3 (c0_1 : (List Branch)) (c1_1 : Int) (c2_1 : Int) : Option Bool :=
  Option.bind (ref_SameOf c0_1 c1_1 c2_1) fun r1 =>
  some r1

/-- drawref1.Abs -/
noncomputable def ref_Abs (n1 : Int) : Option Int :=
  some (max n1 (W (-n1)))

noncomputable def ref_HalvesOf_L1 (t1 : (List Branch)) (v1 : (List Int)) (i : Int) (s : Int) : Option Int :=
  need (inR v1 i) <|
  Option.bind (ref_LeavesOf t1 (gx v1 i)) fun r1 =>
  bnd (W (s + r1)) fun all1 =>
  some all1

noncomputable def ref_HalvesOf_L2 (t1 : (List Branch)) (j_3 : Int) (s11_ : (Int × Int × Int × Int)) : Option (Step (Int × Int × Int × Int) Int) :=
  need (inR t1 0) <|
  bif decide (s11_.2.2.2 ≤ (((gx t1 0).Kids).length : Int)) then (
    Option.bind (α := (Int × Int × Int)) (
      Option.bind (ref_Abs (W ((W (2 * s11_.2.2.1)) - j_3))) fun d1 =>
      Option.bind (α := (Int × Int)) (
        bif (decide (s11_.1 < 0)) || (decide (d1 < s11_.1)) then (
          some (d1, s11_.2.2.2))
        else (
          some (s11_.1, s11_.2.1))) fun j_16 =>
      need (inR t1 0) <|
      bif decide (s11_.2.2.2 < (((gx t1 0).Kids).length : Int)) then (
        need (inR t1 0) <|
        need (inR ((gx t1 0).Kids) s11_.2.2.2) <|
        Option.bind (ref_LeavesOf t1 (gx ((gx t1 0).Kids) s11_.2.2.2)) fun r2 =>
        bnd (W (s11_.2.2.1 + r2)) fun left1 =>
        some (j_16.1, j_16.2, left1))
      else (
        some (j_16.1, j_16.2, s11_.2.2.1))) fun j_14 =>
    bnd (W (s11_.2.2.2 + 1)) fun i1 =>
    some (Step.again (j_14.1, j_14.2.1, j_14.2.2, i1)))
  else (
    some (Step.done s11_.2.1))

/-- drawref1.HalvesOf -/
noncomputable def ref_HalvesOf (t1 : (List Branch)) : Option Int :=
  need (inR t1 0) <|
  bnd ((gx t1 0).Kids) fun v1 =>
  Option.bind (α := Int) (
    rfor (v1.length : Int) (ref_HalvesOf_L1 t1 v1) 0) fun j_3 =>
  Option.bind (α := Int) (
    loop (ref_HalvesOf_L2 t1 j_3) ((-1), 0, 0, 0)) fun j_10 =>
  some j_10

/-- drawlaw1.TreesMatch$4 -/
noncomputable def law_TreesMatch_4 (c0_1 : (List Branch)) : Option Int :=
  Option.bind (ref_HalvesOf c0_1) fun r1 =>
  some r1

noncomputable def ref_FoldOf_L1 (t1 : (List Branch)) (folded1 : (List Int)) (s3_ : ((List Int) × (List Int))) : Option (Step ((List Int) × (List Int)) (List Int)) :=
  bif decide (0 < (s3_.2.length : Int)) then (
    Option.bind (α := ((List Int) × (List Int))) (
      need (inR s3_.2 0) <|
      need (room (s3_.1.length + [gx s3_.2 0].length)) <|
      bnd (s3_.1 ++ [gx s3_.2 0]) fun out1 =>
      need (inR s3_.2 0) <|
      Option.bind (slices_Contains_int folded1 (gx s3_.2 0)) fun r1 =>
      bif !r1 then (
        need (inR s3_.2 0) <|
        need (inR t1 (gx s3_.2 0)) <|
        need (room (s3_.2.length + ((gx t1 (gx s3_.2 0)).Kids).length)) <|
        some (out1, s3_.2 ++ ((gx t1 (gx s3_.2 0)).Kids)))
      else (
        some (out1, s3_.2))) fun j_5 =>
    need (segR j_5.2.length 1 (j_5.2.length : Int)) <|
    some (Step.again (j_5.1, seg j_5.2 1 (j_5.2.length : Int))))
  else (
    some (Step.done s3_.1))

/-- drawref1.FoldOf -/
noncomputable def ref_FoldOf (t1 : (List Branch)) (folded1 : (List Int)) : Option (List Int) :=
  bnd ([0]) fun todo1 =>
  Option.bind (α := (List Int)) (
    loop (ref_FoldOf_L1 t1 folded1) (([] : List Int), todo1)) fun j_2 =>
  Option.bind (slices_Sort_int j_2) fun r2 =>
  some r2

/-- drawlaw1.TreesMatch$5 -/
noncomputable def law_TreesMatch_5 (c0_1 : (List Branch)) (c1_1 : (List Int)) : Option (List Int) :=
  Option.bind (ref_FoldOf c0_1 c1_1) fun r1 =>
  some r1

noncomputable def law_TreesMatch_L1 (t1 : (List Branch)) (folded1 : (List Int)) (i : Int) (s : Int) : Option Int :=
  need (inR folded1 i) <|
  bnd (gx folded1 i) fun n1 =>
  Option.bind (ref_In n1 0 (W ((t1.length : Int) - 1))) fun r16 =>
  Option.bind (ref_When (!r16) 10) fun r17 =>
  need (segR folded1.length 0 i) <|
  Option.bind (slices_Contains_int (seg folded1 0 i) n1) fun r18 =>
  Option.bind (ref_When r18 6) fun r19 =>
  Option.bind (ref_First [s, r17, r19]) fun want1 =>
  some want1

/-- drawlaw1.TreesMatch -/
noncomputable def law_TreesMatch (t1 : (List Branch)) (a1 : Int) (b1 : Int) (folded1 : (List Int)) : Option Bool :=
  Option.bind (ref_TreeError t1) fun own1 =>
  Option.bind (tree_Leaves t1) fun r1 =>
  Option.bind (law_trees) fun r2 =>
  Option.bind (gd (!(!r2)) (tree_Check t1)) fun r3 =>
  Option.bind (gd (!((!r2) || (!decide (r3 = own1)))) (law_lists_int r1.1 r1.2 own1 (law_TreesMatch_1 t1))) fun r4 =>
  bif ((!r2) || (!decide (r3 = own1))) || (!r4) then (
    some false)
  else (
    Option.bind (tree_Levels t1) fun r5 =>
    Option.bind (gd (!((!decide (own1 = 0)) && ((decide (0 < (r5.1.length : Int))) || (!decide (r5.2 = own1)))) && (decide (own1 = 0)) && !(!decide (r5.2 = 0))) (ref_LevelsOf t1)) fun r6 =>
    Option.bind (gd (!((!decide (own1 = 0)) && ((decide (0 < (r5.1.length : Int))) || (!decide (r5.2 = own1)))) && (decide (own1 = 0)) && !(!decide (r5.2 = 0))) (slices_EqualFunc_int r5.1 r6 law_TreesMatch_2)) fun r7 =>
    bif ((!decide (own1 = 0)) && ((decide (0 < (r5.1.length : Int))) || (!decide (r5.2 = own1)))) || ((decide (own1 = 0)) && ((!decide (r5.2 = 0)) || (!r7))) then (
      some false)
    else (
      Option.bind (tree_Same t1 a1 b1) fun r8 =>
      Option.bind (ref_In a1 0 (W ((t1.length : Int) - 1))) fun r9 =>
      Option.bind (gd (!(!r9)) (ref_In b1 0 (W ((t1.length : Int) - 1)))) fun r10 =>
      Option.bind (ref_When ((!r9) || (!r10)) 10) fun r11 =>
      Option.bind (ref_First [own1, r11]) fun none1 =>
      Option.bind (tree_Halves t1) fun r12 =>
      Option.bind (law_is_bool r8.1 r8.2 none1 (law_TreesMatch_3 t1 a1 b1)) fun r13 =>
      Option.bind (gd (!(!r13)) (law_is_int r12.1 r12.2 own1 (law_TreesMatch_4 t1))) fun r14 =>
      bif (!r13) || (!r14) then (
        some false)
      else (
        Option.bind (tree_Fold t1 folded1) fun r15 =>
        Option.bind (α := Int) (
          rfor (folded1.length : Int) (law_TreesMatch_L1 t1 folded1) own1) fun j_21 =>
        Option.bind (law_lists_int r15.1 r15.2 j_21 (law_TreesMatch_5 t1 folded1)) fun r20 =>
        some r20)))


end Go.DB
