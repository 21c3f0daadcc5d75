/-
  What the functions compute, as plain functions (printed by a program of one's own).
-/
import Derived.Test.YtakkmmhjohadaaaTdmTy
set_option maxRecDepth 100000
set_option linter.unusedSimpArgs false
set_option linter.unusedVariables false
namespace Go.DB
open Go Go.RowKit

/-- tree.Check$1 -/
noncomputable def tree_Check_1 (n1 : Int) : Option Bool :=
  some ((decide (1 ≤ n1)) && (decide (n1 ≤ 1000)))

noncomputable def slices_Index_bool_L1 (s1 : (List Bool)) (v1 : Bool) (i : Int) (s : Unit) : Option (Res Unit (Res Unit Int)) :=
  need (inR s1 i) <|
  bif decide (v1 = (gx s1 i)) then (
    some (Res.ab (Res.ab i)))
  else (
    some (Res.nx ()))

/-- slices.Index[[]bool,bool] -/
noncomputable def slices_Index_bool (s1 : (List Bool)) (v1 : Bool) : Option Int :=
  bindR (σ := Unit) (ρ := Int) (
    rforE (s1.length : Int) (slices_Index_bool_L1 s1 v1) (fun s => Res.nx s) ()) fun j_1 =>
  some (-1)

/-- slices.Contains[[]bool,bool] -/
noncomputable def slices_Contains_bool (s1 : (List Bool)) (v1 : Bool) : Option Bool :=
  Option.bind (slices_Index_bool s1 v1) fun r1 =>
  some (decide (0 ≤ r1))

noncomputable def tree_levels_L2 (t1 : (List Branch)) (s3_ : ((List (List Int)) × (List Int))) (i : Int) (s : (List Int)) : Option (List Int) :=
  need (inR s3_.2 i) <|
  need (inR t1 (gx s3_.2 i)) <|
  need (room (s.length + ((gx t1 (gx s3_.2 i)).Kids).length)) <|
  some (s ++ ((gx t1 (gx s3_.2 i)).Kids))

noncomputable def tree_levels_L1 (t1 : (List Branch)) (s3_ : ((List (List Int)) × (List Int))) : Option (Step ((List (List Int)) × (List Int)) (List (List Int))) :=
  bif decide (0 < (s3_.2.length : Int)) then (
    need (room (s3_.1.length + [s3_.2].length)) <|
    bnd (s3_.1 ++ [s3_.2]) fun out1 =>
    Option.bind (α := (List Int)) (
      rfor (s3_.2.length : Int) (tree_levels_L2 t1 s3_) ([] : List Int)) fun j_7 =>
    some (Step.again (out1, j_7)))
  else (
    some (Step.done s3_.1))

/-- tree.levels -/
noncomputable def tree_levels (t1 : (List Branch)) : Option (List (List Int)) :=
  bnd ([0]) fun l1 =>
  Option.bind (α := (List (List Int))) (
    loop (tree_levels_L1 t1) (([] : List (List Int)), l1)) fun j_2 =>
  some j_2

noncomputable def tree_Check_L2 (t1 : (List Branch)) (v2 : Branch) (i : Int) (s : (List Bool)) : Option (Res (List Bool) (Res (List Bool) (Res (List Bool) Int))) :=
  need (inR v2.Kids i) <|
  bnd (gx v2.Kids i) fun k1 =>
  bif (decide (k1 < 0)) || (decide ((t1.length : Int) ≤ k1)) then (
    some (Res.ab (Res.ab (Res.ab 10))))
  else (
    bif decide (k1 = 0) then (
      some (Res.ab (Res.ab (Res.ab 13))))
    else (
      need (inR s k1) <|
      bif gx s k1 then (
        some (Res.ab (Res.ab (Res.ab 6))))
      else (
        need (inR s k1) <|
        some (Res.nx (s.set k1.toNat true)))))

noncomputable def tree_Check_L1 (t1 : (List Branch)) (i : Int) (s : (List Bool)) : Option (Res (List Bool) (Res (List Bool) Int)) :=
  need (inR t1 i) <|
  bnd (gx t1 i) fun v2 =>
  Option.bind (tree_Check_1 v2.W_) fun r1 =>
  Option.bind (gd (!(!r1)) (tree_Check_1 v2.H)) fun r2 =>
  bif (!r1) || (!r2) then (
    some (Res.ab (Res.ab 3)))
  else (
    rforE (v2.Kids.length : Int) (tree_Check_L2 t1 v2) (fun s => Res.nx s) s)

noncomputable def tree_Check_L3 (r4 : (List (List Int))) (i : Int) (s : Int) : Option Int :=
  need (inR r4 i) <|
  bnd (W (s + ((gx r4 i).length : Int))) fun many1 =>
  some many1

/-- tree.Check -/
noncomputable def tree_Check (t1 : (List Branch)) : Option Int :=
  bif decide ((t1.length : Int) = 0) then (
    some 9)
  else (
    bif decide (300 < (t1.length : Int)) then (
      some 4)
    else (
      bnd ((t1.length : Int)) fun v1 =>
      need (0 ≤ v1 ∧ v1 ≤ v1 ∧ v1 ≤ 1073741824) <|
      bnd (List.replicate v1.toNat false) fun isKid1 =>
      bindR (σ := (List Bool)) (ρ := Int) (
        rforE (t1.length : Int) (tree_Check_L1 t1) (fun s => Res.nx s) isKid1) fun j_6 =>
      need (segR j_6.length 1 (j_6.length : Int)) <|
      Option.bind (slices_Contains_bool (seg j_6 1 (j_6.length : Int)) false) fun r3 =>
      bif r3 then (
        some 2)
      else (
        Option.bind (tree_levels t1) fun r4 =>
        Option.bind (α := Int) (
          rfor (r4.length : Int) (tree_Check_L3 r4) 0) fun j_29 =>
        bif decide (j_29 < (t1.length : Int)) then (
          some 13)
        else (
          some 0))))

/-- tree.floor -/
noncomputable def tree_floor (a1 : Int) (b1 : Int) : Option Int :=
  need (0 < b1) <|
  bnd (a1.tdiv b1) fun q1 =>
  need (0 < b1) <|
  Option.bind (α := Int) (
    bif decide ((a1.tmod b1) < 0) then (
      bnd (W (q1 - 1)) fun q2 =>
      some q2)
    else (
      some q1)) fun j_4 =>
  some j_4

noncomputable def tree_drawer_draw_L2 (l1 : ((List Tree_stretch) × Tree_drawer)) (p4_ : Int × ((List Tree_stretch) × Tree_drawer)) (i : Int) (s : Int) : Option Int :=
  need (inR p4_.2.1 i) <|
  need (inR l1.1 i) <|
  bnd (W ((W (((gx p4_.2.1 i).to_) + l1.2.gap)) - ((gx l1.1 i).from_))) fun n1 =>
  bif (decide (i = 0)) || (decide (s < n1)) then (
    some n1)
  else (
    some s)

noncomputable def tree_drawer_draw_L3 (l1 : ((List Tree_stretch) × Tree_drawer)) (j_18 : Int) (i : Int) (s : (List Tree_stretch)) : Option (List Tree_stretch) :=
  need (inR l1.1 i) <|
  bnd (gx l1.1 i) fun v2 =>
  Option.bind (α := (List Tree_stretch)) (
    bif decide (i = (s.length : Int)) then (
      need (room (s.length + [(⟨W (v2.from_ + j_18), W (v2.to_ + j_18)⟩ : Tree_stretch)].length)) <|
      some (s ++ [(⟨W (v2.from_ + j_18), W (v2.to_ + j_18)⟩ : Tree_stretch)]))
    else (
      some s)) fun j_28 =>
  bnd (W (v2.to_ + j_18)) fun v3 =>
  need (inR j_28 i) <|
  some (j_28.set i.toNat { gx j_28 i with to_ := v3 })

noncomputable def tree_drawer_draw_L1 (self : (Tree_drawer × Int) → Option ((List Tree_stretch) × Tree_drawer)) (x : (Tree_drawer × Int)) (v1 : Branch) (i : Int) (s : ((List Tree_stretch) × Tree_drawer)) : Option ((List Tree_stretch) × Tree_drawer) :=
  need (inR v1.Kids i) <|
  bnd (gx v1.Kids i) fun kid1 =>
  Option.bind (self (({ s.2 with x := s.2.x, moved := s.2.moved }), kid1)) fun l1 =>
  Option.bind (α := Int) (
    rfor (min (s.1.length : Int) (l1.1.length : Int)) (tree_drawer_draw_L2 l1 (i, s)) 0) fun j_10 =>
  Option.bind (α := Int) (
    bif decide (i = 0) then (
      some 0)
    else (
      some j_10)) fun j_18 =>
  need (inR l1.2.moved kid1) <|
  bnd (l1.2.moved.set kid1.toNat j_18) fun c1 =>
  Option.bind (α := (List Tree_stretch)) (
    rfor (l1.1.length : Int) (tree_drawer_draw_L3 l1 j_18) s.1) fun j_22 =>
  some (j_22, { l1.2 with x := l1.2.x, moved := c1 })

/-- (*tree.drawer).draw -/
noncomputable def tree_drawer_draw_body (self : (Tree_drawer × Int) → Option ((List Tree_stretch) × Tree_drawer)) (x : (Tree_drawer × Int)) : Option ((List Tree_stretch) × Tree_drawer) :=
  need (inR x.1.t x.2) <|
  bnd (gx x.1.t x.2) fun v1 =>
  Option.bind (α := ((List Tree_stretch) × Tree_drawer)) (
    rfor (v1.Kids.length : Int) (tree_drawer_draw_L1 self x v1) (([] : List Tree_stretch), { x.1 with x := x.1.x, moved := x.1.moved })) fun j_3 =>
  Option.bind (α := (List Int)) (
    bif decide (0 < (v1.Kids.length : Int)) then (
      need (inR j_3.1 0) <|
      need (inR j_3.1 0) <|
      Option.bind (tree_floor (W (((gx j_3.1 0).from_) + ((gx j_3.1 0).to_))) 2) fun r1 =>
      bnd (W (r1 - (v1.W_.tdiv 2))) fun v4 =>
      need (inR j_3.2.x x.2) <|
      some (j_3.2.x.set x.2.toNat v4))
    else (
      some j_3.2.x)) fun j_33 =>
  need (inR j_33 x.2) <|
  need (inR j_33 x.2) <|
  need (room ([(⟨gx j_33 x.2, W ((gx j_33 x.2) + v1.W_)⟩ : Tree_stretch)].length + j_3.1.length)) <|
  some ([(⟨gx j_33 x.2, W ((gx j_33 x.2) + v1.W_)⟩ : Tree_stretch)] ++ j_3.1, { j_3.2 with x := j_33, moved := j_3.2.moved })

noncomputable def tree_drawer_draw (d1 : Tree_drawer) (k1 : Int) : Option ((List Tree_stretch) × Tree_drawer) := fixp tree_drawer_draw_body (d1, k1)

noncomputable def tree_Tidy_L3 (k1 : Int) (r1 : ((List Tree_stretch) × Tree_drawer)) (v7 : (List Int)) (i : Int) (s : (List Int)) : Option (List Int) :=
  need (inR v7 i) <|
  bnd (gx v7 i) fun kid1 =>
  need (inR s k1) <|
  need (inR (({ r1.2 with x := r1.2.x, moved := r1.2.moved }).moved) kid1) <|
  bnd (W ((gx s k1) + (gx (({ r1.2 with x := r1.2.x, moved := r1.2.moved }).moved) kid1))) fun v8 =>
  need (inR s kid1) <|
  some (s.set kid1.toNat v8)

noncomputable def tree_Tidy_L2 (r1 : ((List Tree_stretch) × Tree_drawer)) (t1 : (List Branch)) (v5 : (List Int)) (p17_ : Int × (Int × (List Point) × (List Int))) (i : Int) (s : (Int × (List Point) × (List Int))) : Option (Int × (List Point) × (List Int)) :=
  need (inR v5 i) <|
  bnd (gx v5 i) fun k1 =>
  need (inR (({ r1.2 with x := r1.2.x, moved := r1.2.moved }).x) k1) <|
  need (inR s.2.2 k1) <|
  bnd ((⟨W ((gx (({ r1.2 with x := r1.2.x, moved := r1.2.moved }).x) k1) + (gx s.2.2 k1)), p17_.2.1⟩ : Point)) fun v6 =>
  need (inR s.2.1 k1) <|
  bnd (s.2.1.set k1.toNat v6) fun out2 =>
  need (inR t1 k1) <|
  bnd (max s.1 ((gx t1 k1).H)) fun high1 =>
  need (inR t1 k1) <|
  bnd ((gx t1 k1).Kids) fun v7 =>
  Option.bind (α := (List Int)) (
    rfor (v7.length : Int) (tree_Tidy_L3 k1 r1 v7) s.2.2) fun j_37 =>
  some (high1, out2, j_37)

noncomputable def tree_Tidy_L1 (r1 : ((List Tree_stretch) × Tree_drawer)) (r2 : (List (List Int))) (t1 : (List Branch)) (gapy1 : Int) (i : Int) (s : (Int × (List Point) × (List Int))) : Option (Int × (List Point) × (List Int)) :=
  need (inR r2 i) <|
  bnd (gx r2 i) fun v5 =>
  Option.bind (α := (Int × (List Point) × (List Int))) (
    rfor (v5.length : Int) (tree_Tidy_L2 r1 t1 v5 (i, s)) (0, s.2.1, s.2.2)) fun j_22 =>
  bnd (W (s.1 + (W (j_22.1 + gapy1)))) fun y1 =>
  some (y1, j_22.2.1, j_22.2.2)

noncomputable def tree_Tidy_L4 (j_16 : (Int × (List Point) × (List Int))) (i : Int) (s : Int) : Option Int :=
  need (inR j_16.2.1 i) <|
  bnd (gx j_16.2.1 i) fun v9 =>
  bnd (min s v9.X) fun left2 =>
  some left2

noncomputable def tree_Tidy_L5 (j_50 : Int) (i : Int) (s : (List Point)) : Option (List Point) :=
  need (inR s i) <|
  bnd (W (((gx s i).X) - j_50)) fun v10 =>
  need (inR s i) <|
  some (s.set i.toNat { gx s i with X := v10 })

/-- tree.Tidy -/
noncomputable def tree_Tidy (t1 : (List Branch)) (gapx1 : Int) (gapy1 : Int) : Option ((List Point) × Int) :=
  Option.bind (tree_Check t1) fun e1 =>
  bif !decide (e1 = 0) then (
    some (([] : (List Point)), e1))
  else (
    bif (((decide (gapx1 < 0)) || (decide (1000 < gapx1))) || (decide (gapy1 < 0))) || (decide (1000 < gapy1)) then (
      some (([] : (List Point)), 3))
    else (
      bnd ((t1.length : Int)) fun v1 =>
      need (0 ≤ v1 ∧ v1 ≤ v1 ∧ v1 ≤ 1073741824) <|
      bnd ((t1.length : Int)) fun v2 =>
      need (0 ≤ v2 ∧ v2 ≤ v2 ∧ v2 ≤ 1073741824) <|
      Option.bind (tree_drawer_draw (⟨t1, gapx1, List.replicate v1.toNat (0 : Int), List.replicate v2.toNat (0 : Int)⟩ : Tree_drawer) 0) fun r1 =>
      bnd ((t1.length : Int)) fun v3 =>
      need (0 ≤ v3 ∧ v3 ≤ v3 ∧ v3 ≤ 1073741824) <|
      bnd (List.replicate v3.toNat (⟨(0 : Int), (0 : Int)⟩ : Point)) fun out1 =>
      bnd ((t1.length : Int)) fun v4 =>
      need (0 ≤ v4 ∧ v4 ≤ v4 ∧ v4 ≤ 1073741824) <|
      bnd (List.replicate v4.toNat (0 : Int)) fun shift1 =>
      Option.bind (tree_levels t1) fun r2 =>
      Option.bind (α := (Int × (List Point) × (List Int))) (
        rfor (r2.length : Int) (tree_Tidy_L1 r1 r2 t1 gapy1) (0, out1, shift1)) fun j_16 =>
      need (inR j_16.2.1 0) <|
      bnd ((gx j_16.2.1 0).X) fun left1 =>
      Option.bind (α := Int) (
        rfor (j_16.2.1.length : Int) (tree_Tidy_L4 j_16) left1) fun j_50 =>
      Option.bind (α := (List Point)) (
        rfor (j_16.2.1.length : Int) (tree_Tidy_L5 j_50) j_16.2.1) fun j_57 =>
      some (j_57, 0)))

/-- drawref1.When -/
noncomputable def ref_When (is1 : Bool) (e1 : Int) : Option Int :=
  bif is1 then (
    some e1)
  else (
    some 0)

noncomputable def ref_First_L1 (l1 : (List Int)) (i : Int) (s : Unit) : Option (Res Unit (Res Unit Int)) :=
  need (inR l1 i) <|
  bnd (gx l1 i) fun e1 =>
  bif !decide (e1 = 0) then (
    some (Res.ab (Res.ab e1)))
  else (
    some (Res.nx ()))

/-- drawref1.First -/
noncomputable def ref_First (l1 : (List Int)) : Option Int :=
  bindR (σ := Unit) (ρ := Int) (
    rforE (l1.length : Int) (ref_First_L1 l1) (fun s => Res.nx s) ()) fun j_1 =>
  some 0

/-- drawref1.In -/
noncomputable def ref_In (n1 : Int) (low1 : Int) (high1 : Int) : Option Bool :=
  some ((decide (low1 ≤ n1)) && (decide (n1 ≤ high1)))

noncomputable def ref_LevelsOf_L2 (t1 : (List Branch)) (s3_ : ((List (List Int)) × (List Int))) (i : Int) (s : (List Int)) : Option (List Int) :=
  need (inR s3_.2 i) <|
  need (inR t1 (gx s3_.2 i)) <|
  need (room (s.length + ((gx t1 (gx s3_.2 i)).Kids).length)) <|
  some (s ++ ((gx t1 (gx s3_.2 i)).Kids))

noncomputable def ref_LevelsOf_L1 (t1 : (List Branch)) (s3_ : ((List (List Int)) × (List Int))) : Option (Step ((List (List Int)) × (List Int)) (List (List Int))) :=
  bif decide (0 < (s3_.2.length : Int)) then (
    need (room (s3_.1.length + [s3_.2].length)) <|
    bnd (s3_.1 ++ [s3_.2]) fun out1 =>
    Option.bind (α := (List Int)) (
      rfor (s3_.2.length : Int) (ref_LevelsOf_L2 t1 s3_) ([] : List Int)) fun j_7 =>
    some (Step.again (out1, j_7)))
  else (
    some (Step.done s3_.1))

/-- drawref1.LevelsOf -/
noncomputable def ref_LevelsOf (t1 : (List Branch)) : Option (List (List Int)) :=
  bnd ([0]) fun now1 =>
  Option.bind (α := (List (List Int))) (
    loop (ref_LevelsOf_L1 t1) (([] : List (List Int)), now1)) fun j_2 =>
  some j_2

noncomputable def ref_TreeError_L2 (t1 : (List Branch)) (v2 : Branch) (i : Int) (s : (List Bool)) : Option (Res (List Bool) (Res (List Bool) (Res (List Bool) Int))) :=
  need (inR v2.Kids i) <|
  bnd (gx v2.Kids i) fun k1 =>
  Option.bind (ref_In k1 0 (W ((t1.length : Int) - 1))) fun r5 =>
  bif !r5 then (
    some (Res.ab (Res.ab (Res.ab 10))))
  else (
    Option.bind (ref_When (decide (k1 = 0)) 13) fun r6 =>
    need (inR s k1) <|
    Option.bind (ref_When (gx s k1) 6) fun r7 =>
    Option.bind (ref_First [r6, r7]) fun e2 =>
    bif !decide (e2 = 0) then (
      some (Res.ab (Res.ab (Res.ab e2))))
    else (
      need (inR s k1) <|
      some (Res.nx (s.set k1.toNat true))))

noncomputable def ref_TreeError_L1 (t1 : (List Branch)) (i : Int) (s : (List Bool)) : Option (Res (List Bool) (Res (List Bool) Int)) :=
  need (inR t1 i) <|
  bnd (gx t1 i) fun v2 =>
  Option.bind (ref_In v2.W_ 1 1000) fun r3 =>
  Option.bind (gd (!(!r3)) (ref_In v2.H 1 1000)) fun r4 =>
  bif (!r3) || (!r4) then (
    some (Res.ab (Res.ab 3)))
  else (
    rforE (v2.Kids.length : Int) (ref_TreeError_L2 t1 v2) (fun s => Res.nx s) s)

noncomputable def ref_TreeError_L3 (r9 : (List (List Int))) (i : Int) (s : Int) : Option Int :=
  need (inR r9 i) <|
  bnd (W (s + ((gx r9 i).length : Int))) fun many1 =>
  some many1

/-- drawref1.TreeError -/
noncomputable def ref_TreeError (t1 : (List Branch)) : Option Int :=
  Option.bind (ref_When (decide ((t1.length : Int) = 0)) 9) fun r1 =>
  Option.bind (ref_When (decide (300 < (t1.length : Int))) 4) fun r2 =>
  Option.bind (ref_First [r1, r2]) fun e1 =>
  bif !decide (e1 = 0) then (
    some e1)
  else (
    bnd ((t1.length : Int)) fun v1 =>
    need (0 ≤ v1 ∧ v1 ≤ v1 ∧ v1 ≤ 1073741824) <|
    bnd (List.replicate v1.toNat false) fun kid1 =>
    bindR (σ := (List Bool)) (ρ := Int) (
      rforE (t1.length : Int) (ref_TreeError_L1 t1) (fun s => Res.nx s) kid1) fun j_8 =>
    need (segR j_8.length 1 (j_8.length : Int)) <|
    Option.bind (slices_Contains_bool (seg j_8 1 (j_8.length : Int)) false) fun r8 =>
    bif r8 then (
      some 2)
    else (
      Option.bind (ref_LevelsOf t1) fun r9 =>
      Option.bind (α := Int) (
        rfor (r9.length : Int) (ref_TreeError_L3 r9) 0) fun j_34 =>
      Option.bind (ref_When (!decide (j_34 = (t1.length : Int))) 13) fun r10 =>
      some r10))

/-- drawlaw1.trees -/
noncomputable def law_trees  : Option Bool :=
  Option.bind (tree_Check [(⟨1, 1, ([] : (List Int))⟩ : Branch)]) fun r1 =>
  Option.bind (gd ((decide (r1 = 0))) (tree_Check ([] : (List Branch)))) fun r2 =>
  some ((decide (r1 = 0)) && (decide (r2 = 9)))

/-- drawref1.Down -/
noncomputable def ref_Down (a1 : Int) (b1 : Int) : Option Int :=
  need (0 < b1) <|
  bnd (a1.tdiv b1) fun q1 =>
  Option.bind (α := Int) (
    bif decide (a1 < (W (q1 * b1))) then (
      bnd (W (q1 - 1)) fun q2 =>
      some q2)
    else (
      some q1)) fun j_3 =>
  some j_3

noncomputable def ref_drawing_L3 (x : ((List Branch) × Int × Int)) (r1 : Ref_drawn) (p10_ : Int × ((GMap Int Int) × (GMap Int Int))) (x16_ : (Int × Int)) (k : Int) (e : Int) (s : (Int × Bool)) : Option (Int × Bool) :=
  bif decide ((W ((r1.level.getD x16_.1 (0 : Int)) + 1)) = (p10_.2.2.getD k (0 : Int))) then (
    need (inR x.1 k) <|
    bnd (W ((W ((W (e + ((gx x.1 k).W_))) + x.2.2)) - x16_.2)) fun s1 =>
    bif (!s.2) || (decide (s.1 < s1)) then (
      some (s1, true))
    else (
      some (s.1, s.2)))
  else (
    some (s.1, s.2))

noncomputable def ref_drawing_L2 (x : ((List Branch) × Int × Int)) (r1 : Ref_drawn) (p10_ : Int × ((GMap Int Int) × (GMap Int Int))) (k : Int) (e : Int) (s : (Int × Bool)) : Option (Int × Bool) :=
  mrange p10_.2.1 (ref_drawing_L3 x r1 p10_ (k, e)) (s.1, s.2)

noncomputable def ref_drawing_L4 (r1 : Ref_drawn) (j_15 : (Int × Bool)) (k : Int) (e : Int) (s : ((GMap Int Int) × (GMap Int Int))) : Option ((GMap Int Int) × (GMap Int Int)) :=
  some (s.1.set k (W (e + j_15.1)), s.2.set k (W ((r1.level.getD k (0 : Int)) + 1)))

noncomputable def ref_drawing_L1 (self : ((List Branch) × Int × Int) → Option Ref_drawn) (x : ((List Branch) × Int × Int)) (v3 : (List Int)) (i : Int) (s : ((GMap Int Int) × (GMap Int Int))) : Option ((GMap Int Int) × (GMap Int Int)) :=
  need (inR v3 i) <|
  Option.bind (self (x.1, (gx v3 i), x.2.2)) fun r1 =>
  Option.bind (α := (Int × Bool)) (
    mrange r1.x (ref_drawing_L2 x r1 (i, s)) (0, false)) fun j_15 =>
  mrange r1.x (ref_drawing_L4 r1 j_15) (s.1, s.2)

/-- drawref1.drawing -/
noncomputable def ref_drawing_body (self : ((List Branch) × Int × Int) → Option Ref_drawn) (x : ((List Branch) × Int × Int)) : Option Ref_drawn :=
  bnd ((⟨(GMap.nil : (GMap Int Int)), (GMap.nil : (GMap Int Int))⟩ : Ref_drawn)) fun v1 =>
  need (inR x.1 x.2.1) <|
  bnd ((GMap.nil : (GMap Int Int))) fun c1 =>
  bnd ((GMap.nil : (GMap Int Int)).set x.2.1 0) fun c2 =>
  bif decide ((((gx x.1 x.2.1).Kids).length : Int) = 0) then (
    bnd ((⟨c1.set x.2.1 0, c2⟩ : Ref_drawn)) fun v2 =>
    some v2)
  else (
    need (inR x.1 x.2.1) <|
    bnd ((gx x.1 x.2.1).Kids) fun v3 =>
    Option.bind (α := ((GMap Int Int) × (GMap Int Int))) (
      rfor (v3.length : Int) (ref_drawing_L1 self x v3) (c1, c2)) fun j_9 =>
    need (inR x.1 x.2.1) <|
    bnd ((gx x.1 x.2.1).Kids) fun kids1 =>
    need (inR kids1 0) <|
    need (inR kids1 (W ((kids1.length : Int) - 1))) <|
    bnd (gx kids1 (W ((kids1.length : Int) - 1))) fun last1 =>
    need (inR x.1 last1) <|
    Option.bind (ref_Down (W ((W ((j_9.1.getD (gx kids1 0) (0 : Int)) + (j_9.1.getD last1 (0 : Int)))) + ((gx x.1 last1).W_))) 2) fun r2 =>
    need (inR x.1 x.2.1) <|
    Option.bind (ref_Down ((gx x.1 x.2.1).W_) 2) fun r3 =>
    bnd ((⟨j_9.1.set x.2.1 (W (r2 - r3)), j_9.2⟩ : Ref_drawn)) fun v4 =>
    some v4)

noncomputable def ref_drawing (t1 : (List Branch)) (n1 : Int) (gapx1 : Int) : Option Ref_drawn := fixp ref_drawing_body (t1, n1, gapx1)

noncomputable def ref_TidyTree_L1  (k : Int) (e : Int) (s : Int) : Option Int :=
  bnd (min s e) fun low2 =>
  some low2

noncomputable def ref_TidyTree_L3 (r1 : Ref_drawn) (t1 : (List Branch)) (v2 : (List Int)) (j_3 : Int) (p12_ : Int × (Int × (List Point))) (i : Int) (s : (Int × (List Point))) : Option (Int × (List Point)) :=
  need (inR v2 i) <|
  bnd (gx v2 i) fun n1 =>
  bnd ((⟨W ((r1.x.getD n1 (0 : Int)) - j_3), p12_.2.1⟩ : Point)) fun v3 =>
  need (inR s.2 n1) <|
  bnd (s.2.set n1.toNat v3) fun out2 =>
  need (inR t1 n1) <|
  bnd (max s.1 ((gx t1 n1).H)) fun high1 =>
  some (high1, out2)

noncomputable def ref_TidyTree_L2 (r1 : Ref_drawn) (r2 : (List (List Int))) (t1 : (List Branch)) (j_3 : Int) (gapy1 : Int) (i : Int) (s : (Int × (List Point))) : Option (Int × (List Point)) :=
  need (inR r2 i) <|
  bnd (gx r2 i) fun v2 =>
  Option.bind (α := (Int × (List Point))) (
    rfor (v2.length : Int) (ref_TidyTree_L3 r1 t1 v2 j_3 (i, s)) (0, s.2)) fun j_17 =>
  bnd (W (s.1 + (W (j_17.1 + gapy1)))) fun y1 =>
  some (y1, j_17.2)

/-- drawref1.TidyTree -/
noncomputable def ref_TidyTree (t1 : (List Branch)) (gapx1 : Int) (gapy1 : Int) : Option (List Point) :=
  Option.bind (ref_drawing t1 0 gapx1) fun r1 =>
  bnd (r1.x.getD 0 (0 : Int)) fun low1 =>
  Option.bind (α := Int) (
    mrange r1.x ref_TidyTree_L1 low1) fun j_3 =>
  bnd ((t1.length : Int)) fun v1 =>
  need (0 ≤ v1 ∧ v1 ≤ v1 ∧ v1 ≤ 1073741824) <|
  bnd (List.replicate v1.toNat (⟨(0 : Int), (0 : Int)⟩ : Point)) fun out1 =>
  Option.bind (ref_LevelsOf t1) fun r2 =>
  Option.bind (α := (Int × (List Point))) (
    rfor (r2.length : Int) (ref_TidyTree_L2 r1 r2 t1 j_3 gapy1) (0, out1)) fun j_11 =>
  some j_11.2

/-- drawlaw1.TidiesMatch$1 -/
noncomputable def law_TidiesMatch_1 (c0_1 : (List Branch)) (c1_1 : Int) (c2_1 : Int) : Option (List Point) :=
  Option.bind (ref_TidyTree c0_1 c1_1 c2_1) fun r1 =>
  some r1

noncomputable def slices_Equal_Point_L1 (s1_1 : (List Point)) (s2_1 : (List Point)) (i : Int) (s : Unit) : Option (Res Unit (Res Unit Bool)) :=
  need (inR s1_1 i) <|
  need (inR s2_1 i) <|
  bif !decide ((gx s1_1 i) = (gx s2_1 i)) then (
    some (Res.ab (Res.ab false)))
  else (
    some (Res.nx ()))

/-- slices.Equal[[]api.Point,api.Point] -/
noncomputable def slices_Equal_Point (s1_1 : (List Point)) (s2_1 : (List Point)) : Option Bool :=
  bif !decide ((s1_1.length : Int) = (s2_1.length : Int)) then (
    some false)
  else (
    bindR (σ := Unit) (ρ := Bool) (
      rforE (s1_1.length : Int) (slices_Equal_Point_L1 s1_1 s2_1) (fun s => Res.nx s) ()) fun j_2 =>
    some true)

/-- drawlaw1.lists[api.Point] -/
noncomputable def law_lists_Point (got1 : (List Point)) (e1 : Int) (want1 : Int) (right1 : (Option (List Point))) : Option Bool :=
  bif !decide (want1 = 0) then (
    some ((decide ((got1.length : Int) = 0)) && (decide (e1 = want1))))
  else (
    Option.bind (gd ((decide (e1 = 0))) (right1)) fun r1 =>
    Option.bind (gd ((decide (e1 = 0))) (slices_Equal_Point got1 r1)) fun r2 =>
    some ((decide (e1 = 0)) && r2))

/-- drawlaw1.TidiesMatch -/
noncomputable def law_TidiesMatch (t1 : (List Branch)) (gapx1 : Int) (gapy1 : Int) : Option Bool :=
  Option.bind (tree_Tidy t1 gapx1 gapy1) fun r1 =>
  Option.bind (ref_TreeError t1) fun r2 =>
  Option.bind (ref_In gapx1 0 1000) fun r3 =>
  Option.bind (gd (!(!r3)) (ref_In gapy1 0 1000)) fun r4 =>
  Option.bind (ref_When ((!r3) || (!r4)) 3) fun r5 =>
  Option.bind (ref_First [r2, r5]) fun want1 =>
  bif (decide (want1 = 0)) && (decide (60 < (t1.length : Int))) then (
    some ((decide (r1.2 = 0)) && (decide ((r1.1.length : Int) = (t1.length : Int)))))
  else (
    Option.bind (law_trees) fun r6 =>
    Option.bind (gd (r6) (law_lists_Point r1.1 r1.2 want1 (law_TidiesMatch_1 t1 gapx1 gapy1))) fun r7 =>
    some (r6 && r7))


end Go.DB
