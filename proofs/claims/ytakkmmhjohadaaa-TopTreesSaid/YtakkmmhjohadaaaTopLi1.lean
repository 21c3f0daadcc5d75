/-
  What the functions compute, as plain functions (printed by a program of one's own).
-/
import Derived.Test.YtakkmmhjohadaaaTopTy
set_option maxRecDepth 100000
set_option linter.unusedSimpArgs false
set_option linter.unusedVariables false
namespace Go.DB
open Go Go.RowKit

/-- tree.Check$1 -/
noncomputable def tree_Check_1 (n1 : Int) : Option Bool :=
  some ((decide (1 ≤ n1)) && (decide (n1 ≤ 1000)))

noncomputable def slices_Index_bool_L1 (s1 : (List Bool)) (v1 : Bool) (i : Int) (s : Unit) : Option (Res Unit (Res Unit Int)) :=
  need (inR s1 i) <|
  bif decide (v1 = (gx s1 i)) then (
    some (Res.ab (Res.ab i)))
  else (
    some (Res.nx ()))

/-- slices.Index[[]bool,bool] -/
noncomputable def slices_Index_bool (s1 : (List Bool)) (v1 : Bool) : Option Int :=
  bindR (σ := Unit) (ρ := Int) (
    rforE (s1.length : Int) (slices_Index_bool_L1 s1 v1) (fun s => Res.nx s) ()) fun j_1 =>
  some (-1)

/-- slices.Contains[[]bool,bool] -/
noncomputable def slices_Contains_bool (s1 : (List Bool)) (v1 : Bool) : Option Bool :=
  Option.bind (slices_Index_bool s1 v1) fun r1 =>
  some (decide (0 ≤ r1))

noncomputable def tree_levels_L2 (t1 : (List Branch)) (s3_ : ((List (List Int)) × (List Int))) (i : Int) (s : (List Int)) : Option (List Int) :=
  need (inR s3_.2 i) <|
  need (inR t1 (gx s3_.2 i)) <|
  need (room (s.length + ((gx t1 (gx s3_.2 i)).Kids).length)) <|
  some (s ++ ((gx t1 (gx s3_.2 i)).Kids))

noncomputable def tree_levels_L1 (t1 : (List Branch)) (s3_ : ((List (List Int)) × (List Int))) : Option (Step ((List (List Int)) × (List Int)) (List (List Int))) :=
  bif decide (0 < (s3_.2.length : Int)) then (
    need (room (s3_.1.length + [s3_.2].length)) <|
    bnd (s3_.1 ++ [s3_.2]) fun out1 =>
    Option.bind (α := (List Int)) (
      rfor (s3_.2.length : Int) (tree_levels_L2 t1 s3_) ([] : List Int)) fun j_7 =>
    some (Step.again (out1, j_7)))
  else (
    some (Step.done s3_.1))

/-- tree.levels -/
noncomputable def tree_levels (t1 : (List Branch)) : Option (List (List Int)) :=
  bnd ([0]) fun l1 =>
  Option.bind (α := (List (List Int))) (
    loop (tree_levels_L1 t1) (([] : List (List Int)), l1)) fun j_2 =>
  some j_2

noncomputable def tree_Check_L2 (t1 : (List Branch)) (v2 : Branch) (i : Int) (s : (List Bool)) : Option (Res (List Bool) (Res (List Bool) (Res (List Bool) Int))) :=
  need (inR v2.Kids i) <|
  bnd (gx v2.Kids i) fun k1 =>
  bif (decide (k1 < 0)) || (decide ((t1.length : Int) ≤ k1)) then (
    some (Res.ab (Res.ab (Res.ab 10))))
  else (
    bif decide (k1 = 0) then (
      some (Res.ab (Res.ab (Res.ab 13))))
    else (
      need (inR s k1) <|
      bif gx s k1 then (
        some (Res.ab (Res.ab (Res.ab 6))))
      else (
        need (inR s k1) <|
        some (Res.nx (s.set k1.toNat true)))))

noncomputable def tree_Check_L1 (t1 : (List Branch)) (i : Int) (s : (List Bool)) : Option (Res (List Bool) (Res (List Bool) Int)) :=
  need (inR t1 i) <|
  bnd (gx t1 i) fun v2 =>
  Option.bind (tree_Check_1 v2.W_) fun r1 =>
  Option.bind (gd (!(!r1)) (tree_Check_1 v2.H)) fun r2 =>
  bif (!r1) || (!r2) then (
    some (Res.ab (Res.ab 3)))
  else (
    rforE (v2.Kids.length : Int) (tree_Check_L2 t1 v2) (fun s => Res.nx s) s)

noncomputable def tree_Check_L3 (r4 : (List (List Int))) (i : Int) (s : Int) : Option Int :=
  need (inR r4 i) <|
  bnd (W (s + ((gx r4 i).length : Int))) fun many1 =>
  some many1

/-- tree.Check -/
noncomputable def tree_Check (t1 : (List Branch)) : Option Int :=
  bif decide ((t1.length : Int) = 0) then (
    some 9)
  else (
    bif decide (300 < (t1.length : Int)) then (
      some 4)
    else (
      bnd ((t1.length : Int)) fun v1 =>
      need (0 ≤ v1 ∧ v1 ≤ v1 ∧ v1 ≤ 1073741824) <|
      bnd (List.replicate v1.toNat false) fun isKid1 =>
      bindR (σ := (List Bool)) (ρ := Int) (
        rforE (t1.length : Int) (tree_Check_L1 t1) (fun s => Res.nx s) isKid1) fun j_6 =>
      need (segR j_6.length 1 (j_6.length : Int)) <|
      Option.bind (slices_Contains_bool (seg j_6 1 (j_6.length : Int)) false) fun r3 =>
      bif r3 then (
        some 2)
      else (
        Option.bind (tree_levels t1) fun r4 =>
        Option.bind (α := Int) (
          rfor (r4.length : Int) (tree_Check_L3 r4) 0) fun j_29 =>
        bif decide (j_29 < (t1.length : Int)) then (
          some 13)
        else (
          some 0))))

/-- tree.floor -/
noncomputable def tree_floor (a1 : Int) (b1 : Int) : Option Int :=
  need (0 < b1) <|
  bnd (a1.tdiv b1) fun q1 =>
  need (0 < b1) <|
  Option.bind (α := Int) (
    bif decide ((a1.tmod b1) < 0) then (
      bnd (W (q1 - 1)) fun q2 =>
      some q2)
    else (
      some q1)) fun j_4 =>
  some j_4

noncomputable def tree_drawer_draw_L2 (l1 : ((List Tree_stretch) × Tree_drawer)) (p4_ : Int × ((List Tree_stretch) × Tree_drawer)) (i : Int) (s : Int) : Option Int :=
  need (inR p4_.2.1 i) <|
  need (inR l1.1 i) <|
  bnd (W ((W (((gx p4_.2.1 i).to_) + l1.2.gap)) - ((gx l1.1 i).from_))) fun n1 =>
  bif (decide (i = 0)) || (decide (s < n1)) then (
    some n1)
  else (
    some s)

noncomputable def tree_drawer_draw_L3 (l1 : ((List Tree_stretch) × Tree_drawer)) (j_18 : Int) (i : Int) (s : (List Tree_stretch)) : Option (List Tree_stretch) :=
  need (inR l1.1 i) <|
  bnd (gx l1.1 i) fun v2 =>
  Option.bind (α := (List Tree_stretch)) (
    bif decide (i = (s.length : Int)) then (
      need (room (s.length + [(⟨W (v2.from_ + j_18), W (v2.to_ + j_18)⟩ : Tree_stretch)].length)) <|
      some (s ++ [(⟨W (v2.from_ + j_18), W (v2.to_ + j_18)⟩ : Tree_stretch)]))
    else (
      some s)) fun j_28 =>
  bnd (W (v2.to_ + j_18)) fun v3 =>
  need (inR j_28 i) <|
  some (j_28.set i.toNat { gx j_28 i with to_ := v3 })

noncomputable def tree_drawer_draw_L1 (self : (Tree_drawer × Int) → Option ((List Tree_stretch) × Tree_drawer)) (x : (Tree_drawer × Int)) (v1 : Branch) (i : Int) (s : ((List Tree_stretch) × Tree_drawer)) : Option ((List Tree_stretch) × Tree_drawer) :=
  need (inR v1.Kids i) <|
  bnd (gx v1.Kids i) fun kid1 =>
  Option.bind (self (({ s.2 with x := s.2.x, moved := s.2.moved }), kid1)) fun l1 =>
  Option.bind (α := Int) (
    rfor (min (s.1.length : Int) (l1.1.length : Int)) (tree_drawer_draw_L2 l1 (i, s)) 0) fun j_10 =>
  Option.bind (α := Int) (
    bif decide (i = 0) then (
      some 0)
    else (
      some j_10)) fun j_18 =>
  need (inR l1.2.moved kid1) <|
  bnd (l1.2.moved.set kid1.toNat j_18) fun c1 =>
  Option.bind (α := (List Tree_stretch)) (
    rfor (l1.1.length : Int) (tree_drawer_draw_L3 l1 j_18) s.1) fun j_22 =>
  some (j_22, { l1.2 with x := l1.2.x, moved := c1 })

/-- (*tree.drawer).draw -/
noncomputable def tree_drawer_draw_body (self : (Tree_drawer × Int) → Option ((List Tree_stretch) × Tree_drawer)) (x : (Tree_drawer × Int)) : Option ((List Tree_stretch) × Tree_drawer) :=
  need (inR x.1.t x.2) <|
  bnd (gx x.1.t x.2) fun v1 =>
  Option.bind (α := ((List Tree_stretch) × Tree_drawer)) (
    rfor (v1.Kids.length : Int) (tree_drawer_draw_L1 self x v1) (([] : List Tree_stretch), { x.1 with x := x.1.x, moved := x.1.moved })) fun j_3 =>
  Option.bind (α := (List Int)) (
    bif decide (0 < (v1.Kids.length : Int)) then (
      need (inR j_3.1 0) <|
      need (inR j_3.1 0) <|
      Option.bind (tree_floor (W (((gx j_3.1 0).from_) + ((gx j_3.1 0).to_))) 2) fun r1 =>
      bnd (W (r1 - (v1.W_.tdiv 2))) fun v4 =>
      need (inR j_3.2.x x.2) <|
      some (j_3.2.x.set x.2.toNat v4))
    else (
      some j_3.2.x)) fun j_33 =>
  need (inR j_33 x.2) <|
  need (inR j_33 x.2) <|
  need (room ([(⟨gx j_33 x.2, W ((gx j_33 x.2) + v1.W_)⟩ : Tree_stretch)].length + j_3.1.length)) <|
  some ([(⟨gx j_33 x.2, W ((gx j_33 x.2) + v1.W_)⟩ : Tree_stretch)] ++ j_3.1, { j_3.2 with x := j_33, moved := j_3.2.moved })

noncomputable def tree_drawer_draw (d1 : Tree_drawer) (k1 : Int) : Option ((List Tree_stretch) × Tree_drawer) := fixp tree_drawer_draw_body (d1, k1)

noncomputable def tree_Tidy_L3 (k1 : Int) (r1 : ((List Tree_stretch) × Tree_drawer)) (v7 : (List Int)) (i : Int) (s : (List Int)) : Option (List Int) :=
  need (inR v7 i) <|
  bnd (gx v7 i) fun kid1 =>
  need (inR s k1) <|
  need (inR r1.2.moved kid1) <|
  bnd (W ((gx s k1) + (gx r1.2.moved kid1))) fun v8 =>
  need (inR s kid1) <|
  some (s.set kid1.toNat v8)

noncomputable def tree_Tidy_L2 (r1 : ((List Tree_stretch) × Tree_drawer)) (t1 : (List Branch)) (v5 : (List Int)) (p17_ : Int × (Int × (List Point) × (List Int))) (i : Int) (s : (Int × (List Point) × (List Int))) : Option (Int × (List Point) × (List Int)) :=
  need (inR v5 i) <|
  bnd (gx v5 i) fun k1 =>
  need (inR r1.2.x k1) <|
  need (inR s.2.2 k1) <|
  bnd ((⟨W ((gx r1.2.x k1) + (gx s.2.2 k1)), p17_.2.1⟩ : Point)) fun v6 =>
  need (inR s.2.1 k1) <|
  bnd (s.2.1.set k1.toNat v6) fun out2 =>
  need (inR t1 k1) <|
  bnd (max s.1 ((gx t1 k1).H)) fun high1 =>
  need (inR t1 k1) <|
  bnd ((gx t1 k1).Kids) fun v7 =>
  Option.bind (α := (List Int)) (
    rfor (v7.length : Int) (tree_Tidy_L3 k1 r1 v7) s.2.2) fun j_37 =>
  some (high1, out2, j_37)

noncomputable def tree_Tidy_L1 (r1 : ((List Tree_stretch) × Tree_drawer)) (r2 : (List (List Int))) (t1 : (List Branch)) (gapy1 : Int) (i : Int) (s : (Int × (List Point) × (List Int))) : Option (Int × (List Point) × (List Int)) :=
  need (inR r2 i) <|
  bnd (gx r2 i) fun v5 =>
  Option.bind (α := (Int × (List Point) × (List Int))) (
    rfor (v5.length : Int) (tree_Tidy_L2 r1 t1 v5 (i, s)) (0, s.2.1, s.2.2)) fun j_22 =>
  bnd (W (s.1 + (W (j_22.1 + gapy1)))) fun y1 =>
  some (y1, j_22.2.1, j_22.2.2)

noncomputable def tree_Tidy_L4 (j_16 : (Int × (List Point) × (List Int))) (i : Int) (s : Int) : Option Int :=
  need (inR j_16.2.1 i) <|
  bnd (gx j_16.2.1 i) fun v9 =>
  bnd (min s v9.X) fun left2 =>
  some left2

noncomputable def tree_Tidy_L5 (j_50 : Int) (i : Int) (s : (List Point)) : Option (List Point) :=
  need (inR s i) <|
  bnd (W (((gx s i).X) - j_50)) fun v10 =>
  need (inR s i) <|
  some (s.set i.toNat { gx s i with X := v10 })

/-- tree.Tidy -/
noncomputable def tree_Tidy (t1 : (List Branch)) (gapx1 : Int) (gapy1 : Int) : Option ((List Point) × Int) :=
  Option.bind (tree_Check t1) fun e1 =>
  bif !decide (e1 = 0) then (
    some (([] : (List Point)), e1))
  else (
    bif (((decide (gapx1 < 0)) || (decide (1000 < gapx1))) || (decide (gapy1 < 0))) || (decide (1000 < gapy1)) then (
      some (([] : (List Point)), 3))
    else (
      bnd ((t1.length : Int)) fun v1 =>
      need (0 ≤ v1 ∧ v1 ≤ v1 ∧ v1 ≤ 1073741824) <|
      bnd ((t1.length : Int)) fun v2 =>
      need (0 ≤ v2 ∧ v2 ≤ v2 ∧ v2 ≤ 1073741824) <|
      Option.bind (tree_drawer_draw (⟨t1, gapx1, List.replicate v1.toNat (0 : Int), List.replicate v2.toNat (0 : Int)⟩ : Tree_drawer) 0) fun r1 =>
      bnd ((t1.length : Int)) fun v3 =>
      need (0 ≤ v3 ∧ v3 ≤ v3 ∧ v3 ≤ 1073741824) <|
      bnd (List.replicate v3.toNat (⟨(0 : Int), (0 : Int)⟩ : Point)) fun out1 =>
      bnd ((t1.length : Int)) fun v4 =>
      need (0 ≤ v4 ∧ v4 ≤ v4 ∧ v4 ≤ 1073741824) <|
      bnd (List.replicate v4.toNat (0 : Int)) fun shift1 =>
      Option.bind (tree_levels t1) fun r2 =>
      Option.bind (α := (Int × (List Point) × (List Int))) (
        rfor (r2.length : Int) (tree_Tidy_L1 r1 r2 t1 gapy1) (0, out1, shift1)) fun j_16 =>
      need (inR j_16.2.1 0) <|
      bnd ((gx j_16.2.1 0).X) fun left1 =>
      Option.bind (α := Int) (
        rfor (j_16.2.1.length : Int) (tree_Tidy_L4 j_16) left1) fun j_50 =>
      Option.bind (α := (List Point)) (
        rfor (j_16.2.1.length : Int) (tree_Tidy_L5 j_50) j_16.2.1) fun j_57 =>
      some (j_57, 0)))

/-- tree.Levels -/
noncomputable def tree_Levels (t1 : (List Branch)) : Option ((List (List Int)) × Int) :=
  Option.bind (tree_Check t1) fun e1 =>
  bif !decide (e1 = 0) then (
    some (([] : (List (List Int))), e1))
  else (
    Option.bind (tree_levels t1) fun r1 =>
    some (r1, 0))

noncomputable def top_TopTrees_L2 (l1 : (List Int)) (r1 : ((List Point) × Int)) (r2 : ((List (List Int)) × Int)) (t1 : (List Branch)) (p6_ : Int × Unit) (gapx1 : Int) (gapy1 : Int) (i : Int) (s : Unit) : Option (Res Unit (Res Unit (Res Unit Bool))) :=
  need (inR l1 i) <|
  bnd (gx l1 i) fun n1 =>
  need ((decide (0 < i)) = true → inR r1.1 n1) <|
  need ((decide (0 < i)) = true → inR l1 (W (i - 1))) <|
  need ((decide (0 < i)) = true → inR r1.1 (gx l1 (W (i - 1)))) <|
  need ((decide (0 < i)) = true → inR l1 (W (i - 1))) <|
  need ((decide (0 < i)) = true → inR t1 (gx l1 (W (i - 1)))) <|
  need (((decide (0 < i)) && (decide (((gx r1.1 n1).X) < (W ((W (((gx r1.1 (gx l1 (W (i - 1)))).X) + ((gx t1 (gx l1 (W (i - 1)))).W_))) + gapx1))))) = false → inR r1.1 n1) <|
  need (((decide (0 < i)) && (decide (((gx r1.1 n1).X) < (W ((W (((gx r1.1 (gx l1 (W (i - 1)))).X) + ((gx t1 (gx l1 (W (i - 1)))).W_))) + gapx1))))) = false → inR l1 0) <|
  need (((decide (0 < i)) && (decide (((gx r1.1 n1).X) < (W ((W (((gx r1.1 (gx l1 (W (i - 1)))).X) + ((gx t1 (gx l1 (W (i - 1)))).W_))) + gapx1))))) = false → inR r1.1 (gx l1 0)) <|
  bif ((decide (0 < i)) && (decide (((gx r1.1 n1).X) < (W ((W (((gx r1.1 (gx l1 (W (i - 1)))).X) + ((gx t1 (gx l1 (W (i - 1)))).W_))) + gapx1))))) || (!decide (((gx r1.1 n1).Y) = ((gx r1.1 (gx l1 0)).Y))) then (
    some (Res.ab (Res.ab (Res.ab false))))
  else (
    need ((decide (0 < p6_.1)) = true → inR r1.1 n1) <|
    need ((decide (0 < p6_.1)) = true → inR r2.1 (W (p6_.1 - 1))) <|
    need ((decide (0 < p6_.1)) = true → inR (gx r2.1 (W (p6_.1 - 1))) 0) <|
    need ((decide (0 < p6_.1)) = true → inR r1.1 (gx (gx r2.1 (W (p6_.1 - 1))) 0)) <|
    need ((decide (0 < p6_.1)) = true → inR r2.1 (W (p6_.1 - 1))) <|
    need ((decide (0 < p6_.1)) = true → inR (gx r2.1 (W (p6_.1 - 1))) 0) <|
    need ((decide (0 < p6_.1)) = true → inR t1 (gx (gx r2.1 (W (p6_.1 - 1))) 0)) <|
    bif (decide (0 < p6_.1)) && (decide (((gx r1.1 n1).Y) < (W ((W (((gx r1.1 (gx (gx r2.1 (W (p6_.1 - 1))) 0)).Y) + gapy1)) + ((gx t1 (gx (gx r2.1 (W (p6_.1 - 1))) 0)).H))))) then (
      some (Res.ab (Res.ab (Res.ab false))))
    else (
      some (Res.nx ())))

noncomputable def top_TopTrees_L1 (r1 : ((List Point) × Int)) (r2 : ((List (List Int)) × Int)) (t1 : (List Branch)) (gapx1 : Int) (gapy1 : Int) (i : Int) (s : Unit) : Option (Res Unit (Res Unit Bool)) :=
  need (inR r2.1 i) <|
  bnd (gx r2.1 i) fun l1 =>
  rforE (l1.length : Int) (top_TopTrees_L2 l1 r1 r2 t1 (i, s) gapx1 gapy1) (fun s => Res.nx s) ()

noncomputable def top_TopTrees_L3 (r1 : ((List Point) × Int)) (t1 : (List Branch)) (i : Int) (s : Unit) : Option (Res Unit (Res Unit Bool)) :=
  need (inR t1 i) <|
  bnd (gx t1 i) fun v1 =>
  bif decide ((v1.Kids.length : Int) = 0) then (
    some (Res.nx ()))
  else (
    need (inR v1.Kids 0) <|
    need (inR v1.Kids (W ((v1.Kids.length : Int) - 1))) <|
    bnd (gx v1.Kids (W ((v1.Kids.length : Int) - 1))) fun last1 =>
    need (inR r1.1 (gx v1.Kids 0)) <|
    need (inR r1.1 last1) <|
    need (inR t1 last1) <|
    need (inR r1.1 i) <|
    bnd (W ((W ((W ((W (((gx r1.1 (gx v1.Kids 0)).X) + ((gx r1.1 last1).X))) + ((gx t1 last1).W_))) - (W (2 * ((gx r1.1 i).X))))) - v1.W_)) fun d1 =>
    bif (decide (d1 < (-2))) || (decide (2 < d1)) then (
      some (Res.ab (Res.ab false)))
    else (
      some (Res.nx ())))

/-- drawtop.TopTrees -/
noncomputable def top_TopTrees (t1 : (List Branch)) (gapx1 : Int) (gapy1 : Int) : Option Bool :=
  Option.bind (tree_Tidy t1 gapx1 gapy1) fun r1 =>
  bif !decide (r1.2 = 0) then (
    some (decide ((r1.1.length : Int) = 0)))
  else (
    Option.bind (tree_Levels t1) fun r2 =>
    bif ((!decide (r2.2 = 0)) || (!decide ((r1.1.length : Int) = (t1.length : Int)))) || (decide ((r1.1.length : Int) = 0)) then (
      some false)
    else (
      bindR (σ := Unit) (ρ := Bool) (
        rforE (r2.1.length : Int) (top_TopTrees_L1 r1 r2 t1 gapx1 gapy1) (fun s => Res.nx s) ()) fun j_5 =>
      bindR (σ := Unit) (ρ := Bool) (
        rforE (t1.length : Int) (top_TopTrees_L3 r1 t1) (fun s => Res.nx s) ()) fun j_33 =>
      some true))


end Go.DB
