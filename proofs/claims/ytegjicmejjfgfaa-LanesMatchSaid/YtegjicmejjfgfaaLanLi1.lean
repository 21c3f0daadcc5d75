/-
  What the functions compute, as plain functions (printed by a program of one's own).
-/
import Derived.Test.YtegjicmejjfgfaaLanTy
set_option maxRecDepth 100000
set_option linter.unusedSimpArgs false
set_option linter.unusedVariables false
namespace Go.DB
open Go Go.RowKit

/-- route.Lanes$1 -/
noncomputable def route_Lanes_1 (n1 : Int) : Option Bool :=
  some ((decide ((-1000000) ≤ n1)) && (decide (n1 ≤ 1000000)))

/-- cmp.isNaN[int] -/
noncomputable def cmp_isNaN_int (x1 : Int) : Option Bool :=
  some (!decide (x1 = x1))

/-- cmp.Compare[int] -/
noncomputable def cmp_Compare_int (x1 : Int) (y1 : Int) : Option Int :=
  Option.bind (cmp_isNaN_int x1) fun xNaN1 =>
  Option.bind (cmp_isNaN_int y1) fun yNaN1 =>
  bif xNaN1 then (
    bif yNaN1 then (
      some 0)
    else (
      some (-1)))
  else (
    bif yNaN1 then (
      some 1)
    else (
      bif decide (x1 < y1) then (
        some (-1))
      else (
        bif decide (y1 < x1) then (
          some 1)
        else (
          some 0))))

/-- route.Lanes$2 -/
noncomputable def route_Lanes_2 (a1 : Int) (b1 : Int) (c0_1 : (List Lane)) : Option Int :=
  need (inR c0_1 a1) <|
  need (inR c0_1 b1) <|
  Option.bind (cmp_Compare_int ((gx c0_1 a1).From) ((gx c0_1 b1).From)) fun r1 =>
  some r1

noncomputable def slices_insertionSortCmpFunc_int_L2 (a1 : Int) (cmp1 : (Int → Int → Option Int)) (s5_ : (Int × (List Int))) : Option (Step (Int × (List Int)) (List Int)) :=
  need ((decide (a1 < s5_.1)) = true → inR s5_.2 s5_.1) <|
  need ((decide (a1 < s5_.1)) = true → inR s5_.2 (W (s5_.1 - 1))) <|
  Option.bind (gd ((decide (a1 < s5_.1))) (cmp1 (gx s5_.2 s5_.1) (gx s5_.2 (W (s5_.1 - 1))))) fun r1 =>
  bif (decide (a1 < s5_.1)) && (decide (r1 < 0)) then (
    need (inR s5_.2 (W (s5_.1 - 1))) <|
    bnd (gx s5_.2 (W (s5_.1 - 1))) fun v1 =>
    need (inR s5_.2 s5_.1) <|
    bnd (gx s5_.2 s5_.1) fun v2 =>
    need (inR s5_.2 s5_.1) <|
    need (inR (s5_.2.set s5_.1.toNat v1) (W (s5_.1 - 1))) <|
    bnd ((s5_.2.set s5_.1.toNat v1).set (W (s5_.1 - 1)).toNat v2) fun data2 =>
    bnd (W (s5_.1 - 1)) fun j1 =>
    some (Step.again (j1, data2)))
  else (
    some (Step.done s5_.2))

noncomputable def slices_insertionSortCmpFunc_int_L1 (a1 : Int) (b1 : Int) (cmp1 : (Int → Int → Option Int)) (s2_ : (Int × (List Int))) : Option (Step (Int × (List Int)) (List Int)) :=
  bif decide (s2_.1 < b1) then (
    Option.bind (α := (List Int)) (
      loop (slices_insertionSortCmpFunc_int_L2 a1 cmp1) (s2_.1, s2_.2)) fun j_4 =>
    bnd (W (s2_.1 + 1)) fun i2 =>
    some (Step.again (i2, j_4)))
  else (
    some (Step.done s2_.2))

/-- slices.insertionSortCmpFunc[int] -/
noncomputable def slices_insertionSortCmpFunc_int (data1 : (List Int)) (a1 : Int) (b1 : Int) (cmp1 : (Int → Int → Option Int)) : Option (List Int) :=
  bnd (W (a1 + 1)) fun i1 =>
  loop (slices_insertionSortCmpFunc_int_L1 a1 b1 cmp1) (i1, data1)

noncomputable def slices_swapRangeCmpFunc_int_L1 (a1 : Int) (b1 : Int) (n1 : Int) (s1_ : (Int × (List Int))) : Option (Step (Int × (List Int)) (List Int)) :=
  bif decide (s1_.1 < n1) then (
    need (inR s1_.2 (W (b1 + s1_.1))) <|
    bnd (gx s1_.2 (W (b1 + s1_.1))) fun v1 =>
    need (inR s1_.2 (W (a1 + s1_.1))) <|
    bnd (gx s1_.2 (W (a1 + s1_.1))) fun v2 =>
    need (inR s1_.2 (W (a1 + s1_.1))) <|
    need (inR (s1_.2.set (W (a1 + s1_.1)).toNat v1) (W (b1 + s1_.1))) <|
    bnd ((s1_.2.set (W (a1 + s1_.1)).toNat v1).set (W (b1 + s1_.1)).toNat v2) fun data2 =>
    bnd (W (s1_.1 + 1)) fun i1 =>
    some (Step.again (i1, data2)))
  else (
    some (Step.done s1_.2))

/-- slices.swapRangeCmpFunc[int] -/
noncomputable def slices_swapRangeCmpFunc_int (data1 : (List Int)) (a1 : Int) (b1 : Int) (n1 : Int) (cmp1 : (Int → Int → Option Int)) : Option (List Int) :=
  loop (slices_swapRangeCmpFunc_int_L1 a1 b1 n1) (0, data1)

noncomputable def slices_rotateCmpFunc_int_L1 (m1 : Int) (cmp1 : (Int → Int → Option Int)) (s4_ : (Int × Int × (List Int))) : Option (Step (Int × Int × (List Int)) (Int × (List Int))) :=
  bif !decide (s4_.1 = s4_.2.1) then (
    bif decide (s4_.2.1 < s4_.1) then (
      Option.bind (slices_swapRangeCmpFunc_int s4_.2.2 (W (m1 - s4_.1)) m1 s4_.2.1 cmp1) fun r1 =>
      bnd (W (s4_.1 - s4_.2.1)) fun i2 =>
      some (Step.again (i2, s4_.2.1, r1)))
    else (
      Option.bind (slices_swapRangeCmpFunc_int s4_.2.2 (W (m1 - s4_.1)) (W ((W (m1 + s4_.2.1)) - s4_.1)) s4_.1 cmp1) fun r2 =>
      bnd (W (s4_.2.1 - s4_.1)) fun j2 =>
      some (Step.again (s4_.1, j2, r2))))
  else (
    some (Step.done (s4_.1, s4_.2.2)))

/-- slices.rotateCmpFunc[int] -/
noncomputable def slices_rotateCmpFunc_int (data1 : (List Int)) (a1 : Int) (m1 : Int) (b1 : Int) (cmp1 : (Int → Int → Option Int)) : Option (List Int) :=
  bnd (W (m1 - a1)) fun i1 =>
  bnd (W (b1 - m1)) fun j1 =>
  Option.bind (α := (Int × (List Int))) (
    loop (slices_rotateCmpFunc_int_L1 m1 cmp1) (i1, j1, data1)) fun j_3 =>
  Option.bind (slices_swapRangeCmpFunc_int j_3.2 (W (m1 - j_3.1)) m1 j_3.1 cmp1) fun r3 =>
  some r3

noncomputable def slices_symMergeCmpFunc_int_L1 (x : ((List Int) × Int × Int × Int × (Int → Int → Option Int))) (s4_ : (Int × Int)) : Option (Step (Int × Int) Int) :=
  bif decide (s4_.1 < s4_.2) then (
    bnd (W ((KI.of .u64 (W (s4_.1 + s4_.2))).shr 1).n) fun h1 =>
    need (inR x.1 h1) <|
    need (inR x.1 x.2.1) <|
    Option.bind (x.2.2.2.2 (gx x.1 h1) (gx x.1 x.2.1)) fun r1 =>
    bif decide (r1 < 0) then (
      bnd (W (h1 + 1)) fun i1 =>
      some (Step.again (i1, s4_.2)))
    else (
      some (Step.again (s4_.1, h1))))
  else (
    some (Step.done s4_.1))

noncomputable def slices_symMergeCmpFunc_int_L2 (j_3 : Int) (s13_ : (Int × (List Int))) : Option (Step (Int × (List Int)) (List Int)) :=
  bif decide (s13_.1 < (W (j_3 - 1))) then (
    need (inR s13_.2 (W (s13_.1 + 1))) <|
    bnd (gx s13_.2 (W (s13_.1 + 1))) fun v1 =>
    need (inR s13_.2 s13_.1) <|
    bnd (gx s13_.2 s13_.1) fun v2 =>
    need (inR s13_.2 s13_.1) <|
    need (inR (s13_.2.set s13_.1.toNat v1) (W (s13_.1 + 1))) <|
    bnd ((s13_.2.set s13_.1.toNat v1).set (W (s13_.1 + 1)).toNat v2) fun data2 =>
    bnd (W (s13_.1 + 1)) fun k1 =>
    some (Step.again (k1, data2)))
  else (
    some (Step.done s13_.2))

noncomputable def slices_symMergeCmpFunc_int_L3 (x : ((List Int) × Int × Int × Int × (Int → Int → Option Int))) (s26_ : (Int × Int)) : Option (Step (Int × Int) Int) :=
  bif decide (s26_.1 < s26_.2) then (
    bnd (W ((KI.of .u64 (W (s26_.1 + s26_.2))).shr 1).n) fun h2 =>
    need (inR x.1 x.2.2.1) <|
    need (inR x.1 h2) <|
    Option.bind (x.2.2.2.2 (gx x.1 x.2.2.1) (gx x.1 h2)) fun r2 =>
    bif !(decide (r2 < 0)) then (
      bnd (W (h2 + 1)) fun i2 =>
      some (Step.again (i2, s26_.2)))
    else (
      some (Step.again (s26_.1, h2))))
  else (
    some (Step.done s26_.1))

noncomputable def slices_symMergeCmpFunc_int_L4 (j_25 : Int) (s35_ : (Int × (List Int))) : Option (Step (Int × (List Int)) (List Int)) :=
  bif decide (j_25 < s35_.1) then (
    need (inR s35_.2 (W (s35_.1 - 1))) <|
    bnd (gx s35_.2 (W (s35_.1 - 1))) fun v3 =>
    need (inR s35_.2 s35_.1) <|
    bnd (gx s35_.2 s35_.1) fun v4 =>
    need (inR s35_.2 s35_.1) <|
    need (inR (s35_.2.set s35_.1.toNat v3) (W (s35_.1 - 1))) <|
    bnd ((s35_.2.set s35_.1.toNat v3).set (W (s35_.1 - 1)).toNat v4) fun data3 =>
    bnd (W (s35_.1 - 1)) fun k2 =>
    some (Step.again (k2, data3)))
  else (
    some (Step.done s35_.2))

noncomputable def slices_symMergeCmpFunc_int_L5 (x : ((List Int) × Int × Int × Int × (Int → Int → Option Int))) (n1 : Int) (s51_ : (Int × Int)) : Option (Step (Int × Int) Int) :=
  bif decide (s51_.1 < s51_.2) then (
    bnd (W ((KI.of .u64 (W (s51_.1 + s51_.2))).shr 1).n) fun c1 =>
    need (inR x.1 (W ((W (n1 - 1)) - c1))) <|
    need (inR x.1 c1) <|
    Option.bind (x.2.2.2.2 (gx x.1 (W ((W (n1 - 1)) - c1))) (gx x.1 c1)) fun r3 =>
    bif !(decide (r3 < 0)) then (
      bnd (W (c1 + 1)) fun start2 =>
      some (Step.again (start2, s51_.2)))
    else (
      some (Step.again (s51_.1, c1))))
  else (
    some (Step.done s51_.1))

/-- slices.symMergeCmpFunc[int] -/
noncomputable def slices_symMergeCmpFunc_int_body (self : ((List Int) × Int × Int × Int × (Int → Int → Option Int)) → Option (List Int)) (x : ((List Int) × Int × Int × Int × (Int → Int → Option Int))) : Option (List Int) :=
  bindR (σ := Unit) (ρ := (List Int)) (
    bif decide ((W (x.2.2.1 - x.2.1)) = 1) then (
      Option.bind (α := Int) (
        loop (slices_symMergeCmpFunc_int_L1 x) (x.2.2.1, x.2.2.2.1)) fun j_3 =>
      Option.bind (α := (List Int)) (
        loop (slices_symMergeCmpFunc_int_L2 j_3) (x.2.1, x.1)) fun j_12 =>
      some (Res.ab j_12))
    else (
      some (Res.nx ()))) fun j_1 =>
  bindR (σ := Unit) (ρ := (List Int)) (
    bif decide ((W (x.2.2.2.1 - x.2.2.1)) = 1) then (
      Option.bind (α := Int) (
        loop (slices_symMergeCmpFunc_int_L3 x) (x.2.1, x.2.2.1)) fun j_25 =>
      Option.bind (α := (List Int)) (
        loop (slices_symMergeCmpFunc_int_L4 j_25) (x.2.2.1, x.1)) fun j_34 =>
      some (Res.ab j_34))
    else (
      some (Res.nx ()))) fun j_23 =>
  bnd (W ((KI.of .u64 (W (x.2.1 + x.2.2.2.1))).shr 1).n) fun mid1 =>
  bnd (W (mid1 + x.2.2.1)) fun n1 =>
  Option.bind (α := (Int × Int)) (
    bif decide (mid1 < x.2.2.1) then (
      bnd (W (n1 - x.2.2.2.1)) fun start1 =>
      some (start1, mid1))
    else (
      some (x.2.1, x.2.2.1))) fun j_47 =>
  Option.bind (α := Int) (
    loop (slices_symMergeCmpFunc_int_L5 x n1) (j_47.1, j_47.2)) fun j_50 =>
  bnd (W (n1 - j_50)) fun end1 =>
  Option.bind (α := (List Int)) (
    bif (decide (j_50 < x.2.2.1)) && (decide (x.2.2.1 < end1)) then (
      Option.bind (slices_rotateCmpFunc_int x.1 j_50 x.2.2.1 end1 x.2.2.2.2) fun r4 =>
      some r4)
    else (
      some x.1)) fun j_60 =>
  Option.bind (α := (List Int)) (
    bif (decide (x.2.1 < j_50)) && (decide (j_50 < mid1)) then (
      Option.bind (self (j_60, x.2.1, j_50, mid1, x.2.2.2.2)) fun r5 =>
      some r5)
    else (
      some j_60)) fun j_63 =>
  bif (decide (mid1 < end1)) && (decide (end1 < x.2.2.2.1)) then (
    Option.bind (self (j_63, mid1, end1, x.2.2.2.1, x.2.2.2.2)) fun r6 =>
    some r6)
  else (
    some j_63)

noncomputable def slices_symMergeCmpFunc_int (data1 : (List Int)) (a1 : Int) (m1 : Int) (b1 : Int) (cmp1 : (Int → Int → Option Int)) : Option (List Int) := fixp slices_symMergeCmpFunc_int_body (data1, a1, m1, b1, cmp1)

noncomputable def slices_stableCmpFunc_int_L1 (n1 : Int) (cmp1 : (Int → Int → Option Int)) (s2_ : (Int × Int × (List Int))) : Option (Step (Int × Int × (List Int)) (Int × (List Int))) :=
  bif decide (s2_.2.1 ≤ n1) then (
    Option.bind (slices_insertionSortCmpFunc_int s2_.2.2 s2_.1 s2_.2.1 cmp1) fun r1 =>
    bnd (W (s2_.2.1 + 20)) fun b1 =>
    some (Step.again (s2_.2.1, b1, r1)))
  else (
    some (Step.done (s2_.1, s2_.2.2)))

noncomputable def slices_stableCmpFunc_int_L3 (n1 : Int) (s7_ : (Int × (List Int))) (cmp1 : (Int → Int → Option Int)) (s11_ : (Int × Int × (List Int))) : Option (Step (Int × Int × (List Int)) (Int × (List Int))) :=
  bif decide (s11_.2.1 ≤ n1) then (
    Option.bind (slices_symMergeCmpFunc_int s11_.2.2 s11_.1 (W (s11_.1 + s7_.1)) s11_.2.1 cmp1) fun r3 =>
    bnd (W (s11_.2.1 + (W (2 * s7_.1)))) fun b3 =>
    some (Step.again (s11_.2.1, b3, r3)))
  else (
    some (Step.done (s11_.1, s11_.2.2)))

noncomputable def slices_stableCmpFunc_int_L2 (n1 : Int) (cmp1 : (Int → Int → Option Int)) (s7_ : (Int × (List Int))) : Option (Step (Int × (List Int)) (List Int)) :=
  bif decide (s7_.1 < n1) then (
    bnd (W (2 * s7_.1)) fun b2 =>
    Option.bind (α := (Int × (List Int))) (
      loop (slices_stableCmpFunc_int_L3 n1 s7_ cmp1) (0, b2, s7_.2)) fun j_10 =>
    bnd (W (j_10.1 + s7_.1)) fun m1 =>
    Option.bind (α := (List Int)) (
      bif decide (m1 < n1) then (
        Option.bind (slices_symMergeCmpFunc_int j_10.2 j_10.1 m1 n1 cmp1) fun r4 =>
        some r4)
      else (
        some j_10.2)) fun j_16 =>
    bnd (W (s7_.1 * 2)) fun blockSize1 =>
    some (Step.again (blockSize1, j_16)))
  else (
    some (Step.done s7_.2))

/-- slices.stableCmpFunc[int] -/
noncomputable def slices_stableCmpFunc_int (data1 : (List Int)) (n1 : Int) (cmp1 : (Int → Int → Option Int)) : Option (List Int) :=
  Option.bind (α := (Int × (List Int))) (
    loop (slices_stableCmpFunc_int_L1 n1 cmp1) (0, 20, data1)) fun j_1 =>
  Option.bind (slices_insertionSortCmpFunc_int j_1.2 j_1.1 n1 cmp1) fun r2 =>
  loop (slices_stableCmpFunc_int_L2 n1 cmp1) (20, r2)

/-- slices.SortStableFunc[[]int,int] -/
noncomputable def slices_SortStableFunc_int (x1 : (List Int)) (cmp1 : (Int → Int → Option Int)) : Option (List Int) :=
  Option.bind (slices_stableCmpFunc_int x1 (x1.length : Int) cmp1) fun r1 =>
  some r1

/-- route.Lanes$3 -/
noncomputable def route_Lanes_3 (to1 : Int) (c0_1 : (List Lane)) (c1_1 : Int) : Option Bool :=
  need (inR c0_1 c1_1) <|
  some (decide (to1 ≤ ((gx c0_1 c1_1).From)))

noncomputable def slices_IndexFunc_int_L1 (f1 : (Int → Option Bool)) (s1 : (List Int)) (i : Int) (s : Unit) : Option (Res Unit (Res Unit Int)) :=
  need (inR s1 i) <|
  Option.bind (f1 (gx s1 i)) fun r1 =>
  bif r1 then (
    some (Res.ab (Res.ab i)))
  else (
    some (Res.nx ()))

/-- slices.IndexFunc[[]int,int] -/
noncomputable def slices_IndexFunc_int (s1 : (List Int)) (f1 : (Int → Option Bool)) : Option Int :=
  bindR (σ := Unit) (ρ := Int) (
    rforE (s1.length : Int) (slices_IndexFunc_int_L1 f1 s1) (fun s => Res.nx s) ()) fun j_1 =>
  some (-1)

noncomputable def route_Lanes_L1 (l1 : (List Lane)) (i : Int) (s : (List Int)) : Option (Res (List Int) (Res (List Int) ((List Int) × Int))) :=
  need (inR l1 i) <|
  bnd (gx l1 i) fun v2 =>
  Option.bind (route_Lanes_1 v2.From) fun r1 =>
  Option.bind (gd (!(!r1)) (route_Lanes_1 v2.To)) fun r2 =>
  bif (!r1) || (!r2) then (
    some (Res.ab (Res.ab (([] : (List Int)), 3))))
  else (
    bif decide (v2.To ≤ v2.From) then (
      some (Res.ab (Res.ab (([] : (List Int)), 7))))
    else (
      need (inR s i) <|
      some (Res.nx (s.set i.toNat i))))

noncomputable def route_Lanes_L2 (l1 : (List Lane)) (r3 : (List Int)) (i : Int) (s : ((List Int) × (List Int))) : Option ((List Int) × (List Int)) :=
  need (inR r3 i) <|
  bnd (gx r3 i) fun v4 =>
  Option.bind (slices_IndexFunc_int s.1 (fun x0 => route_Lanes_3 x0 l1 v4)) fun k1 =>
  Option.bind (α := ((List Int) × Int)) (
    bif decide (k1 < 0) then (
      bnd ((s.1.length : Int)) fun k2 =>
      need (room (s.1.length + [0].length)) <|
      some (s.1 ++ [0], k2))
    else (
      some (s.1, k1))) fun j_27 =>
  need (inR l1 v4) <|
  bnd ((gx l1 v4).To) fun v5 =>
  need (inR j_27.1 j_27.2) <|
  bnd (j_27.1.set j_27.2.toNat v5) fun last1 =>
  need (inR s.2 v4) <|
  some (last1, s.2.set v4.toNat j_27.2)

/-- route.Lanes -/
noncomputable def route_Lanes (l1 : (List Lane)) : Option ((List Int) × Int) :=
  bif decide (1000 < (l1.length : Int)) then (
    some (([] : (List Int)), 4))
  else (
    bnd ((l1.length : Int)) fun v1 =>
    need (0 ≤ v1 ∧ v1 ≤ v1 ∧ v1 ≤ 1073741824) <|
    bnd (List.replicate v1.toNat (0 : Int)) fun order1 =>
    bindR (σ := (List Int)) (ρ := ((List Int) × Int)) (
      rforE (l1.length : Int) (route_Lanes_L1 l1) (fun s => Res.nx s) order1) fun j_5 =>
    Option.bind (slices_SortStableFunc_int j_5 (fun x0 x1 => route_Lanes_2 x0 x1 l1)) fun r3 =>
    bnd ((l1.length : Int)) fun v3 =>
    need (0 ≤ v3 ∧ v3 ≤ v3 ∧ v3 ≤ 1073741824) <|
    bnd (List.replicate v3.toNat (0 : Int)) fun out1 =>
    Option.bind (α := ((List Int) × (List Int))) (
      rfor (r3.length : Int) (route_Lanes_L2 l1 r3) (([] : List Int), out1)) fun j_20 =>
    some (j_20.2, 0))

/-- drawref1.When -/
noncomputable def ref_When (is1 : Bool) (e1 : Int) : Option Int :=
  bif is1 then (
    some e1)
  else (
    some 0)

/-- drawref1.In -/
noncomputable def ref_In (n1 : Int) (low1 : Int) (high1 : Int) : Option Bool :=
  some ((decide (low1 ≤ n1)) && (decide (n1 ≤ high1)))

noncomputable def ref_First_L1 (l1 : (List Int)) (i : Int) (s : Unit) : Option (Res Unit (Res Unit Int)) :=
  need (inR l1 i) <|
  bnd (gx l1 i) fun e1 =>
  bif !decide (e1 = 0) then (
    some (Res.ab (Res.ab e1)))
  else (
    some (Res.nx ()))

/-- drawref1.First -/
noncomputable def ref_First (l1 : (List Int)) : Option Int :=
  bindR (σ := Unit) (ρ := Int) (
    rforE (l1.length : Int) (ref_First_L1 l1) (fun s => Res.nx s) ()) fun j_1 =>
  some 0

/-- geom.out -/
noncomputable def geom_out (n1 : Int) : Option Bool :=
  some ((decide (n1 < (-1000000))) || (decide (1000000 < n1)))

/-- geom.CheckPoint -/
noncomputable def geom_CheckPoint (p1 : Point) : Option Int :=
  Option.bind (geom_out p1.X) fun r1 =>
  Option.bind (gd (!r1) (geom_out p1.Y)) fun r2 =>
  bif r1 || r2 then (
    some 3)
  else (
    some 0)

/-- route.isSide -/
noncomputable def route_isSide (side1 : Int) : Option Bool :=
  some ((decide (1 ≤ side1)) && (decide (side1 ≤ 4)))

/-- geom.CheckBox -/
noncomputable def geom_CheckBox (b1 : Box) : Option Int :=
  Option.bind (geom_out b1.X) fun r1 =>
  Option.bind (gd (!r1) (geom_out b1.Y)) fun r2 =>
  bif ((((r1 || r2) || (decide (b1.W_ < 1))) || (decide (20000 < b1.W_))) || (decide (b1.H < 1))) || (decide (20000 < b1.H)) then (
    some 3)
  else (
    some 0)

/-- route.toward -/
noncomputable def route_toward (side1 : Int) : Option Point :=
  bnd ((⟨(0 : Int), (0 : Int)⟩ : Point)) fun v1 =>
  need (0 ≤ side1 ∧ side1 < (4 + 1 : Nat)) <|
  bnd (gx (⟨[(⟨(0 : Int), (0 : Int)⟩ : Point), (⟨(0 : Int), (-1)⟩ : Point), (⟨1, (0 : Int)⟩ : Point), (⟨(0 : Int), 1⟩ : Point), (⟨(-1), (0 : Int)⟩ : Point)]⟩ : (Arr 4 Point)).l side1) fun v2 =>
  some v2

/-- route.away -/
noncomputable def route_away (p1 : Point) (d1 : Point) (n1 : Int) : Option Point :=
  bnd ((⟨(0 : Int), (0 : Int)⟩ : Point)) fun v1 =>
  bnd ((⟨W (p1.X + (W (n1 * d1.X))), W (p1.Y + (W (n1 * d1.Y)))⟩ : Point)) fun v2 =>
  some v2

/-- route.ends -/
noncomputable def route_ends (t1 : Task) : Option (Point × Point) :=
  bnd ((⟨(0 : Int), (0 : Int)⟩ : Point)) fun start1 =>
  bnd ((⟨(0 : Int), (0 : Int)⟩ : Point)) fun end1 =>
  Option.bind (route_toward t1.FromSide) fun r1 =>
  Option.bind (route_away t1.From r1 t1.Clear) fun r2 =>
  Option.bind (route_toward t1.ToSide) fun r3 =>
  Option.bind (route_away t1.To r3 t1.Clear) fun r4 =>
  some (r2, r4)

noncomputable def route_Check_L1 (v1 : (List Anon_p_side)) (i : Int) (s : Unit) : Option (Res Unit (Res Unit Int)) :=
  need (inR v1 i) <|
  bnd (gx v1 i) fun v2 =>
  Option.bind (geom_CheckPoint v2.p) fun e1 =>
  bif !decide (e1 = 0) then (
    some (Res.ab (Res.ab e1)))
  else (
    Option.bind (route_isSide v2.side) fun r1 =>
    bif !r1 then (
      some (Res.ab (Res.ab 3)))
    else (
      some (Res.nx ())))

noncomputable def route_Check_L2 (t1 : Task) (i : Int) (s : Unit) : Option (Res Unit (Res Unit Int)) :=
  need (inR t1.Walls i) <|
  bnd (gx t1.Walls i) fun v3 =>
  Option.bind (geom_CheckBox v3) fun e2 =>
  bif !decide (e2 = 0) then (
    some (Res.ab (Res.ab e2)))
  else (
    some (Res.nx ()))

/-- route.Check -/
noncomputable def route_Check (t1 : Task) : Option Int :=
  bnd ([(⟨t1.From, t1.FromSide⟩ : Anon_p_side), (⟨t1.To, t1.ToSide⟩ : Anon_p_side)]) fun v1 =>
  bindR (σ := Unit) (ρ := Int) (
    rforE (v1.length : Int) (route_Check_L1 v1) (fun s => Res.nx s) ()) fun j_2 =>
  bif decide (100 < (t1.Walls.length : Int)) then (
    some 4)
  else (
    bindR (σ := Unit) (ρ := Int) (
      rforE (t1.Walls.length : Int) (route_Check_L2 t1) (fun s => Res.nx s) ()) fun j_13 =>
    bif (decide (t1.Clear < 1)) || (decide (200 < t1.Clear)) then (
      some 3)
    else (
      Option.bind (route_ends t1) fun r2 =>
      Option.bind (geom_CheckPoint r2.1) fun e3 =>
      bif !decide (e3 = 0) then (
        some e3)
      else (
        Option.bind (geom_CheckPoint r2.2) fun r3 =>
        some r3)))

/-- drawlaw1.routes -/
noncomputable def law_routes  : Option Bool :=
  bnd ((⟨(⟨(0 : Int), (0 : Int)⟩ : Point), 2, (⟨9, (0 : Int)⟩ : Point), 4, ([] : (List Box)), 1⟩ : Task)) fun v1 =>
  Option.bind (route_Check v1) fun r1 =>
  Option.bind (gd ((decide (r1 = 0))) (route_Check (⟨(⟨(0 : Int), (0 : Int)⟩ : Point), (0 : Int), (⟨(0 : Int), (0 : Int)⟩ : Point), (0 : Int), ([] : (List Box)), (0 : Int)⟩ : Task))) fun r2 =>
  some ((decide (r1 = 0)) && (decide (r2 = 3)))

/-- drawref1.LanesOf$1 -/
noncomputable def ref_LanesOf_1 (i1 : Int) (j1 : Int) (c0_1 : (List Lane)) : Option Int :=
  need (inR c0_1 i1) <|
  need (inR c0_1 j1) <|
  some (W (((gx c0_1 i1).From) - ((gx c0_1 j1).From)))

/-- slices.ContainsFunc[[]int,int] -/
noncomputable def slices_ContainsFunc_int (s1 : (List Int)) (f1 : (Int → Option Bool)) : Option Bool :=
  Option.bind (slices_IndexFunc_int s1 f1) fun r1 =>
  some (decide (0 ≤ r1))

/-- drawref1.LanesOf$2 -/
noncomputable def ref_LanesOf_2 (j1 : Int) (c0_1 : (List Int)) (c1_1 : Int) (c2_1 : (List Lane)) (c3_1 : Int) : Option Bool :=
  need (inR c0_1 j1) <|
  need ((decide ((gx c0_1 j1) = c1_1)) = true → inR c2_1 j1) <|
  need ((decide ((gx c0_1 j1) = c1_1)) = true → inR c2_1 c3_1) <|
  need (((decide ((gx c0_1 j1) = c1_1)) && (decide (((gx c2_1 c3_1).From) < ((gx c2_1 j1).To)))) = true → inR c2_1 c3_1) <|
  need (((decide ((gx c0_1 j1) = c1_1)) && (decide (((gx c2_1 c3_1).From) < ((gx c2_1 j1).To)))) = true → inR c2_1 j1) <|
  some (((decide ((gx c0_1 j1) = c1_1)) && (decide (((gx c2_1 c3_1).From) < ((gx c2_1 j1).To)))) && (decide (((gx c2_1 j1).From) < ((gx c2_1 c3_1).To))))

noncomputable def ref_LanesOf_L1  (i : Int) (s : (List Int)) : Option (List Int) :=
  need (room (s.length + [i].length)) <|
  some (s ++ [i])

noncomputable def ref_LanesOf_L3 (l1 : (List Lane)) (r1 : (List Int)) (v2 : Int) (p11_ : Int × (List Int)) (s16_ : Int) : Option (Step Int (List Int)) :=
  need (segR r1.length 0 p11_.1) <|
  Option.bind (slices_ContainsFunc_int (seg r1 0 p11_.1) (fun x0 => ref_LanesOf_2 x0 p11_.2 s16_ l1 v2)) fun r2 =>
  bif !r2 then (
    need (inR p11_.2 v2) <|
    bnd (p11_.2.set v2.toNat s16_) fun c2 =>
    some (Step.done c2))
  else (
    bnd (W (s16_ + 1)) fun v3 =>
    some (Step.again v3))

noncomputable def ref_LanesOf_L2 (l1 : (List Lane)) (r1 : (List Int)) (i : Int) (s : (List Int)) : Option (List Int) :=
  need (inR r1 i) <|
  bnd (gx r1 i) fun v2 =>
  loop (ref_LanesOf_L3 l1 r1 v2 (i, s)) 0

/-- drawref1.LanesOf -/
noncomputable def ref_LanesOf (l1 : (List Lane)) : Option (List Int) :=
  Option.bind (α := (List Int)) (
    rfor (l1.length : Int) ref_LanesOf_L1 ([] : List Int)) fun j_1 =>
  Option.bind (slices_SortStableFunc_int j_1 (fun x0 x1 => ref_LanesOf_1 x0 x1 l1)) fun r1 =>
  bnd ((l1.length : Int)) fun v1 =>
  need (0 ≤ v1 ∧ v1 ≤ v1 ∧ v1 ≤ 1073741824) <|
  bnd (List.replicate v1.toNat (0 : Int)) fun c1 =>
  Option.bind (α := (List Int)) (
    rfor (r1.length : Int) (ref_LanesOf_L2 l1 r1) c1) fun j_10 =>
  some j_10

noncomputable def slices_Equal_int_L1 (s1_1 : (List Int)) (s2_1 : (List Int)) (i : Int) (s : Unit) : Option (Res Unit (Res Unit Bool)) :=
  need (inR s1_1 i) <|
  need (inR s2_1 i) <|
  bif !decide ((gx s1_1 i) = (gx s2_1 i)) then (
    some (Res.ab (Res.ab false)))
  else (
    some (Res.nx ()))

/-- slices.Equal[[]int,int] -/
noncomputable def slices_Equal_int (s1_1 : (List Int)) (s2_1 : (List Int)) : Option Bool :=
  bif !decide ((s1_1.length : Int) = (s2_1.length : Int)) then (
    some false)
  else (
    bindR (σ := Unit) (ρ := Bool) (
      rforE (s1_1.length : Int) (slices_Equal_int_L1 s1_1 s2_1) (fun s => Res.nx s) ()) fun j_2 =>
    some true)

noncomputable def slices_Max_int_L1 (x1 : (List Int)) (s5_ : (Int × Int)) : Option (Step (Int × Int) Int) :=
  bif decide (s5_.2 < (x1.length : Int)) then (
    need (inR x1 s5_.2) <|
    bnd (max s5_.1 (gx x1 s5_.2)) fun m2 =>
    bnd (W (s5_.2 + 1)) fun i1 =>
    some (Step.again (m2, i1)))
  else (
    some (Step.done s5_.1))

/-- slices.Max[[]int,int] -/
noncomputable def slices_Max_int (x1 : (List Int)) : Option Int :=
  bif decide ((x1.length : Int) < 1) then (
    none)
  else (
    need (inR x1 0) <|
    bnd (gx x1 0) fun m1 =>
    Option.bind (α := Int) (
      loop (slices_Max_int_L1 x1) (m1, 1)) fun j_4 =>
    some j_4)

noncomputable def ref_Depth_L2 (l1 : (List Lane)) (v1 : Lane) (i : Int) (s : Int) : Option Int :=
  need (inR l1 i) <|
  bnd (gx l1 i) fun v2 =>
  bif (decide (v2.From ≤ v1.From)) && (decide (v1.From < v2.To)) then (
    bnd (W (s + 1)) fun many1 =>
    some many1)
  else (
    some s)

noncomputable def ref_Depth_L1 (l1 : (List Lane)) (i : Int) (s : Int) : Option Int :=
  need (inR l1 i) <|
  bnd (gx l1 i) fun v1 =>
  Option.bind (α := Int) (
    rfor (l1.length : Int) (ref_Depth_L2 l1 v1) 0) fun j_7 =>
  bnd (max s j_7) fun n1 =>
  some n1

/-- drawref1.Depth -/
noncomputable def ref_Depth (l1 : (List Lane)) : Option Int :=
  Option.bind (α := Int) (
    rfor (l1.length : Int) (ref_Depth_L1 l1) 0) fun j_1 =>
  some j_1

noncomputable def law_LanesMatch_L1 (l1 : (List Lane)) (i : Int) (s : Int) : Option Int :=
  need (inR l1 i) <|
  bnd (gx l1 i) fun v1 =>
  Option.bind (ref_In v1.From (-1000000) 1000000) fun r2 =>
  Option.bind (gd (!(!r2)) (ref_In v1.To (-1000000) 1000000)) fun r3 =>
  Option.bind (ref_When ((!r2) || (!r3)) 3) fun r4 =>
  Option.bind (ref_When (decide (v1.To ≤ v1.From)) 7) fun r5 =>
  Option.bind (ref_First [s, r4, r5]) fun want2 =>
  some want2

/-- drawlaw1.LanesMatch -/
noncomputable def law_LanesMatch (l1 : (List Lane)) : Option Bool :=
  Option.bind (route_Lanes l1) fun r1 =>
  Option.bind (ref_When (decide (1000 < (l1.length : Int))) 4) fun want1 =>
  Option.bind (α := Int) (
    rfor (l1.length : Int) (law_LanesMatch_L1 l1) want1) fun j_3 =>
  Option.bind (law_routes) fun r6 =>
  bif (!r6) || (!decide (j_3 = 0)) then (
    Option.bind (law_routes) fun r7 =>
    some ((r7 && (decide ((r1.1.length : Int) = 0))) && (decide (r1.2 = j_3))))
  else (
    Option.bind (gd ((decide (r1.2 = 0))) (ref_LanesOf l1)) fun r8 =>
    Option.bind (gd ((decide (r1.2 = 0))) (slices_Equal_int r1.1 r8)) fun r9 =>
    Option.bind (gd (((decide (r1.2 = 0)) && r9) && !(decide ((l1.length : Int) = 0))) (slices_Max_int r1.1)) fun r10 =>
    Option.bind (gd (((decide (r1.2 = 0)) && r9) && !(decide ((l1.length : Int) = 0))) (ref_Depth l1)) fun r11 =>
    some (((decide (r1.2 = 0)) && r9) && ((decide ((l1.length : Int) = 0)) || (decide ((W (r10 + 1)) = r11)))))


end Go.DB
