/-
  What the functions compute, as plain functions (printed by a program of one's own).
-/
import Derived.Test.YtbahnfkccdlpnaaSweTy
set_option maxRecDepth 100000
set_option linter.unusedSimpArgs false
set_option linter.unusedVariables false
namespace Go.DB
open Go Go.RowKit

noncomputable def layer_checkRow_L1 (row1 : (List Int)) (i : Int) (s : (GMap Int Bool)) : Option (Res (GMap Int Bool) (Res (GMap Int Bool) Int)) :=
 need (inR row1 i) <|
 bnd (gx row1 i) fun k1 =>
 bif (decide (k1 < 0)) || (decide (60 ≤ k1)) then (
  some (Res.ab (Res.ab 3)))
 else (
  bif s.getD k1 false then (
   some (Res.ab (Res.ab 6)))
  else (
   some (Res.nx (s.set k1 true))))

/-- layer.checkRow -/
noncomputable def layer_checkRow (row1 : (List Int)) : Option Int :=
 bif decide (60 < (row1.length : Int)) then (
  some 4)
 else (
  bnd ((GMap.nil : (GMap Int Bool))) fun known1 =>
  bindR (σ := (GMap Int Bool)) (ρ := Int) (
   rforE (row1.length : Int) (layer_checkRow_L1 row1) (fun s => Res.nx s) known1) fun j_3 =>
  some 0)

noncomputable def layer_checkRows_L2 (r1 : (List Int)) (p4_ : Int × (GMap Int Int)) (i : Int) (s : (GMap Int Int)) : Option (Res (GMap Int Int) (Res (GMap Int Int) (Res (GMap Int Int) Int))) :=
 need (inR r1 i) <|
 bnd (gx r1 i) fun k1 =>
 bif s.has k1 then (
  some (Res.ab (Res.ab (Res.ab 6))))
 else (
  some (Res.nx (s.set k1 p4_.1)))

noncomputable def layer_checkRows_L1 (rows1 : (List (List Int))) (i : Int) (s : (GMap Int Int)) : Option (Res (GMap Int Int) (Res (GMap Int Int) Int)) :=
 need (inR rows1 i) <|
 bnd (gx rows1 i) fun r1 =>
 Option.bind (layer_checkRow r1) fun e1 =>
 bif !decide (e1 = 0) then (
  some (Res.ab (Res.ab e1)))
 else (
  rforE (r1.length : Int) (layer_checkRows_L2 r1 (i, s)) (fun s => Res.nx s) s)

noncomputable def layer_checkRows_L3 (l1 : (List Link)) (j_3 : (GMap Int Int)) (i : Int) (s : Unit) : Option (Res Unit (Res Unit Int)) :=
 need (inR l1 i) <|
 bnd (gx l1 i) fun v1 =>
 bif (!(j_3.has v1.From)) || (!(j_3.has v1.To)) then (
  some (Res.ab (Res.ab 10)))
 else (
  bif !decide ((j_3.getD v1.To (0 : Int)) = (W ((j_3.getD v1.From (0 : Int)) + 1))) then (
   some (Res.ab (Res.ab 7)))
  else (
   some (Res.nx ())))

/-- layer.checkRows -/
noncomputable def layer_checkRows (rows1 : (List (List Int))) (l1 : (List Link)) : Option Int :=
 bif decide (60 < (rows1.length : Int)) then (
  some 4)
 else (
  bnd ((GMap.nil : (GMap Int Int))) fun of1 =>
  bindR (σ := (GMap Int Int)) (ρ := Int) (
   rforE (rows1.length : Int) (layer_checkRows_L1 rows1) (fun s => Res.nx s) of1) fun j_3 =>
  bif decide (200 < (l1.length : Int)) then (
   some 4)
  else (
   bindR (σ := Unit) (ρ := Int) (
    rforE (l1.length : Int) (layer_checkRows_L3 l1 j_3) (fun s => Res.nx s) ()) fun j_18 =>
   some 0))

/-- slices.Clone[[][]int,[]int] -/
noncomputable def slices_Clone_Lint (s1 : (List (List Int))) : Option (List (List Int)) :=
 nilc s1 (
  some ([] : List (List Int))) (
  need (room (([] : (List (List Int))).length + s1.length)) <|
  bnd (([] : (List (List Int))) ++ s1) fun v1 =>
  some v1)

/-- slices.Clone[[][]int,[]int], of a row of one's own -/
noncomputable def slices_Clone_Lint_own (l : List (List Int)) : Option (List (List Int) × List (List Int)) := need (l.length ≤ 1073741824) (some (l, l))

noncomputable def layer_places_L1 (row1 : (List Int)) (i : Int) (s : (GMap Int Int)) : Option (GMap Int Int) :=
 need (inR row1 i) <|
 some (s.set (gx row1 i) i)

/-- layer.places -/
noncomputable def layer_places (row1 : (List Int)) : Option (GMap Int Int) :=
 bnd ((GMap.nil : (GMap Int Int))) fun out1 =>
 Option.bind (α := (GMap Int Int)) (
  rfor (row1.length : Int) (layer_places_L1 row1) out1) fun j_2 =>
 some j_2

/-- slices.Clone[[]api.Link,api.Link] -/
noncomputable def slices_Clone_Link (s1 : (List Link)) : Option (List Link) :=
 nilc s1 (
  some ([] : List Link)) (
  need (room (([] : (List Link)).length + s1.length)) <|
  bnd (([] : (List Link)) ++ s1) fun v1 =>
  some v1)

/-- layer.all$1 -/
noncomputable def layer_all_1 (x1 : Link) (c0_1 : (GMap Int Int)) (c1_1 : (GMap Int Int)) : Option Bool :=
 some ((!(c0_1.has x1.From)) || (!(c1_1.has x1.To)))

noncomputable def slices_IndexFunc_Link_L1 (f1 : (Link → Option Bool)) (s1 : (List Link)) (i : Int) (s : Unit) : Option (Res Unit (Res Unit Int)) :=
 need (inR s1 i) <|
 Option.bind (f1 (gx s1 i)) fun r1 =>
 bif r1 then (
  some (Res.ab (Res.ab i)))
 else (
  some (Res.nx ()))

/-- slices.IndexFunc[[]api.Link,api.Link] -/
noncomputable def slices_IndexFunc_Link (s1 : (List Link)) (f1 : (Link → Option Bool)) : Option Int :=
 bindR (σ := Unit) (ρ := Int) (
  rforE (s1.length : Int) (slices_IndexFunc_Link_L1 f1 s1) (fun s => Res.nx s) ()) fun j_1 =>
 some (-1)

noncomputable def slices_DeleteFunc_Link_L1 (del1 : (Link → Option Bool)) (s5_ : (Int × Int × (List Link))) : Option (Step (Int × Int × (List Link)) (Int × (List Link))) :=
 bif decide (s5_.2.1 < (s5_.2.2.length : Int)) then (
  Option.bind (α := (Int × (List Link))) (
   need (inR s5_.2.2 s5_.2.1) <|
   bnd (gx s5_.2.2 s5_.2.1) fun v1 =>
   Option.bind (del1 v1) fun r1 =>
   bif !r1 then (
    need (inR s5_.2.2 s5_.1) <|
    bnd (s5_.2.2.set s5_.1.toNat v1) fun s2 =>
    bnd (W (s5_.1 + 1)) fun i2 =>
    some (i2, s2))
   else (
    some (s5_.1, s5_.2.2))) fun j_7 =>
  bnd (W (s5_.2.1 + 1)) fun j2 =>
  some (Step.again (j_7.1, j2, j_7.2)))
 else (
  some (Step.done (s5_.1, s5_.2.2)))

/-- slices.DeleteFunc[[]api.Link,api.Link] -/
noncomputable def slices_DeleteFunc_Link (s1 : (List Link)) (del1 : (Link → Option Bool)) : Option (List Link) :=
 Option.bind (slices_IndexFunc_Link s1 del1) fun i1 =>
 bif decide (i1 = (-1)) then (
  some s1)
 else (
  bnd (W (i1 + 1)) fun j1 =>
  Option.bind (α := (Int × (List Link))) (
   loop (slices_DeleteFunc_Link_L1 del1) (i1, j1, s1)) fun j_4 =>
  need (segR j_4.2.length j_4.1 (j_4.2.length : Int)) <|
  bnd (j_4.2.take j_4.1.toNat ++ List.replicate (j_4.2.length - j_4.1.toNat) (⟨(0 : Int), (0 : Int)⟩ : Link)) fun s3 =>
  need (segR s3.length 0 j_4.1) <|
  bnd (seg s3 0 j_4.1) fun v2 =>
  some v2)

noncomputable def layer_crossings_L2 (v1 : Link) (v2 : (List Link)) (up1 : (GMap Int Int)) (low1 : (GMap Int Int)) (i : Int) (s : Int) : Option Int :=
 need (inR v2 i) <|
 bnd (gx v2 i) fun v3 =>
 bif decide ((W ((W ((up1.getD v1.From (0 : Int)) - (up1.getD v3.From (0 : Int)))) * (W ((low1.getD v1.To (0 : Int)) - (low1.getD v3.To (0 : Int)))))) < 0) then (
  bnd (W (s + 1)) fun n1 =>
  some n1)
 else (
  some s)

noncomputable def layer_crossings_L1 (l1 : (List Link)) (up1 : (GMap Int Int)) (low1 : (GMap Int Int)) (i : Int) (s : Int) : Option Int :=
 need (inR l1 i) <|
 bnd (gx l1 i) fun v1 =>
 need (segR l1.length 0 i) <|
 bnd (seg l1 0 i) fun v2 =>
 rfor (v2.length : Int) (layer_crossings_L2 v1 v2 up1 low1) s

/-- layer.crossings -/
noncomputable def layer_crossings (upper1 : (List Int)) (lower1 : (List Int)) (l1 : (List Link)) : Option Int :=
 Option.bind (layer_places upper1) fun up1 =>
 Option.bind (layer_places lower1) fun low1 =>
 Option.bind (α := Int) (
  rfor (l1.length : Int) (layer_crossings_L1 l1 up1 low1) 0) fun j_3 =>
 some j_3

noncomputable def layer_all_L1 (l1 : (List Link)) (rows1 : (List (List Int))) (s2_ : (Int × Int)) : Option (Step (Int × Int) Int) :=
 bif decide (s2_.2 < (rows1.length : Int)) then (
  need (inR rows1 (W (s2_.2 - 1))) <|
  Option.bind (layer_places (gx rows1 (W (s2_.2 - 1)))) fun r1 =>
  need (inR rows1 s2_.2) <|
  Option.bind (layer_places (gx rows1 s2_.2)) fun r2 =>
  Option.bind (slices_Clone_Link l1) fun r3 =>
  Option.bind (slices_DeleteFunc_Link r3 (fun x0 => layer_all_1 x0 r1 r2)) fun between1 =>
  need (inR rows1 (W (s2_.2 - 1))) <|
  need (inR rows1 s2_.2) <|
  Option.bind (layer_crossings (gx rows1 (W (s2_.2 - 1))) (gx rows1 s2_.2) between1) fun r4 =>
  bnd (W (s2_.1 + r4)) fun n1 =>
  bnd (W (s2_.2 + 1)) fun i1 =>
  some (Step.again (n1, i1)))
 else (
  some (Step.done s2_.1))

/-- layer.all -/
noncomputable def layer_all (rows1 : (List (List Int))) (l1 : (List Link)) : Option Int :=
 Option.bind (α := Int) (
  loop (layer_all_L1 l1 rows1) (0, 1)) fun j_1 =>
 some j_1

/-- slices.Clone[[]int,int] -/
noncomputable def slices_Clone_int (s1 : (List Int)) : Option (List Int) :=
 nilc s1 (
  some ([] : List Int)) (
  need (room (([] : (List Int)).length + s1.length)) <|
  bnd (([] : (List Int)) ++ s1) fun v1 =>
  some v1)

noncomputable def slices_insertionSortCmpFunc_int_L2 (a1 : Int) (cmp1 : (Int → Int → Option Int)) (s5_ : (Int × (List Int))) : Option (Step (Int × (List Int)) (List Int)) :=
 need ((decide (a1 < s5_.1)) = true → inR s5_.2 s5_.1) <|
 need ((decide (a1 < s5_.1)) = true → inR s5_.2 (W (s5_.1 - 1))) <|
 Option.bind (gd ((decide (a1 < s5_.1))) (cmp1 (gx s5_.2 s5_.1) (gx s5_.2 (W (s5_.1 - 1))))) fun r1 =>
 bif (decide (a1 < s5_.1)) && (decide (r1 < 0)) then (
  need (inR s5_.2 (W (s5_.1 - 1))) <|
  bnd (gx s5_.2 (W (s5_.1 - 1))) fun v1 =>
  need (inR s5_.2 s5_.1) <|
  bnd (gx s5_.2 s5_.1) fun v2 =>
  need (inR s5_.2 s5_.1) <|
  need (inR (s5_.2.set s5_.1.toNat v1) (W (s5_.1 - 1))) <|
  bnd ((s5_.2.set s5_.1.toNat v1).set (W (s5_.1 - 1)).toNat v2) fun data2 =>
  bnd (W (s5_.1 - 1)) fun j1 =>
  some (Step.again (j1, data2)))
 else (
  some (Step.done s5_.2))

noncomputable def slices_insertionSortCmpFunc_int_L1 (a1 : Int) (b1 : Int) (cmp1 : (Int → Int → Option Int)) (s2_ : (Int × (List Int))) : Option (Step (Int × (List Int)) (List Int)) :=
 bif decide (s2_.1 < b1) then (
  Option.bind (α := (List Int)) (
   loop (slices_insertionSortCmpFunc_int_L2 a1 cmp1) (s2_.1, s2_.2)) fun j_4 =>
  bnd (W (s2_.1 + 1)) fun i2 =>
  some (Step.again (i2, j_4)))
 else (
  some (Step.done s2_.2))

/-- slices.insertionSortCmpFunc[int] -/
noncomputable def slices_insertionSortCmpFunc_int (data1 : (List Int)) (a1 : Int) (b1 : Int) (cmp1 : (Int → Int → Option Int)) : Option (List Int) :=
 bnd (W (a1 + 1)) fun i1 =>
 loop (slices_insertionSortCmpFunc_int_L1 a1 b1 cmp1) (i1, data1)

noncomputable def slices_swapRangeCmpFunc_int_L1 (a1 : Int) (b1 : Int) (n1 : Int) (s1_ : (Int × (List Int))) : Option (Step (Int × (List Int)) (List Int)) :=
 bif decide (s1_.1 < n1) then (
  need (inR s1_.2 (W (b1 + s1_.1))) <|
  bnd (gx s1_.2 (W (b1 + s1_.1))) fun v1 =>
  need (inR s1_.2 (W (a1 + s1_.1))) <|
  bnd (gx s1_.2 (W (a1 + s1_.1))) fun v2 =>
  need (inR s1_.2 (W (a1 + s1_.1))) <|
  need (inR (s1_.2.set (W (a1 + s1_.1)).toNat v1) (W (b1 + s1_.1))) <|
  bnd ((s1_.2.set (W (a1 + s1_.1)).toNat v1).set (W (b1 + s1_.1)).toNat v2) fun data2 =>
  bnd (W (s1_.1 + 1)) fun i1 =>
  some (Step.again (i1, data2)))
 else (
  some (Step.done s1_.2))

/-- slices.swapRangeCmpFunc[int] -/
noncomputable def slices_swapRangeCmpFunc_int (data1 : (List Int)) (a1 : Int) (b1 : Int) (n1 : Int) (cmp1 : (Int → Int → Option Int)) : Option (List Int) :=
 loop (slices_swapRangeCmpFunc_int_L1 a1 b1 n1) (0, data1)

noncomputable def slices_rotateCmpFunc_int_L1 (m1 : Int) (cmp1 : (Int → Int → Option Int)) (s4_ : (Int × Int × (List Int))) : Option (Step (Int × Int × (List Int)) (Int × (List Int))) :=
 bif !decide (s4_.1 = s4_.2.1) then (
  bif decide (s4_.2.1 < s4_.1) then (
   Option.bind (slices_swapRangeCmpFunc_int s4_.2.2 (W (m1 - s4_.1)) m1 s4_.2.1 cmp1) fun r1 =>
   bnd (W (s4_.1 - s4_.2.1)) fun i2 =>
   some (Step.again (i2, s4_.2.1, r1)))
  else (
   Option.bind (slices_swapRangeCmpFunc_int s4_.2.2 (W (m1 - s4_.1)) (W ((W (m1 + s4_.2.1)) - s4_.1)) s4_.1 cmp1) fun r2 =>
   bnd (W (s4_.2.1 - s4_.1)) fun j2 =>
   some (Step.again (s4_.1, j2, r2))))
 else (
  some (Step.done (s4_.1, s4_.2.2)))

/-- slices.rotateCmpFunc[int] -/
noncomputable def slices_rotateCmpFunc_int (data1 : (List Int)) (a1 : Int) (m1 : Int) (b1 : Int) (cmp1 : (Int → Int → Option Int)) : Option (List Int) :=
 bnd (W (m1 - a1)) fun i1 =>
 bnd (W (b1 - m1)) fun j1 =>
 Option.bind (α := (Int × (List Int))) (
  loop (slices_rotateCmpFunc_int_L1 m1 cmp1) (i1, j1, data1)) fun j_3 =>
 Option.bind (slices_swapRangeCmpFunc_int j_3.2 (W (m1 - j_3.1)) m1 j_3.1 cmp1) fun r3 =>
 some r3

noncomputable def slices_symMergeCmpFunc_int_L1 (x : ((List Int) × Int × Int × Int × (Int → Int → Option Int))) (s4_ : (Int × Int)) : Option (Step (Int × Int) Int) :=
 bif decide (s4_.1 < s4_.2) then (
  bnd (W ((KI.of .u64 (W (s4_.1 + s4_.2))).shr 1).n) fun h1 =>
  need (inR x.1 h1) <|
  need (inR x.1 x.2.1) <|
  Option.bind (x.2.2.2.2 (gx x.1 h1) (gx x.1 x.2.1)) fun r1 =>
  bif decide (r1 < 0) then (
   bnd (W (h1 + 1)) fun i1 =>
   some (Step.again (i1, s4_.2)))
  else (
   some (Step.again (s4_.1, h1))))
 else (
  some (Step.done s4_.1))

noncomputable def slices_symMergeCmpFunc_int_L2 (j_3 : Int) (s13_ : (Int × (List Int))) : Option (Step (Int × (List Int)) (List Int)) :=
 bif decide (s13_.1 < (W (j_3 - 1))) then (
  need (inR s13_.2 (W (s13_.1 + 1))) <|
  bnd (gx s13_.2 (W (s13_.1 + 1))) fun v1 =>
  need (inR s13_.2 s13_.1) <|
  bnd (gx s13_.2 s13_.1) fun v2 =>
  need (inR s13_.2 s13_.1) <|
  need (inR (s13_.2.set s13_.1.toNat v1) (W (s13_.1 + 1))) <|
  bnd ((s13_.2.set s13_.1.toNat v1).set (W (s13_.1 + 1)).toNat v2) fun data2 =>
  bnd (W (s13_.1 + 1)) fun k1 =>
  some (Step.again (k1, data2)))
 else (
  some (Step.done s13_.2))

noncomputable def slices_symMergeCmpFunc_int_L3 (x : ((List Int) × Int × Int × Int × (Int → Int → Option Int))) (s26_ : (Int × Int)) : Option (Step (Int × Int) Int) :=
 bif decide (s26_.1 < s26_.2) then (
  bnd (W ((KI.of .u64 (W (s26_.1 + s26_.2))).shr 1).n) fun h2 =>
  need (inR x.1 x.2.2.1) <|
  need (inR x.1 h2) <|
  Option.bind (x.2.2.2.2 (gx x.1 x.2.2.1) (gx x.1 h2)) fun r2 =>
  bif !(decide (r2 < 0)) then (
   bnd (W (h2 + 1)) fun i2 =>
   some (Step.again (i2, s26_.2)))
  else (
   some (Step.again (s26_.1, h2))))
 else (
  some (Step.done s26_.1))

noncomputable def slices_symMergeCmpFunc_int_L4 (j_25 : Int) (s35_ : (Int × (List Int))) : Option (Step (Int × (List Int)) (List Int)) :=
 bif decide (j_25 < s35_.1) then (
  need (inR s35_.2 (W (s35_.1 - 1))) <|
  bnd (gx s35_.2 (W (s35_.1 - 1))) fun v3 =>
  need (inR s35_.2 s35_.1) <|
  bnd (gx s35_.2 s35_.1) fun v4 =>
  need (inR s35_.2 s35_.1) <|
  need (inR (s35_.2.set s35_.1.toNat v3) (W (s35_.1 - 1))) <|
  bnd ((s35_.2.set s35_.1.toNat v3).set (W (s35_.1 - 1)).toNat v4) fun data3 =>
  bnd (W (s35_.1 - 1)) fun k2 =>
  some (Step.again (k2, data3)))
 else (
  some (Step.done s35_.2))

noncomputable def slices_symMergeCmpFunc_int_L5 (x : ((List Int) × Int × Int × Int × (Int → Int → Option Int))) (n1 : Int) (s51_ : (Int × Int)) : Option (Step (Int × Int) Int) :=
 bif decide (s51_.1 < s51_.2) then (
  bnd (W ((KI.of .u64 (W (s51_.1 + s51_.2))).shr 1).n) fun c1 =>
  need (inR x.1 (W ((W (n1 - 1)) - c1))) <|
  need (inR x.1 c1) <|
  Option.bind (x.2.2.2.2 (gx x.1 (W ((W (n1 - 1)) - c1))) (gx x.1 c1)) fun r3 =>
  bif !(decide (r3 < 0)) then (
   bnd (W (c1 + 1)) fun start2 =>
   some (Step.again (start2, s51_.2)))
  else (
   some (Step.again (s51_.1, c1))))
 else (
  some (Step.done s51_.1))

/-- slices.symMergeCmpFunc[int] -/
noncomputable def slices_symMergeCmpFunc_int_body (self : ((List Int) × Int × Int × Int × (Int → Int → Option Int)) → Option (List Int)) (x : ((List Int) × Int × Int × Int × (Int → Int → Option Int))) : Option (List Int) :=
 bindR (σ := Unit) (ρ := (List Int)) (
  bif decide ((W (x.2.2.1 - x.2.1)) = 1) then (
   Option.bind (α := Int) (
    loop (slices_symMergeCmpFunc_int_L1 x) (x.2.2.1, x.2.2.2.1)) fun j_3 =>
   Option.bind (α := (List Int)) (
    loop (slices_symMergeCmpFunc_int_L2 j_3) (x.2.1, x.1)) fun j_12 =>
   some (Res.ab j_12))
  else (
   some (Res.nx ()))) fun j_1 =>
 bindR (σ := Unit) (ρ := (List Int)) (
  bif decide ((W (x.2.2.2.1 - x.2.2.1)) = 1) then (
   Option.bind (α := Int) (
    loop (slices_symMergeCmpFunc_int_L3 x) (x.2.1, x.2.2.1)) fun j_25 =>
   Option.bind (α := (List Int)) (
    loop (slices_symMergeCmpFunc_int_L4 j_25) (x.2.2.1, x.1)) fun j_34 =>
   some (Res.ab j_34))
  else (
   some (Res.nx ()))) fun j_23 =>
 bnd (W ((KI.of .u64 (W (x.2.1 + x.2.2.2.1))).shr 1).n) fun mid1 =>
 bnd (W (mid1 + x.2.2.1)) fun n1 =>
 Option.bind (α := (Int × Int)) (
  bif decide (mid1 < x.2.2.1) then (
   bnd (W (n1 - x.2.2.2.1)) fun start1 =>
   some (start1, mid1))
  else (
   some (x.2.1, x.2.2.1))) fun j_47 =>
 Option.bind (α := Int) (
  loop (slices_symMergeCmpFunc_int_L5 x n1) (j_47.1, j_47.2)) fun j_50 =>
 bnd (W (n1 - j_50)) fun end1 =>
 Option.bind (α := (List Int)) (
  bif (decide (j_50 < x.2.2.1)) && (decide (x.2.2.1 < end1)) then (
   Option.bind (slices_rotateCmpFunc_int x.1 j_50 x.2.2.1 end1 x.2.2.2.2) fun r4 =>
   some r4)
  else (
   some x.1)) fun j_60 =>
 Option.bind (α := (List Int)) (
  bif (decide (x.2.1 < j_50)) && (decide (j_50 < mid1)) then (
   Option.bind (self (j_60, x.2.1, j_50, mid1, x.2.2.2.2)) fun r5 =>
   some r5)
  else (
   some j_60)) fun j_63 =>
 bif (decide (mid1 < end1)) && (decide (end1 < x.2.2.2.1)) then (
  Option.bind (self (j_63, mid1, end1, x.2.2.2.1, x.2.2.2.2)) fun r6 =>
  some r6)
 else (
  some j_63)

noncomputable def slices_symMergeCmpFunc_int (data1 : (List Int)) (a1 : Int) (m1 : Int) (b1 : Int) (cmp1 : (Int → Int → Option Int)) : Option (List Int) := fixp slices_symMergeCmpFunc_int_body (data1, a1, m1, b1, cmp1)

noncomputable def slices_stableCmpFunc_int_L1 (n1 : Int) (cmp1 : (Int → Int → Option Int)) (s2_ : (Int × Int × (List Int))) : Option (Step (Int × Int × (List Int)) (Int × (List Int))) :=
 bif decide (s2_.2.1 ≤ n1) then (
  Option.bind (slices_insertionSortCmpFunc_int s2_.2.2 s2_.1 s2_.2.1 cmp1) fun r1 =>
  bnd (W (s2_.2.1 + 20)) fun b1 =>
  some (Step.again (s2_.2.1, b1, r1)))
 else (
  some (Step.done (s2_.1, s2_.2.2)))

noncomputable def slices_stableCmpFunc_int_L3 (n1 : Int) (s7_ : (Int × (List Int))) (cmp1 : (Int → Int → Option Int)) (s11_ : (Int × Int × (List Int))) : Option (Step (Int × Int × (List Int)) (Int × (List Int))) :=
 bif decide (s11_.2.1 ≤ n1) then (
  Option.bind (slices_symMergeCmpFunc_int s11_.2.2 s11_.1 (W (s11_.1 + s7_.1)) s11_.2.1 cmp1) fun r3 =>
  bnd (W (s11_.2.1 + (W (2 * s7_.1)))) fun b3 =>
  some (Step.again (s11_.2.1, b3, r3)))
 else (
  some (Step.done (s11_.1, s11_.2.2)))

noncomputable def slices_stableCmpFunc_int_L2 (n1 : Int) (cmp1 : (Int → Int → Option Int)) (s7_ : (Int × (List Int))) : Option (Step (Int × (List Int)) (List Int)) :=
 bif decide (s7_.1 < n1) then (
  bnd (W (2 * s7_.1)) fun b2 =>
  Option.bind (α := (Int × (List Int))) (
   loop (slices_stableCmpFunc_int_L3 n1 s7_ cmp1) (0, b2, s7_.2)) fun j_10 =>
  bnd (W (j_10.1 + s7_.1)) fun m1 =>
  Option.bind (α := (List Int)) (
   bif decide (m1 < n1) then (
    Option.bind (slices_symMergeCmpFunc_int j_10.2 j_10.1 m1 n1 cmp1) fun r4 =>
    some r4)
   else (
    some j_10.2)) fun j_16 =>
  bnd (W (s7_.1 * 2)) fun blockSize1 =>
  some (Step.again (blockSize1, j_16)))
 else (
  some (Step.done s7_.2))

/-- slices.stableCmpFunc[int] -/
noncomputable def slices_stableCmpFunc_int (data1 : (List Int)) (n1 : Int) (cmp1 : (Int → Int → Option Int)) : Option (List Int) :=
 Option.bind (α := (Int × (List Int))) (
  loop (slices_stableCmpFunc_int_L1 n1 cmp1) (0, 20, data1)) fun j_1 =>
 Option.bind (slices_insertionSortCmpFunc_int j_1.2 j_1.1 n1 cmp1) fun r2 =>
 loop (slices_stableCmpFunc_int_L2 n1 cmp1) (20, r2)

/-- slices.SortStableFunc[[]int,int] -/
noncomputable def slices_SortStableFunc_int (x1 : (List Int)) (cmp1 : (Int → Int → Option Int)) : Option (List Int) :=
 Option.bind (slices_stableCmpFunc_int x1 (x1.length : Int) cmp1) fun r1 =>
 some r1

/-- cmp.isNaN[int] -/
noncomputable def cmp_isNaN_int (x1 : Int) : Option Bool :=
 some (!decide (x1 = x1))

/-- cmp.Compare[int] -/
noncomputable def cmp_Compare_int (x1 : Int) (y1 : Int) : Option Int :=
 Option.bind (cmp_isNaN_int x1) fun xNaN1 =>
 Option.bind (cmp_isNaN_int y1) fun yNaN1 =>
 bif xNaN1 then (
  bif yNaN1 then (
   some 0)
  else (
   some (-1)))
 else (
  bif yNaN1 then (
   some 1)
  else (
   bif decide (x1 < y1) then (
    some (-1))
   else (
    bif decide (y1 < x1) then (
     some 1)
    else (
     some 0))))

/-- layer.sorted$1 -/
noncomputable def layer_sorted_1 (a1 : Int) (b1 : Int) (c0_1 : (GMap Int Layer_mean)) : Option Int :=
 bnd (c0_1.getD a1 (⟨(0 : Int), (0 : Int)⟩ : Layer_mean)) fun v1 =>
 bnd (c0_1.getD b1 (⟨(0 : Int), (0 : Int)⟩ : Layer_mean)) fun v2 =>
 Option.bind (cmp_Compare_int (W (v1.sum * v2.many)) (W (v2.sum * v1.many))) fun r1 =>
 some r1

noncomputable def layer_sorted_L1 (l1 : (List Link)) (at1 : (GMap Int Int)) (ends1 : (Link → Option (Int × Int))) (i : Int) (s : (GMap Int Layer_mean)) : Option (GMap Int Layer_mean) :=
 need (inR l1 i) <|
 bnd (gx l1 i) fun v1 =>
 Option.bind (ends1 v1) fun r1 =>
 bif at1.has r1.2 then (
  bnd (s.getD r1.1 (⟨(0 : Int), (0 : Int)⟩ : Layer_mean)) fun v2 =>
  some (s.set r1.1 (⟨W (v2.sum + (at1.getD r1.2 (0 : Int))), W (v2.many + 1)⟩ : Layer_mean)))
 else (
  some s)

noncomputable def layer_sorted_L2 (row1 : (List Int)) (i : Int) (s : (GMap Int Layer_mean)) : Option (GMap Int Layer_mean) :=
 need (inR row1 i) <|
 bnd (gx row1 i) fun k1 =>
 bif decide (((s.getD k1 (⟨(0 : Int), (0 : Int)⟩ : Layer_mean)).many) = 0) then (
  some (s.set k1 (⟨i, 1⟩ : Layer_mean)))
 else (
  some s)

/-- layer.sorted -/
noncomputable def layer_sorted (row1 : (List Int)) (other1 : (List Int)) (l1 : (List Link)) (ends1 : (Link → Option (Int × Int))) : Option (List Int) :=
 Option.bind (layer_places other1) fun at1 =>
 bnd ((GMap.nil : (GMap Int Layer_mean))) fun c1 =>
 Option.bind (α := (GMap Int Layer_mean)) (
  rfor (l1.length : Int) (layer_sorted_L1 l1 at1 ends1) c1) fun j_3 =>
 Option.bind (α := (GMap Int Layer_mean)) (
  rfor (row1.length : Int) (layer_sorted_L2 row1) j_3) fun j_12 =>
 Option.bind (slices_Clone_int row1) fun row2 =>
 Option.bind (slices_SortStableFunc_int row2 (fun x0 x1 => layer_sorted_1 x0 x1 j_12)) fun r2 =>
 some r2

/-- layer.sweep$2 -/
noncomputable def layer_sweep_2 (x1 : Link) : Option (Int × Int) :=
 some (x1.To, x1.From)

/-- layer.sweep$1 -/
noncomputable def layer_sweep_1 (c0_1 : (List (List Int))) (c1_1 : (List Link)) (c2_1 : Int) (c3_1 : (List (List Int))) : Option ((List (List Int)) × Int × (List (List Int))) :=
 Option.bind (layer_all c0_1 c1_1) fun n1 =>
 bif decide (n1 < c2_1) then (
  Option.bind (slices_Clone_Lint_own c0_1) fun r1 =>
  some (r1.2, n1, r1.1))
 else (
  some (c0_1, c2_1, c3_1))

/-- layer.sweep$3 -/
noncomputable def layer_sweep_3 (x1 : Link) : Option (Int × Int) :=
 some (x1.From, x1.To)

noncomputable def layer_sweep_L2 (l1 : (List Link)) (s9_ : (Int × (List (List Int)))) : Option (Step (Int × (List (List Int))) (List (List Int))) :=
 bif decide (s9_.1 < (s9_.2.length : Int)) then (
  need (inR s9_.2 s9_.1) <|
  need (inR s9_.2 (W (s9_.1 - 1))) <|
  Option.bind (layer_sorted (gx s9_.2 s9_.1) (gx s9_.2 (W (s9_.1 - 1))) l1 layer_sweep_2) fun r4 =>
  need (inR s9_.2 s9_.1) <|
  bnd (s9_.2.set s9_.1.toNat r4) fun c1 =>
  bnd (W (s9_.1 + 1)) fun i1 =>
  some (Step.again (i1, c1)))
 else (
  some (Step.done s9_.2))

noncomputable def layer_sweep_L3 (l1 : (List Link)) (s20_ : (Int × (List (List Int)))) : Option (Step (Int × (List (List Int))) (List (List Int))) :=
 bif decide (0 ≤ s20_.1) then (
  need (inR s20_.2 s20_.1) <|
  need (inR s20_.2 (W (s20_.1 + 1))) <|
  Option.bind (layer_sorted (gx s20_.2 s20_.1) (gx s20_.2 (W (s20_.1 + 1))) l1 layer_sweep_3) fun r6 =>
  need (inR s20_.2 s20_.1) <|
  bnd (s20_.2.set s20_.1.toNat r6) fun c2 =>
  bnd (W (s20_.1 - 1)) fun i3 =>
  some (Step.again (i3, c2)))
 else (
  some (Step.done s20_.2))

noncomputable def layer_sweep_L1 (l1 : (List Link)) (i : Int) (s : ((List (List Int)) × (List (List Int)) × Int)) : Option ((List (List Int)) × (List (List Int)) × Int) :=
 Option.bind (α := (List (List Int))) (
  loop (layer_sweep_L2 l1) (1, s.1)) fun j_8 =>
 Option.bind (layer_sweep_1 j_8 l1 s.2.2 s.2.1) fun r5 =>
 bnd (W ((r5.1.length : Int) - 2)) fun i2 =>
 Option.bind (α := (List (List Int))) (
  loop (layer_sweep_L3 l1) (i2, r5.1)) fun j_19 =>
 Option.bind (layer_sweep_1 j_19 l1 r5.2.1 r5.2.2) fun r7 =>
 some (r7.1, r7.2.2, r7.2.1)

noncomputable def layer_sweep_L4  (i : Int) (s : (List (List Int))) : Option (List (List Int)) :=
 need (inR s i) <|
 Option.bind (slices_Clone_int (gx s i)) fun r8 =>
 need (inR s i) <|
 some (s.set i.toNat r8)

/-- layer.sweep -/
noncomputable def layer_sweep (rows1 : (List (List Int))) (l1 : (List Link)) (rounds1 : Int) : Option ((List (List Int)) × Int) :=
 Option.bind (slices_Clone_Lint rows1) fun r1 =>
 Option.bind (slices_Clone_Lint_own r1) fun r2 =>
 Option.bind (layer_all r2.2 l1) fun r3 =>
 Option.bind (α := ((List (List Int)) × (List (List Int)) × Int)) (
  rfor rounds1 (layer_sweep_L1 l1) (r2.2, r2.1, r3)) fun j_4 =>
 Option.bind (α := (List (List Int))) (
  rfor (j_4.2.1.length : Int) layer_sweep_L4 j_4.2.1) fun j_29 =>
 some (j_29, j_4.2.2)

/-- layer.Sweep -/
noncomputable def layer_Sweep (rows1 : (List (List Int))) (l1 : (List Link)) (rounds1 : Int) : Option ((List (List Int)) × Int × Int) :=
 Option.bind (layer_checkRows rows1 l1) fun e1 =>
 bif !decide (e1 = 0) then (
  some (([] : (List (List Int))), 0, e1))
 else (
  bif (decide (rounds1 < 0)) || (decide (20 < rounds1)) then (
   some (([] : (List (List Int))), 0, 3))
  else (
   Option.bind (layer_sweep rows1 l1 rounds1) fun r1 =>
   some (r1.1, r1.2, 0)))

/-- drawref1.In -/
noncomputable def ref_In (n1 : Int) (low1 : Int) (high1 : Int) : Option Bool :=
 some ((decide (low1 ≤ n1)) && (decide (n1 ≤ high1)))

/-- drawref1.When -/
noncomputable def ref_When (is1 : Bool) (e1 : Int) : Option Int :=
 bif is1 then (
  some e1)
 else (
  some 0)

noncomputable def slices_Index_int_L1 (s1 : (List Int)) (v1 : Int) (i : Int) (s : Unit) : Option (Res Unit (Res Unit Int)) :=
 need (inR s1 i) <|
 bif decide (v1 = (gx s1 i)) then (
  some (Res.ab (Res.ab i)))
 else (
  some (Res.nx ()))

/-- slices.Index[[]int,int] -/
noncomputable def slices_Index_int (s1 : (List Int)) (v1 : Int) : Option Int :=
 bindR (σ := Unit) (ρ := Int) (
  rforE (s1.length : Int) (slices_Index_int_L1 s1 v1) (fun s => Res.nx s) ()) fun j_1 =>
 some (-1)

/-- slices.Contains[[]int,int] -/
noncomputable def slices_Contains_int (s1 : (List Int)) (v1 : Int) : Option Bool :=
 Option.bind (slices_Index_int s1 v1) fun r1 =>
 some (decide (0 ≤ r1))

noncomputable def ref_First_L1 (l1 : (List Int)) (i : Int) (s : Unit) : Option (Res Unit (Res Unit Int)) :=
 need (inR l1 i) <|
 bnd (gx l1 i) fun e1 =>
 bif !decide (e1 = 0) then (
  some (Res.ab (Res.ab e1)))
 else (
  some (Res.nx ()))

/-- drawref1.First -/
noncomputable def ref_First (l1 : (List Int)) : Option Int :=
 bindR (σ := Unit) (ρ := Int) (
  rforE (l1.length : Int) (ref_First_L1 l1) (fun s => Res.nx s) ()) fun j_1 =>
 some 0

noncomputable def ref_RowError_L1 (row1 : (List Int)) (i : Int) (s : Unit) : Option (Res Unit (Res Unit Int)) :=
 need (inR row1 i) <|
 bnd (gx row1 i) fun n1 =>
 Option.bind (ref_In n1 0 59) fun r1 =>
 Option.bind (ref_When (!r1) 3) fun r2 =>
 need (segR row1.length 0 i) <|
 Option.bind (slices_Contains_int (seg row1 0 i) n1) fun r3 =>
 Option.bind (ref_When r3 6) fun r4 =>
 Option.bind (ref_First [r2, r4]) fun e1 =>
 bif !decide (e1 = 0) then (
  some (Res.ab (Res.ab e1)))
 else (
  some (Res.nx ()))

/-- drawref1.RowError -/
noncomputable def ref_RowError (row1 : (List Int)) : Option Int :=
 bif decide (60 < (row1.length : Int)) then (
  some 4)
 else (
  bindR (σ := Unit) (ρ := Int) (
   rforE (row1.length : Int) (ref_RowError_L1 row1) (fun s => Res.nx s) ()) fun j_2 =>
  some 0)

noncomputable def ref_SweepError_L2 (r1 : (List Int)) (p4_ : Int × (GMap Int Int)) (i : Int) (s : (GMap Int Int)) : Option (Res (GMap Int Int) (Res (GMap Int Int) (Res (GMap Int Int) Int))) :=
 need (inR r1 i) <|
 bnd (gx r1 i) fun n1 =>
 bif s.has n1 then (
  some (Res.ab (Res.ab (Res.ab 6))))
 else (
  some (Res.nx (s.set n1 p4_.1)))

noncomputable def ref_SweepError_L1 (rows1 : (List (List Int))) (i : Int) (s : (GMap Int Int)) : Option (Res (GMap Int Int) (Res (GMap Int Int) Int)) :=
 need (inR rows1 i) <|
 bnd (gx rows1 i) fun r1 =>
 Option.bind (ref_RowError r1) fun e1 =>
 bif !decide (e1 = 0) then (
  some (Res.ab (Res.ab e1)))
 else (
  rforE (r1.length : Int) (ref_SweepError_L2 r1 (i, s)) (fun s => Res.nx s) s)

noncomputable def ref_SweepError_L3 (l1 : (List Link)) (j_3 : (GMap Int Int)) (i : Int) (s : Unit) : Option (Res Unit (Res Unit Int)) :=
 need (inR l1 i) <|
 bnd (gx l1 i) fun v1 =>
 Option.bind (ref_When ((!(j_3.has v1.From)) || (!(j_3.has v1.To))) 10) fun r2 =>
 Option.bind (ref_When (!decide ((j_3.getD v1.To (0 : Int)) = (W ((j_3.getD v1.From (0 : Int)) + 1)))) 7) fun r3 =>
 Option.bind (ref_First [r2, r3]) fun e2 =>
 bif !decide (e2 = 0) then (
  some (Res.ab (Res.ab e2)))
 else (
  some (Res.nx ()))

/-- drawref1.SweepError -/
noncomputable def ref_SweepError (rows1 : (List (List Int))) (l1 : (List Link)) (rounds1 : Int) : Option Int :=
 bif decide (60 < (rows1.length : Int)) then (
  some 4)
 else (
  bnd ((GMap.nil : (GMap Int Int))) fun at1 =>
  bindR (σ := (GMap Int Int)) (ρ := Int) (
   rforE (rows1.length : Int) (ref_SweepError_L1 rows1) (fun s => Res.nx s) at1) fun j_3 =>
  bif decide (200 < (l1.length : Int)) then (
   some 4)
  else (
   bindR (σ := Unit) (ρ := Int) (
    rforE (l1.length : Int) (ref_SweepError_L3 l1 j_3) (fun s => Res.nx s) ()) fun j_18 =>
   Option.bind (ref_In rounds1 0 20) fun r4 =>
   Option.bind (ref_When (!r4) 3) fun r5 =>
   some r5))

/-- layer.Check$1 -/
noncomputable def layer_Check_1 (k1 : Int) (c0_1 : Int) : Option Bool :=
 some ((decide (0 ≤ k1)) && (decide (k1 < c0_1)))

noncomputable def layer_Check_L1 (l1 : (List Link)) (n1 : Int) (i : Int) (s : Unit) : Option (Res Unit (Res Unit Int)) :=
 need (inR l1 i) <|
 bnd (gx l1 i) fun v1 =>
 Option.bind ((fun x0 => layer_Check_1 x0 n1) v1.From) fun r1 =>
 Option.bind (gd (!(!r1)) ((fun x0 => layer_Check_1 x0 n1) v1.To)) fun r2 =>
 bif (!r1) || (!r2) then (
  some (Res.ab (Res.ab 10)))
 else (
  bif decide (v1.From = v1.To) then (
   some (Res.ab (Res.ab 2)))
  else (
   some (Res.nx ())))

/-- layer.Check -/
noncomputable def layer_Check (n1 : Int) (l1 : (List Link)) : Option Int :=
 bif (decide (n1 < 1)) || (decide (60 < n1)) then (
  some 3)
 else (
  bif decide (200 < (l1.length : Int)) then (
   some 4)
  else (
   bindR (σ := Unit) (ρ := Int) (
    rforE (l1.length : Int) (layer_Check_L1 l1 n1) (fun s => Res.nx s) ()) fun j_3 =>
   some 0))

/-- drawlaw1.layers -/
noncomputable def law_layers  : Option Bool :=
 Option.bind (layer_Check 1 ([] : (List Link))) fun r1 =>
 Option.bind (gd ((decide (r1 = 0))) (layer_Check 0 ([] : (List Link)))) fun r2 =>
 some ((decide (r1 = 0)) && (decide (r2 = 3)))

noncomputable def ref_SweepOf_1_L1 (c0_1 : (List (List Int))) (i : Int) (s : (List (List Int))) : Option (List (List Int)) :=
 need (inR c0_1 i) <|
 Option.bind (slices_Clone_int (gx c0_1 i)) fun r1 =>
 need (room (s.length + [r1].length)) <|
 some (s ++ [r1])

/-- drawref1.SweepOf$1 -/
noncomputable def ref_SweepOf_1 (c0_1 : (List (List Int))) : Option (List (List Int)) :=
 Option.bind (α := (List (List Int))) (
  rfor (c0_1.length : Int) (ref_SweepOf_1_L1 c0_1) ([] : List (List Int))) fun j_1 =>
 some j_1

/-- drawref1.between$1 -/
noncomputable def ref_between_1 (x1 : Link) (c0_1 : (List Int)) (c1_1 : (List Int)) : Option Bool :=
 Option.bind (slices_Contains_int c0_1 x1.From) fun r1 =>
 Option.bind (gd (!(!r1)) (slices_Contains_int c1_1 x1.To)) fun r2 =>
 some ((!r1) || (!r2))

/-- drawref1.between -/
noncomputable def ref_between (upper1 : (List Int)) (lower1 : (List Int)) (l1 : (List Link)) : Option (List Link) :=
 Option.bind (slices_Clone_Link l1) fun r1 =>
 Option.bind (slices_DeleteFunc_Link r1 (fun x0 => ref_between_1 x0 upper1 lower1)) fun r2 =>
 some r2

/-- drawref1.Sign -/
noncomputable def ref_Sign (n1 : Int) : Option Int :=
 some (min (max n1 (-1)) 1)

noncomputable def ref_CrossingsOf_L2 (v1 : Link) (v2 : (List Link)) (lower1 : (List Int)) (upper1 : (List Int)) (i : Int) (s : Int) : Option Int :=
 need (inR v2 i) <|
 bnd (gx v2 i) fun v3 =>
 Option.bind (slices_Index_int upper1 v1.From) fun r1 =>
 Option.bind (slices_Index_int upper1 v3.From) fun r2 =>
 Option.bind (slices_Index_int lower1 v1.To) fun r3 =>
 Option.bind (slices_Index_int lower1 v3.To) fun r4 =>
 Option.bind (ref_Sign (W (r1 - r2))) fun r5 =>
 Option.bind (ref_Sign (W (r3 - r4))) fun r6 =>
 bif decide ((W (r5 * r6)) < 0) then (
  bnd (W (s + 1)) fun n1 =>
  some n1)
 else (
  some s)

noncomputable def ref_CrossingsOf_L1 (l1 : (List Link)) (lower1 : (List Int)) (upper1 : (List Int)) (i : Int) (s : Int) : Option Int :=
 need (inR l1 i) <|
 bnd (gx l1 i) fun v1 =>
 need (segR l1.length 0 i) <|
 bnd (seg l1 0 i) fun v2 =>
 rfor (v2.length : Int) (ref_CrossingsOf_L2 v1 v2 lower1 upper1) s

/-- drawref1.CrossingsOf -/
noncomputable def ref_CrossingsOf (upper1 : (List Int)) (lower1 : (List Int)) (l1 : (List Link)) : Option Int :=
 Option.bind (α := Int) (
  rfor (l1.length : Int) (ref_CrossingsOf_L1 l1 lower1 upper1) 0) fun j_1 =>
 some j_1

noncomputable def ref_allCrossings_L1 (l1 : (List Link)) (rows1 : (List (List Int))) (s2_ : (Int × Int)) : Option (Step (Int × Int) Int) :=
 bif decide (s2_.2 < (rows1.length : Int)) then (
  need (inR rows1 (W (s2_.2 - 1))) <|
  need (inR rows1 s2_.2) <|
  need (inR rows1 (W (s2_.2 - 1))) <|
  need (inR rows1 s2_.2) <|
  Option.bind (ref_between (gx rows1 (W (s2_.2 - 1))) (gx rows1 s2_.2) l1) fun r1 =>
  Option.bind (ref_CrossingsOf (gx rows1 (W (s2_.2 - 1))) (gx rows1 s2_.2) r1) fun r2 =>
  bnd (W (s2_.1 + r2)) fun n1 =>
  bnd (W (s2_.2 + 1)) fun i1 =>
  some (Step.again (n1, i1)))
 else (
  some (Step.done s2_.1))

/-- drawref1.allCrossings -/
noncomputable def ref_allCrossings (rows1 : (List (List Int))) (l1 : (List Link)) : Option Int :=
 Option.bind (α := Int) (
  loop (ref_allCrossings_L1 l1 rows1) (0, 1)) fun j_1 =>
 some j_1

noncomputable def slices_insertionSortCmpFunc_mean_L2 (a1 : Int) (cmp1 : (Ref_mean → Ref_mean → Option Int)) (s5_ : (Int × (List Ref_mean))) : Option (Step (Int × (List Ref_mean)) (List Ref_mean)) :=
 need ((decide (a1 < s5_.1)) = true → inR s5_.2 s5_.1) <|
 need ((decide (a1 < s5_.1)) = true → inR s5_.2 (W (s5_.1 - 1))) <|
 Option.bind (gd ((decide (a1 < s5_.1))) (cmp1 (gx s5_.2 s5_.1) (gx s5_.2 (W (s5_.1 - 1))))) fun r1 =>
 bif (decide (a1 < s5_.1)) && (decide (r1 < 0)) then (
  need (inR s5_.2 (W (s5_.1 - 1))) <|
  bnd (gx s5_.2 (W (s5_.1 - 1))) fun v1 =>
  need (inR s5_.2 s5_.1) <|
  bnd (gx s5_.2 s5_.1) fun v2 =>
  need (inR s5_.2 s5_.1) <|
  need (inR (s5_.2.set s5_.1.toNat v1) (W (s5_.1 - 1))) <|
  bnd ((s5_.2.set s5_.1.toNat v1).set (W (s5_.1 - 1)).toNat v2) fun data2 =>
  bnd (W (s5_.1 - 1)) fun j1 =>
  some (Step.again (j1, data2)))
 else (
  some (Step.done s5_.2))

noncomputable def slices_insertionSortCmpFunc_mean_L1 (a1 : Int) (b1 : Int) (cmp1 : (Ref_mean → Ref_mean → Option Int)) (s2_ : (Int × (List Ref_mean))) : Option (Step (Int × (List Ref_mean)) (List Ref_mean)) :=
 bif decide (s2_.1 < b1) then (
  Option.bind (α := (List Ref_mean)) (
   loop (slices_insertionSortCmpFunc_mean_L2 a1 cmp1) (s2_.1, s2_.2)) fun j_4 =>
  bnd (W (s2_.1 + 1)) fun i2 =>
  some (Step.again (i2, j_4)))
 else (
  some (Step.done s2_.2))

/-- slices.insertionSortCmpFunc[drawref1.mean] -/
noncomputable def slices_insertionSortCmpFunc_mean (data1 : (List Ref_mean)) (a1 : Int) (b1 : Int) (cmp1 : (Ref_mean → Ref_mean → Option Int)) : Option (List Ref_mean) :=
 bnd (W (a1 + 1)) fun i1 =>
 loop (slices_insertionSortCmpFunc_mean_L1 a1 b1 cmp1) (i1, data1)

noncomputable def slices_swapRangeCmpFunc_mean_L1 (a1 : Int) (b1 : Int) (n1 : Int) (s1_ : (Int × (List Ref_mean))) : Option (Step (Int × (List Ref_mean)) (List Ref_mean)) :=
 bif decide (s1_.1 < n1) then (
  need (inR s1_.2 (W (b1 + s1_.1))) <|
  bnd (gx s1_.2 (W (b1 + s1_.1))) fun v1 =>
  need (inR s1_.2 (W (a1 + s1_.1))) <|
  bnd (gx s1_.2 (W (a1 + s1_.1))) fun v2 =>
  need (inR s1_.2 (W (a1 + s1_.1))) <|
  need (inR (s1_.2.set (W (a1 + s1_.1)).toNat v1) (W (b1 + s1_.1))) <|
  bnd ((s1_.2.set (W (a1 + s1_.1)).toNat v1).set (W (b1 + s1_.1)).toNat v2) fun data2 =>
  bnd (W (s1_.1 + 1)) fun i1 =>
  some (Step.again (i1, data2)))
 else (
  some (Step.done s1_.2))

/-- slices.swapRangeCmpFunc[drawref1.mean] -/
noncomputable def slices_swapRangeCmpFunc_mean (data1 : (List Ref_mean)) (a1 : Int) (b1 : Int) (n1 : Int) (cmp1 : (Ref_mean → Ref_mean → Option Int)) : Option (List Ref_mean) :=
 loop (slices_swapRangeCmpFunc_mean_L1 a1 b1 n1) (0, data1)

noncomputable def slices_rotateCmpFunc_mean_L1 (m1 : Int) (cmp1 : (Ref_mean → Ref_mean → Option Int)) (s4_ : (Int × Int × (List Ref_mean))) : Option (Step (Int × Int × (List Ref_mean)) (Int × (List Ref_mean))) :=
 bif !decide (s4_.1 = s4_.2.1) then (
  bif decide (s4_.2.1 < s4_.1) then (
   Option.bind (slices_swapRangeCmpFunc_mean s4_.2.2 (W (m1 - s4_.1)) m1 s4_.2.1 cmp1) fun r1 =>
   bnd (W (s4_.1 - s4_.2.1)) fun i2 =>
   some (Step.again (i2, s4_.2.1, r1)))
  else (
   Option.bind (slices_swapRangeCmpFunc_mean s4_.2.2 (W (m1 - s4_.1)) (W ((W (m1 + s4_.2.1)) - s4_.1)) s4_.1 cmp1) fun r2 =>
   bnd (W (s4_.2.1 - s4_.1)) fun j2 =>
   some (Step.again (s4_.1, j2, r2))))
 else (
  some (Step.done (s4_.1, s4_.2.2)))

/-- slices.rotateCmpFunc[drawref1.mean] -/
noncomputable def slices_rotateCmpFunc_mean (data1 : (List Ref_mean)) (a1 : Int) (m1 : Int) (b1 : Int) (cmp1 : (Ref_mean → Ref_mean → Option Int)) : Option (List Ref_mean) :=
 bnd (W (m1 - a1)) fun i1 =>
 bnd (W (b1 - m1)) fun j1 =>
 Option.bind (α := (Int × (List Ref_mean))) (
  loop (slices_rotateCmpFunc_mean_L1 m1 cmp1) (i1, j1, data1)) fun j_3 =>
 Option.bind (slices_swapRangeCmpFunc_mean j_3.2 (W (m1 - j_3.1)) m1 j_3.1 cmp1) fun r3 =>
 some r3

noncomputable def slices_symMergeCmpFunc_mean_L1 (x : ((List Ref_mean) × Int × Int × Int × (Ref_mean → Ref_mean → Option Int))) (s4_ : (Int × Int)) : Option (Step (Int × Int) Int) :=
 bif decide (s4_.1 < s4_.2) then (
  bnd (W ((KI.of .u64 (W (s4_.1 + s4_.2))).shr 1).n) fun h1 =>
  need (inR x.1 h1) <|
  need (inR x.1 x.2.1) <|
  Option.bind (x.2.2.2.2 (gx x.1 h1) (gx x.1 x.2.1)) fun r1 =>
  bif decide (r1 < 0) then (
   bnd (W (h1 + 1)) fun i1 =>
   some (Step.again (i1, s4_.2)))
  else (
   some (Step.again (s4_.1, h1))))
 else (
  some (Step.done s4_.1))

noncomputable def slices_symMergeCmpFunc_mean_L2 (j_3 : Int) (s13_ : (Int × (List Ref_mean))) : Option (Step (Int × (List Ref_mean)) (List Ref_mean)) :=
 bif decide (s13_.1 < (W (j_3 - 1))) then (
  need (inR s13_.2 (W (s13_.1 + 1))) <|
  bnd (gx s13_.2 (W (s13_.1 + 1))) fun v1 =>
  need (inR s13_.2 s13_.1) <|
  bnd (gx s13_.2 s13_.1) fun v2 =>
  need (inR s13_.2 s13_.1) <|
  need (inR (s13_.2.set s13_.1.toNat v1) (W (s13_.1 + 1))) <|
  bnd ((s13_.2.set s13_.1.toNat v1).set (W (s13_.1 + 1)).toNat v2) fun data2 =>
  bnd (W (s13_.1 + 1)) fun k1 =>
  some (Step.again (k1, data2)))
 else (
  some (Step.done s13_.2))

noncomputable def slices_symMergeCmpFunc_mean_L3 (x : ((List Ref_mean) × Int × Int × Int × (Ref_mean → Ref_mean → Option Int))) (s26_ : (Int × Int)) : Option (Step (Int × Int) Int) :=
 bif decide (s26_.1 < s26_.2) then (
  bnd (W ((KI.of .u64 (W (s26_.1 + s26_.2))).shr 1).n) fun h2 =>
  need (inR x.1 x.2.2.1) <|
  need (inR x.1 h2) <|
  Option.bind (x.2.2.2.2 (gx x.1 x.2.2.1) (gx x.1 h2)) fun r2 =>
  bif !(decide (r2 < 0)) then (
   bnd (W (h2 + 1)) fun i2 =>
   some (Step.again (i2, s26_.2)))
  else (
   some (Step.again (s26_.1, h2))))
 else (
  some (Step.done s26_.1))

noncomputable def slices_symMergeCmpFunc_mean_L4 (j_25 : Int) (s35_ : (Int × (List Ref_mean))) : Option (Step (Int × (List Ref_mean)) (List Ref_mean)) :=
 bif decide (j_25 < s35_.1) then (
  need (inR s35_.2 (W (s35_.1 - 1))) <|
  bnd (gx s35_.2 (W (s35_.1 - 1))) fun v3 =>
  need (inR s35_.2 s35_.1) <|
  bnd (gx s35_.2 s35_.1) fun v4 =>
  need (inR s35_.2 s35_.1) <|
  need (inR (s35_.2.set s35_.1.toNat v3) (W (s35_.1 - 1))) <|
  bnd ((s35_.2.set s35_.1.toNat v3).set (W (s35_.1 - 1)).toNat v4) fun data3 =>
  bnd (W (s35_.1 - 1)) fun k2 =>
  some (Step.again (k2, data3)))
 else (
  some (Step.done s35_.2))

noncomputable def slices_symMergeCmpFunc_mean_L5 (x : ((List Ref_mean) × Int × Int × Int × (Ref_mean → Ref_mean → Option Int))) (n1 : Int) (s51_ : (Int × Int)) : Option (Step (Int × Int) Int) :=
 bif decide (s51_.1 < s51_.2) then (
  bnd (W ((KI.of .u64 (W (s51_.1 + s51_.2))).shr 1).n) fun c1 =>
  need (inR x.1 (W ((W (n1 - 1)) - c1))) <|
  need (inR x.1 c1) <|
  Option.bind (x.2.2.2.2 (gx x.1 (W ((W (n1 - 1)) - c1))) (gx x.1 c1)) fun r3 =>
  bif !(decide (r3 < 0)) then (
   bnd (W (c1 + 1)) fun start2 =>
   some (Step.again (start2, s51_.2)))
  else (
   some (Step.again (s51_.1, c1))))
 else (
  some (Step.done s51_.1))

/-- slices.symMergeCmpFunc[drawref1.mean] -/
noncomputable def slices_symMergeCmpFunc_mean_body (self : ((List Ref_mean) × Int × Int × Int × (Ref_mean → Ref_mean → Option Int)) → Option (List Ref_mean)) (x : ((List Ref_mean) × Int × Int × Int × (Ref_mean → Ref_mean → Option Int))) : Option (List Ref_mean) :=
 bindR (σ := Unit) (ρ := (List Ref_mean)) (
  bif decide ((W (x.2.2.1 - x.2.1)) = 1) then (
   Option.bind (α := Int) (
    loop (slices_symMergeCmpFunc_mean_L1 x) (x.2.2.1, x.2.2.2.1)) fun j_3 =>
   Option.bind (α := (List Ref_mean)) (
    loop (slices_symMergeCmpFunc_mean_L2 j_3) (x.2.1, x.1)) fun j_12 =>
   some (Res.ab j_12))
  else (
   some (Res.nx ()))) fun j_1 =>
 bindR (σ := Unit) (ρ := (List Ref_mean)) (
  bif decide ((W (x.2.2.2.1 - x.2.2.1)) = 1) then (
   Option.bind (α := Int) (
    loop (slices_symMergeCmpFunc_mean_L3 x) (x.2.1, x.2.2.1)) fun j_25 =>
   Option.bind (α := (List Ref_mean)) (
    loop (slices_symMergeCmpFunc_mean_L4 j_25) (x.2.2.1, x.1)) fun j_34 =>
   some (Res.ab j_34))
  else (
   some (Res.nx ()))) fun j_23 =>
 bnd (W ((KI.of .u64 (W (x.2.1 + x.2.2.2.1))).shr 1).n) fun mid1 =>
 bnd (W (mid1 + x.2.2.1)) fun n1 =>
 Option.bind (α := (Int × Int)) (
  bif decide (mid1 < x.2.2.1) then (
   bnd (W (n1 - x.2.2.2.1)) fun start1 =>
   some (start1, mid1))
  else (
   some (x.2.1, x.2.2.1))) fun j_47 =>
 Option.bind (α := Int) (
  loop (slices_symMergeCmpFunc_mean_L5 x n1) (j_47.1, j_47.2)) fun j_50 =>
 bnd (W (n1 - j_50)) fun end1 =>
 Option.bind (α := (List Ref_mean)) (
  bif (decide (j_50 < x.2.2.1)) && (decide (x.2.2.1 < end1)) then (
   Option.bind (slices_rotateCmpFunc_mean x.1 j_50 x.2.2.1 end1 x.2.2.2.2) fun r4 =>
   some r4)
  else (
   some x.1)) fun j_60 =>
 Option.bind (α := (List Ref_mean)) (
  bif (decide (x.2.1 < j_50)) && (decide (j_50 < mid1)) then (
   Option.bind (self (j_60, x.2.1, j_50, mid1, x.2.2.2.2)) fun r5 =>
   some r5)
  else (
   some j_60)) fun j_63 =>
 bif (decide (mid1 < end1)) && (decide (end1 < x.2.2.2.1)) then (
  Option.bind (self (j_63, mid1, end1, x.2.2.2.1, x.2.2.2.2)) fun r6 =>
  some r6)
 else (
  some j_63)

noncomputable def slices_symMergeCmpFunc_mean (data1 : (List Ref_mean)) (a1 : Int) (m1 : Int) (b1 : Int) (cmp1 : (Ref_mean → Ref_mean → Option Int)) : Option (List Ref_mean) := fixp slices_symMergeCmpFunc_mean_body (data1, a1, m1, b1, cmp1)

noncomputable def slices_stableCmpFunc_mean_L1 (n1 : Int) (cmp1 : (Ref_mean → Ref_mean → Option Int)) (s2_ : (Int × Int × (List Ref_mean))) : Option (Step (Int × Int × (List Ref_mean)) (Int × (List Ref_mean))) :=
 bif decide (s2_.2.1 ≤ n1) then (
  Option.bind (slices_insertionSortCmpFunc_mean s2_.2.2 s2_.1 s2_.2.1 cmp1) fun r1 =>
  bnd (W (s2_.2.1 + 20)) fun b1 =>
  some (Step.again (s2_.2.1, b1, r1)))
 else (
  some (Step.done (s2_.1, s2_.2.2)))

noncomputable def slices_stableCmpFunc_mean_L3 (n1 : Int) (s7_ : (Int × (List Ref_mean))) (cmp1 : (Ref_mean → Ref_mean → Option Int)) (s11_ : (Int × Int × (List Ref_mean))) : Option (Step (Int × Int × (List Ref_mean)) (Int × (List Ref_mean))) :=
 bif decide (s11_.2.1 ≤ n1) then (
  Option.bind (slices_symMergeCmpFunc_mean s11_.2.2 s11_.1 (W (s11_.1 + s7_.1)) s11_.2.1 cmp1) fun r3 =>
  bnd (W (s11_.2.1 + (W (2 * s7_.1)))) fun b3 =>
  some (Step.again (s11_.2.1, b3, r3)))
 else (
  some (Step.done (s11_.1, s11_.2.2)))

noncomputable def slices_stableCmpFunc_mean_L2 (n1 : Int) (cmp1 : (Ref_mean → Ref_mean → Option Int)) (s7_ : (Int × (List Ref_mean))) : Option (Step (Int × (List Ref_mean)) (List Ref_mean)) :=
 bif decide (s7_.1 < n1) then (
  bnd (W (2 * s7_.1)) fun b2 =>
  Option.bind (α := (Int × (List Ref_mean))) (
   loop (slices_stableCmpFunc_mean_L3 n1 s7_ cmp1) (0, b2, s7_.2)) fun j_10 =>
  bnd (W (j_10.1 + s7_.1)) fun m1 =>
  Option.bind (α := (List Ref_mean)) (
   bif decide (m1 < n1) then (
    Option.bind (slices_symMergeCmpFunc_mean j_10.2 j_10.1 m1 n1 cmp1) fun r4 =>
    some r4)
   else (
    some j_10.2)) fun j_16 =>
  bnd (W (s7_.1 * 2)) fun blockSize1 =>
  some (Step.again (blockSize1, j_16)))
 else (
  some (Step.done s7_.2))

/-- slices.stableCmpFunc[drawref1.mean] -/
noncomputable def slices_stableCmpFunc_mean (data1 : (List Ref_mean)) (n1 : Int) (cmp1 : (Ref_mean → Ref_mean → Option Int)) : Option (List Ref_mean) :=
 Option.bind (α := (Int × (List Ref_mean))) (
  loop (slices_stableCmpFunc_mean_L1 n1 cmp1) (0, 20, data1)) fun j_1 =>
 Option.bind (slices_insertionSortCmpFunc_mean j_1.2 j_1.1 n1 cmp1) fun r2 =>
 loop (slices_stableCmpFunc_mean_L2 n1 cmp1) (20, r2)

/-- slices.SortStableFunc[[]drawref1.mean,drawref1.mean] -/
noncomputable def slices_SortStableFunc_mean (x1 : (List Ref_mean)) (cmp1 : (Ref_mean → Ref_mean → Option Int)) : Option (List Ref_mean) :=
 Option.bind (slices_stableCmpFunc_mean x1 (x1.length : Int) cmp1) fun r1 =>
 some r1

/-- drawref1.SweepOf$3$1 -/
noncomputable def ref_SweepOf_3_1 (a1 : Ref_mean) (b1 : Ref_mean) : Option Int :=
 Option.bind (cmp_Compare_int (W (a1.num * b1.den)) (W (b1.num * a1.den))) fun r1 =>
 some r1

noncomputable def ref_SweepOf_3_L2 (i1 : Int) (n1 : Int) (c0_1 : (List (List Int))) (c1_1 : (List Link)) (other1 : Int) (i : Int) (s : (Int × Int)) : Option (Int × Int) :=
 need (inR c1_1 i) <|
 bnd (gx c1_1 i) fun v2 =>
 Option.bind (α := Int) (
  bif (decide (v2.To = n1)) && (decide (other1 < i1)) then (
   need (inR c0_1 other1) <|
   need (other1 ≠ i1) <|
   need (inR c0_1 other1) <|
   Option.bind (slices_Index_int (gx c0_1 other1) v2.From) fun far1 =>
   some far1)
  else (
   bif (decide (v2.From = n1)) && (decide (i1 < other1)) then (
    need (inR c0_1 other1) <|
    need (other1 ≠ i1) <|
    need (inR c0_1 other1) <|
    Option.bind (slices_Index_int (gx c0_1 other1) v2.To) fun far2 =>
    some far2)
   else (
    some (-1)))) fun j_17 =>
 bif decide (0 ≤ j_17) then (
  bnd (W (s.1 + j_17)) fun sum1 =>
  bnd (W (s.2 + 1)) fun many1 =>
  some (sum1, many1))
 else (
  some (s.1, s.2))

noncomputable def ref_SweepOf_3_L1 (c1 : (List Int)) (i1 : Int) (c0_1 : (List (List Int))) (c1_1 : (List Link)) (other1 : Int) (i : Int) (s : (List Ref_mean)) : Option (List Ref_mean) :=
 need (inR c1 i) <|
 bnd (gx c1 i) fun n1 =>
 bnd ((⟨n1, i, 1⟩ : Ref_mean)) fun v1 =>
 Option.bind (α := (Int × Int)) (
  rfor (c1_1.length : Int) (ref_SweepOf_3_L2 i1 n1 c0_1 c1_1 other1) (0, 0)) fun j_11 =>
 Option.bind (α := Ref_mean) (
  bif decide (0 < j_11.2) then (
   some ({ { v1 with num := j_11.1 } with den := j_11.2 }))
  else (
   some v1)) fun j_31 =>
 need (room (s.length + [j_31].length)) <|
 some (s ++ [j_31])

noncomputable def ref_SweepOf_3_L3 (i1 : Int) (r1 : (List Ref_mean)) (i : Int) (s : (List (List Int))) : Option (List (List Int)) :=
 need (inR r1 i) <|
 bnd (gx r1 i) fun v3 =>
 need (inR s i1) <|
 need (inR s i1) <|
 need (inR (gx s i1) i) <|
 some (s.set i1.toNat ((gx s i1).set i.toNat v3.node))

/-- drawref1.SweepOf$3 -/
noncomputable def ref_SweepOf_3 (i1 : Int) (other1 : Int) (c0_1 : (List (List Int))) (c1_1 : (List Link)) : Option (List (List Int)) :=
 need (inR c0_1 i1) <|
 need (inR c0_1 i1) <|
 bnd (gx c0_1 i1) fun c1 =>
 Option.bind (α := (List Ref_mean)) (
  rfor ((gx c0_1 i1).length : Int) (ref_SweepOf_3_L1 c1 i1 c0_1 c1_1 other1) ([] : List Ref_mean)) fun j_4 =>
 bnd (c0_1.set i1.toNat c1) fun c2 =>
 Option.bind (slices_SortStableFunc_mean j_4 ref_SweepOf_3_1) fun r1 =>
 Option.bind (α := (List (List Int))) (
  rfor (r1.length : Int) (ref_SweepOf_3_L3 i1 r1) c2) fun j_36 =>
 some j_36

/-- drawref1.SweepOf$2 -/
noncomputable def ref_SweepOf_2 (c0_1 : (List (List Int))) (c1_1 : (List Link)) (c2_1 : Int) (c4_1 : (List (List Int))) : Option ((List (List Int)) × Int × (List (List Int))) :=
 Option.bind (ref_allCrossings c0_1 c1_1) fun n1 =>
 bif decide (n1 < c2_1) then (
  Option.bind (ref_SweepOf_1 c0_1) fun r1 =>
  some (c0_1, n1, r1))
 else (
  some (c0_1, c2_1, c4_1))

noncomputable def ref_SweepOf_L2 (l1 : (List Link)) (s9_ : (Int × (List (List Int)))) : Option (Step (Int × (List (List Int))) (List (List Int))) :=
 bif decide (s9_.1 < (s9_.2.length : Int)) then (
  Option.bind (ref_SweepOf_3 s9_.1 (W (s9_.1 - 1)) s9_.2 l1) fun r4 =>
  bnd (W (s9_.1 + 1)) fun i1 =>
  some (Step.again (i1, r4)))
 else (
  some (Step.done s9_.2))

noncomputable def ref_SweepOf_L3 (l1 : (List Link)) (s16_ : (Int × (List (List Int)))) : Option (Step (Int × (List (List Int))) (List (List Int))) :=
 bif decide (0 ≤ s16_.1) then (
  Option.bind (ref_SweepOf_3 s16_.1 (W (s16_.1 + 1)) s16_.2 l1) fun r6 =>
  bnd (W (s16_.1 - 1)) fun i3 =>
  some (Step.again (i3, r6)))
 else (
  some (Step.done s16_.2))

noncomputable def ref_SweepOf_L1 (l1 : (List Link)) (i : Int) (s : ((List (List Int)) × (List (List Int)) × Int)) : Option ((List (List Int)) × (List (List Int)) × Int) :=
 Option.bind (α := (List (List Int))) (
  loop (ref_SweepOf_L2 l1) (1, s.1)) fun j_8 =>
 Option.bind (ref_SweepOf_2 j_8 l1 s.2.2 s.2.1) fun r5 =>
 bnd (W ((r5.1.length : Int) - 2)) fun i2 =>
 Option.bind (α := (List (List Int))) (
  loop (ref_SweepOf_L3 l1) (i2, r5.1)) fun j_15 =>
 Option.bind (ref_SweepOf_2 j_15 l1 r5.2.1 r5.2.2) fun r7 =>
 some (r7.1, r7.2.2, r7.2.1)

/-- drawref1.SweepOf -/
noncomputable def ref_SweepOf (rows1 : (List (List Int))) (l1 : (List Link)) (rounds1 : Int) : Option ((List (List Int)) × Int) :=
 Option.bind (ref_SweepOf_1 rows1) fun r1 =>
 Option.bind (ref_SweepOf_1 r1) fun r2 =>
 Option.bind (ref_allCrossings r1 l1) fun r3 =>
 Option.bind (α := ((List (List Int)) × (List (List Int)) × Int)) (
  rfor rounds1 (ref_SweepOf_L1 l1) (r1, r2, r3)) fun j_4 =>
 some (j_4.2.1, j_4.2.2)

noncomputable def slices_EqualFunc_Lint_L1 (eq1 : ((List Int) → (List Int) → Option Bool)) (s1_1 : (List (List Int))) (s2_1 : (List (List Int))) (i : Int) (s : Unit) : Option (Res Unit (Res Unit Bool)) :=
 need (inR s1_1 i) <|
 need (inR s2_1 i) <|
 Option.bind (eq1 (gx s1_1 i) (gx s2_1 i)) fun r1 =>
 bif !r1 then (
  some (Res.ab (Res.ab false)))
 else (
  some (Res.nx ()))

/-- slices.EqualFunc[[][]int,[][]int,[]int,[]int] -/
noncomputable def slices_EqualFunc_Lint (s1_1 : (List (List Int))) (s2_1 : (List (List Int))) (eq1 : ((List Int) → (List Int) → Option Bool)) : Option Bool :=
 bif !decide ((s1_1.length : Int) = (s2_1.length : Int)) then (
  some false)
 else (
  bindR (σ := Unit) (ρ := Bool) (
   rforE (s1_1.length : Int) (slices_EqualFunc_Lint_L1 eq1 s1_1 s2_1) (fun s => Res.nx s) ()) fun j_2 =>
  some true)

noncomputable def slices_Equal_int_L1 (s1_1 : (List Int)) (s2_1 : (List Int)) (i : Int) (s : Unit) : Option (Res Unit (Res Unit Bool)) :=
 need (inR s1_1 i) <|
 need (inR s2_1 i) <|
 bif !decide ((gx s1_1 i) = (gx s2_1 i)) then (
  some (Res.ab (Res.ab false)))
 else (
  some (Res.nx ()))

/-- slices.Equal[[]int,int] -/
noncomputable def slices_Equal_int (s1_1 : (List Int)) (s2_1 : (List Int)) : Option Bool :=
 bif !decide ((s1_1.length : Int) = (s2_1.length : Int)) then (
  some false)
 else (
  bindR (σ := Unit) (ρ := Bool) (
   rforE (s1_1.length : Int) (slices_Equal_int_L1 s1_1 s2_1) (fun s => Res.nx s) ()) fun j_2 =>
  some true)

/-- drawlaw1.SweepsMatch$1 -/
noncomputable def law_SweepsMatch_1 (a1 : (List Int)) (b1 : (List Int)) : Option Bool :=
 Option.bind (slices_Equal_int a1 b1) fun r1 =>
 some r1

/-- drawlaw1.SweepsMatch -/
noncomputable def law_SweepsMatch (rows1 : (List (List Int))) (l1 : (List Link)) (rounds1 : Int) : Option Bool :=
 Option.bind (layer_Sweep rows1 l1 rounds1) fun r1 =>
 Option.bind (ref_SweepError rows1 l1 rounds1) fun want1 =>
 Option.bind (law_layers) fun r2 =>
 bif (!r2) || (!decide (want1 = 0)) then (
  Option.bind (law_layers) fun r3 =>
  some (((r3 && (decide ((r1.1.length : Int) = 0))) && (decide (r1.2.1 = 0))) && (decide (r1.2.2 = want1))))
 else (
  bif (decide (5 < rounds1)) || (decide (60 < (l1.length : Int))) then (
   some (decide (r1.2.2 = 0)))
  else (
   Option.bind (ref_SweepOf rows1 l1 rounds1) fun r4 =>
   Option.bind (gd (((decide (r1.2.2 = 0)) && (decide (r1.2.1 = r4.2)))) (slices_EqualFunc_Lint r1.1 r4.1 law_SweepsMatch_1)) fun r5 =>
   some (((decide (r1.2.2 = 0)) && (decide (r1.2.1 = r4.2))) && r5)))


end Go.DB
