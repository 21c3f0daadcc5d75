/-
  What the functions compute, as plain functions (printed by a program of one's own).
-/
import Derived.Test.YtbahnfkccdlpnaaOrdTy
set_option maxRecDepth 100000
set_option linter.unusedSimpArgs false
set_option linter.unusedVariables false
namespace Go.DB
open Go Go.RowKit

/-- slices.Sort[[]int,int] -/
noncomputable def slices_Sort_int (l : List Int) : Option (List Int) := need ((l.length : Int) < 4611686018427387904) (some (sortI l))

/-- slices.Values[[]int,int] -/
noncomputable def slices_Values_int (l : List Int) : Option SeqI := some ⟨l⟩

/-- slices.Sorted[int] -/
noncomputable def slices_Sorted_int (x : SeqI) : Option (List Int) := need (x.l.length ≤ 1073741824) (some (sortI x.l))

noncomputable def slices_Index_int_L1 (s1 : (List Int)) (v1 : Int) (i : Int) (s : Unit) : Option (Res Unit (Res Unit Int)) :=
  need (inR s1 i) <|
  bif decide (v1 = (gx s1 i)) then (
    some (Res.ab (Res.ab i)))
  else (
    some (Res.nx ()))

/-- slices.Index[[]int,int] -/
noncomputable def slices_Index_int (s1 : (List Int)) (v1 : Int) : Option Int :=
  bindR (σ := Unit) (ρ := Int) (
    rforE (s1.length : Int) (slices_Index_int_L1 s1 v1) (fun s => Res.nx s) ()) fun j_1 =>
  some (-1)

/-- slices.Contains[[]int,int] -/
noncomputable def slices_Contains_int (s1 : (List Int)) (v1 : Int) : Option Bool :=
  Option.bind (slices_Index_int s1 v1) fun r1 =>
  some (decide (0 ≤ r1))

/-- drawref1.CrossError$1 -/
noncomputable def ref_CrossError_1 (n1 : Int) (c0_1 : (List Int)) : Option Bool :=
  Option.bind (slices_Contains_int c0_1 n1) fun r1 =>
  some r1

noncomputable def slices_IndexFunc_int_L1 (f1 : (Int → Option Bool)) (s1 : (List Int)) (i : Int) (s : Unit) : Option (Res Unit (Res Unit Int)) :=
  need (inR s1 i) <|
  Option.bind (f1 (gx s1 i)) fun r1 =>
  bif r1 then (
    some (Res.ab (Res.ab i)))
  else (
    some (Res.nx ()))

/-- slices.IndexFunc[[]int,int] -/
noncomputable def slices_IndexFunc_int (s1 : (List Int)) (f1 : (Int → Option Bool)) : Option Int :=
  bindR (σ := Unit) (ρ := Int) (
    rforE (s1.length : Int) (slices_IndexFunc_int_L1 f1 s1) (fun s => Res.nx s) ()) fun j_1 =>
  some (-1)

/-- slices.ContainsFunc[[]int,int] -/
noncomputable def slices_ContainsFunc_int (s1 : (List Int)) (f1 : (Int → Option Bool)) : Option Bool :=
  Option.bind (slices_IndexFunc_int s1 f1) fun r1 =>
  some (decide (0 ≤ r1))

/-- drawref1.In -/
noncomputable def ref_In (n1 : Int) (low1 : Int) (high1 : Int) : Option Bool :=
  some ((decide (low1 ≤ n1)) && (decide (n1 ≤ high1)))

/-- drawref1.When -/
noncomputable def ref_When (is1 : Bool) (e1 : Int) : Option Int :=
  bif is1 then (
    some e1)
  else (
    some 0)

noncomputable def ref_First_L1 (l1 : (List Int)) (i : Int) (s : Unit) : Option (Res Unit (Res Unit Int)) :=
  need (inR l1 i) <|
  bnd (gx l1 i) fun e1 =>
  bif !decide (e1 = 0) then (
    some (Res.ab (Res.ab e1)))
  else (
    some (Res.nx ()))

/-- drawref1.First -/
noncomputable def ref_First (l1 : (List Int)) : Option Int :=
  bindR (σ := Unit) (ρ := Int) (
    rforE (l1.length : Int) (ref_First_L1 l1) (fun s => Res.nx s) ()) fun j_1 =>
  some 0

noncomputable def ref_RowError_L1 (row1 : (List Int)) (i : Int) (s : Unit) : Option (Res Unit (Res Unit Int)) :=
  need (inR row1 i) <|
  bnd (gx row1 i) fun n1 =>
  Option.bind (ref_In n1 0 59) fun r1 =>
  Option.bind (ref_When (!r1) 3) fun r2 =>
  need (segR row1.length 0 i) <|
  Option.bind (slices_Contains_int (seg row1 0 i) n1) fun r3 =>
  Option.bind (ref_When r3 6) fun r4 =>
  Option.bind (ref_First [r2, r4]) fun e1 =>
  bif !decide (e1 = 0) then (
    some (Res.ab (Res.ab e1)))
  else (
    some (Res.nx ()))

/-- drawref1.RowError -/
noncomputable def ref_RowError (row1 : (List Int)) : Option Int :=
  bif decide (60 < (row1.length : Int)) then (
    some 4)
  else (
    bindR (σ := Unit) (ρ := Int) (
      rforE (row1.length : Int) (ref_RowError_L1 row1) (fun s => Res.nx s) ()) fun j_2 =>
    some 0)

noncomputable def ref_CrossError_L1 (l1 : (List Link)) (lower1 : (List Int)) (upper1 : (List Int)) (i : Int) (s : Unit) : Option (Res Unit (Res Unit Int)) :=
  need (inR l1 i) <|
  bnd (gx l1 i) fun v1 =>
  Option.bind (slices_Contains_int upper1 v1.From) fun r5 =>
  Option.bind (gd (!(!r5)) (slices_Contains_int lower1 v1.To)) fun r6 =>
  bif (!r5) || (!r6) then (
    some (Res.ab (Res.ab 10)))
  else (
    some (Res.nx ()))

/-- drawref1.CrossError -/
noncomputable def ref_CrossError (upper1 : (List Int)) (lower1 : (List Int)) (l1 : (List Link)) : Option Int :=
  Option.bind (slices_ContainsFunc_int lower1 (fun x0 => ref_CrossError_1 x0 upper1)) fun twice1 =>
  Option.bind (ref_RowError upper1) fun r1 =>
  Option.bind (ref_RowError lower1) fun r2 =>
  Option.bind (ref_When twice1 6) fun r3 =>
  Option.bind (ref_When (decide (200 < (l1.length : Int))) 4) fun r4 =>
  Option.bind (ref_First [r1, r2, r3, r4]) fun e1 =>
  bif !decide (e1 = 0) then (
    some e1)
  else (
    bindR (σ := Unit) (ρ := Int) (
      rforE (l1.length : Int) (ref_CrossError_L1 l1 lower1 upper1) (fun s => Res.nx s) ()) fun j_8 =>
    some 0)

noncomputable def layer_checkRow_L1 (row1 : (List Int)) (i : Int) (s : (GMap Int Bool)) : Option (Res (GMap Int Bool) (Res (GMap Int Bool) Int)) :=
  need (inR row1 i) <|
  bnd (gx row1 i) fun k1 =>
  bif (decide (k1 < 0)) || (decide (60 ≤ k1)) then (
    some (Res.ab (Res.ab 3)))
  else (
    bif s.getD k1 false then (
      some (Res.ab (Res.ab 6)))
    else (
      some (Res.nx (s.set k1 true))))

/-- layer.checkRow -/
noncomputable def layer_checkRow (row1 : (List Int)) : Option Int :=
  bif decide (60 < (row1.length : Int)) then (
    some 4)
  else (
    bnd ((GMap.nil : (GMap Int Bool))) fun known1 =>
    bindR (σ := (GMap Int Bool)) (ρ := Int) (
      rforE (row1.length : Int) (layer_checkRow_L1 row1) (fun s => Res.nx s) known1) fun j_3 =>
    some 0)

noncomputable def layer_places_L1 (row1 : (List Int)) (i : Int) (s : (GMap Int Int)) : Option (GMap Int Int) :=
  need (inR row1 i) <|
  some (s.set (gx row1 i) i)

/-- layer.places -/
noncomputable def layer_places (row1 : (List Int)) : Option (GMap Int Int) :=
  bnd ((GMap.nil : (GMap Int Int))) fun out1 =>
  Option.bind (α := (GMap Int Int)) (
    rfor (row1.length : Int) (layer_places_L1 row1) out1) fun j_2 =>
  some j_2

noncomputable def layer_checkPair_L1 (v1 : (List (List Int))) (i : Int) (s : Unit) : Option (Res Unit (Res Unit Int)) :=
  need (inR v1 i) <|
  Option.bind (layer_checkRow (gx v1 i)) fun e1 =>
  bif !decide (e1 = 0) then (
    some (Res.ab (Res.ab e1)))
  else (
    some (Res.nx ()))

noncomputable def layer_checkPair_L2 (up1 : (GMap Int Int)) (lower1 : (List Int)) (i : Int) (s : Unit) : Option (Res Unit (Res Unit Int)) :=
  need (inR lower1 i) <|
  bif up1.has (gx lower1 i) then (
    some (Res.ab (Res.ab 6)))
  else (
    some (Res.nx ()))

noncomputable def layer_checkPair_L3 (l1 : (List Link)) (up1 : (GMap Int Int)) (low1 : (GMap Int Int)) (i : Int) (s : Unit) : Option (Res Unit (Res Unit Int)) :=
  need (inR l1 i) <|
  bnd (gx l1 i) fun v2 =>
  bif (!(up1.has v2.From)) || (!(low1.has v2.To)) then (
    some (Res.ab (Res.ab 10)))
  else (
    some (Res.nx ()))

/-- layer.checkPair -/
noncomputable def layer_checkPair (upper1 : (List Int)) (lower1 : (List Int)) (l1 : (List Link)) : Option Int :=
  bnd ([upper1, lower1]) fun v1 =>
  bindR (σ := Unit) (ρ := Int) (
    rforE (v1.length : Int) (layer_checkPair_L1 v1) (fun s => Res.nx s) ()) fun j_2 =>
  Option.bind (layer_places upper1) fun up1 =>
  Option.bind (layer_places lower1) fun low1 =>
  bindR (σ := Unit) (ρ := Int) (
    rforE (lower1.length : Int) (layer_checkPair_L2 up1 lower1) (fun s => Res.nx s) ()) fun j_11 =>
  bif decide (200 < (l1.length : Int)) then (
    some 4)
  else (
    bindR (σ := Unit) (ρ := Int) (
      rforE (l1.length : Int) (layer_checkPair_L3 l1 up1 low1) (fun s => Res.nx s) ()) fun j_18 =>
    some 0)

noncomputable def layer_crossings_L2 (v1 : Link) (v2 : (List Link)) (up1 : (GMap Int Int)) (low1 : (GMap Int Int)) (i : Int) (s : Int) : Option Int :=
  need (inR v2 i) <|
  bnd (gx v2 i) fun v3 =>
  bif decide ((W ((W ((up1.getD v1.From (0 : Int)) - (up1.getD v3.From (0 : Int)))) * (W ((low1.getD v1.To (0 : Int)) - (low1.getD v3.To (0 : Int)))))) < 0) then (
    bnd (W (s + 1)) fun n1 =>
    some n1)
  else (
    some s)

noncomputable def layer_crossings_L1 (l1 : (List Link)) (up1 : (GMap Int Int)) (low1 : (GMap Int Int)) (i : Int) (s : Int) : Option Int :=
  need (inR l1 i) <|
  bnd (gx l1 i) fun v1 =>
  need (segR l1.length 0 i) <|
  bnd (seg l1 0 i) fun v2 =>
  rfor (v2.length : Int) (layer_crossings_L2 v1 v2 up1 low1) s

/-- layer.crossings -/
noncomputable def layer_crossings (upper1 : (List Int)) (lower1 : (List Int)) (l1 : (List Link)) : Option Int :=
  Option.bind (layer_places upper1) fun up1 =>
  Option.bind (layer_places lower1) fun low1 =>
  Option.bind (α := Int) (
    rfor (l1.length : Int) (layer_crossings_L1 l1 up1 low1) 0) fun j_3 =>
  some j_3

/-- layer.Crossings -/
noncomputable def layer_Crossings (upper1 : (List Int)) (lower1 : (List Int)) (l1 : (List Link)) : Option (Int × Int) :=
  Option.bind (layer_checkPair upper1 lower1 l1) fun e1 =>
  bif !decide (e1 = 0) then (
    some (0, e1))
  else (
    Option.bind (layer_crossings upper1 lower1 l1) fun r1 =>
    some (r1, 0))

/-- layer.Check$1 -/
noncomputable def layer_Check_1 (k1 : Int) (c0_1 : Int) : Option Bool :=
  some ((decide (0 ≤ k1)) && (decide (k1 < c0_1)))

noncomputable def layer_Check_L1 (l1 : (List Link)) (n1 : Int) (i : Int) (s : Unit) : Option (Res Unit (Res Unit Int)) :=
  need (inR l1 i) <|
  bnd (gx l1 i) fun v1 =>
  Option.bind ((fun x0 => layer_Check_1 x0 n1) v1.From) fun r1 =>
  Option.bind (gd (!(!r1)) ((fun x0 => layer_Check_1 x0 n1) v1.To)) fun r2 =>
  bif (!r1) || (!r2) then (
    some (Res.ab (Res.ab 10)))
  else (
    bif decide (v1.From = v1.To) then (
      some (Res.ab (Res.ab 2)))
    else (
      some (Res.nx ())))

/-- layer.Check -/
noncomputable def layer_Check (n1 : Int) (l1 : (List Link)) : Option Int :=
  bif (decide (n1 < 1)) || (decide (60 < n1)) then (
    some 3)
  else (
    bif decide (200 < (l1.length : Int)) then (
      some 4)
    else (
      bindR (σ := Unit) (ρ := Int) (
        rforE (l1.length : Int) (layer_Check_L1 l1 n1) (fun s => Res.nx s) ()) fun j_3 =>
      some 0))

/-- drawlaw1.layers -/
noncomputable def law_layers  : Option Bool :=
  Option.bind (layer_Check 1 ([] : (List Link))) fun r1 =>
  Option.bind (gd ((decide (r1 = 0))) (layer_Check 0 ([] : (List Link)))) fun r2 =>
  some ((decide (r1 = 0)) && (decide (r2 = 3)))

/-- drawref1.Sign -/
noncomputable def ref_Sign (n1 : Int) : Option Int :=
  some (min (max n1 (-1)) 1)

noncomputable def ref_CrossingsOf_L2 (v1 : Link) (v2 : (List Link)) (lower1 : (List Int)) (upper1 : (List Int)) (i : Int) (s : Int) : Option Int :=
  need (inR v2 i) <|
  bnd (gx v2 i) fun v3 =>
  Option.bind (slices_Index_int upper1 v1.From) fun r1 =>
  Option.bind (slices_Index_int upper1 v3.From) fun r2 =>
  Option.bind (slices_Index_int lower1 v1.To) fun r3 =>
  Option.bind (slices_Index_int lower1 v3.To) fun r4 =>
  Option.bind (ref_Sign (W (r1 - r2))) fun r5 =>
  Option.bind (ref_Sign (W (r3 - r4))) fun r6 =>
  bif decide ((W (r5 * r6)) < 0) then (
    bnd (W (s + 1)) fun n1 =>
    some n1)
  else (
    some s)

noncomputable def ref_CrossingsOf_L1 (l1 : (List Link)) (lower1 : (List Int)) (upper1 : (List Int)) (i : Int) (s : Int) : Option Int :=
  need (inR l1 i) <|
  bnd (gx l1 i) fun v1 =>
  need (segR l1.length 0 i) <|
  bnd (seg l1 0 i) fun v2 =>
  rfor (v2.length : Int) (ref_CrossingsOf_L2 v1 v2 lower1 upper1) s

/-- drawref1.CrossingsOf -/
noncomputable def ref_CrossingsOf (upper1 : (List Int)) (lower1 : (List Int)) (l1 : (List Link)) : Option Int :=
  Option.bind (α := Int) (
    rfor (l1.length : Int) (ref_CrossingsOf_L1 l1 lower1 upper1) 0) fun j_1 =>
  some j_1

/-- drawlaw1.OrdersMatch$1 -/
noncomputable def law_OrdersMatch_1 (c0_1 : (List Int)) (c1_1 : (List Int)) (c2_1 : (List Link)) : Option Int :=
  Option.bind (ref_CrossingsOf c0_1 c1_1 c2_1) fun r1 =>
  some r1

/-- drawlaw1.is[int] -/
noncomputable def law_is_int (got1 : Int) (e1 : Int) (want1 : Int) (right1 : (Option Int)) : Option Bool :=
  bif !decide (want1 = 0) then (
    some ((decide (got1 = 0)) && (decide (e1 = want1))))
  else (
    Option.bind (gd ((decide (e1 = 0))) (right1)) fun r1 =>
    some ((decide (e1 = 0)) && (decide (got1 = r1))))

noncomputable def layer_Best_1_L1 (k1 : Int) (c2_1 : (List (List Int))) (rest1 : Int) (i : Int) (s : Int) : Option Int :=
  need (0 ≤ i) <|
  bif decide ((iand (ishr rest1 i) 1) = 1) then (
    need (inR c2_1 k1) <|
    need (inR c2_1 k1) <|
    need (inR (gx c2_1 k1) i) <|
    bnd (W (s + (gx (gx c2_1 k1) i))) fun n2 =>
    some n2)
  else (
    some s)

/-- layer.Best$1 -/
noncomputable def layer_Best_1 (set1 : Int) (k1 : Int) (c0_1 : (List Int)) (c1_1 : Int) (c2_1 : (List (List Int))) : Option (Int × (List Int) × (List (List Int))) :=
  need (0 ≤ k1) <|
  bnd (iandn set1 (ishl 1 k1)) fun rest1 =>
  need (inR c0_1 rest1) <|
  bnd (gx c0_1 rest1) fun n1 =>
  Option.bind (α := Int) (
    rfor c1_1 (layer_Best_1_L1 k1 c2_1 rest1) n1) fun j_5 =>
  some (j_5, c0_1, c2_1)

noncomputable def layer_Best_L1 (v1 : Int) (i : Int) (s : (List (List Int))) : Option (List (List Int)) :=
  need (0 ≤ v1 ∧ v1 ≤ v1 ∧ v1 ≤ 1073741824) <|
  need (inR s i) <|
  some (s.set i.toNat (List.replicate v1.toNat (0 : Int)))

noncomputable def layer_Best_L3 (l1 : (List Link)) (v2 : Link) (at1 : (GMap Int Int)) (up1 : (GMap Int Int)) (i : Int) (s : (List (List Int))) : Option (List (List Int)) :=
  need (inR l1 i) <|
  bnd (gx l1 i) fun v3 =>
  bif decide ((up1.getD v3.From (0 : Int)) < (up1.getD v2.From (0 : Int))) then (
    need (inR s (at1.getD v2.To (0 : Int))) <|
    need (inR s (at1.getD v2.To (0 : Int))) <|
    bnd (at1.getD v3.To (0 : Int)) fun v4 =>
    need (inR (gx s (at1.getD v2.To (0 : Int))) v4) <|
    bnd (W ((gx (gx s (at1.getD v2.To (0 : Int))) v4) + 1)) fun v5 =>
    need (inR (gx s (at1.getD v2.To (0 : Int))) v4) <|
    some (s.set (at1.getD v2.To (0 : Int)).toNat ((gx s (at1.getD v2.To (0 : Int))).set v4.toNat v5)))
  else (
    some s)

noncomputable def layer_Best_L2 (l1 : (List Link)) (at1 : (GMap Int Int)) (up1 : (GMap Int Int)) (i : Int) (s : (List (List Int))) : Option (List (List Int)) :=
  need (inR l1 i) <|
  bnd (gx l1 i) fun v2 =>
  rfor (l1.length : Int) (layer_Best_L3 l1 v2 at1 up1) s

noncomputable def layer_Best_L5 (v1 : Int) (s44_ : (Int × (List (List Int)) × (List Int) × (List Int))) (i : Int) (s : ((List (List Int)) × (List Int) × (List Int))) : Option ((List (List Int)) × (List Int) × (List Int)) :=
  need (0 ≤ i) <|
  bif decide ((iand (ishr s44_.1 i) 1) = 0) then (
    some (s.1, s.2.1, s.2.2))
  else (
    Option.bind (layer_Best_1 s44_.1 i s.2.1 v1 s.1) fun n1 =>
    need (inR n1.2.1 s44_.1) <|
    need ((decide ((gx n1.2.1 s44_.1) < 0)) = false → inR n1.2.1 s44_.1) <|
    bif (decide ((gx n1.2.1 s44_.1) < 0)) || (decide (n1.1 < (gx n1.2.1 s44_.1))) then (
      need (inR n1.2.1 s44_.1) <|
      need (inR s.2.2 s44_.1) <|
      some (n1.2.2, n1.2.1.set s44_.1.toNat n1.1, s.2.2.set s44_.1.toNat i))
    else (
      some (n1.2.2, n1.2.1, s.2.2)))

noncomputable def layer_Best_L4 (v1 : Int) (s44_ : (Int × (List (List Int)) × (List Int) × (List Int))) : Option (Step (Int × (List (List Int)) × (List Int) × (List Int)) ((List Int) × (List Int))) :=
  need (0 ≤ v1) <|
  bif decide (s44_.1 < (ishl 1 v1)) then (
    Option.bind (α := ((List (List Int)) × (List Int) × (List Int))) (
      need (inR s44_.2.2.1 s44_.1) <|
      bnd (s44_.2.2.1.set s44_.1.toNat (-1)) fun c3 =>
      rfor v1 (layer_Best_L5 v1 s44_) (s44_.2.1, c3, s44_.2.2.2)) fun j_47 =>
    bnd (W (s44_.1 + 1)) fun set1 =>
    some (Step.again (set1, j_47.1, j_47.2.1, j_47.2.2)))
  else (
    some (Step.done (s44_.2.2.1, s44_.2.2.2)))

noncomputable def layer_Best_L6 (j_43 : ((List Int) × (List Int))) (nodes1 : (List Int)) (s65_ : ((List Int) × Int)) : Option (Step ((List Int) × Int) (List Int)) :=
  bif decide (0 < s65_.2) then (
    need (inR j_43.2 s65_.2) <|
    need (inR nodes1 (gx j_43.2 s65_.2)) <|
    need (room (s65_.1.length + [gx nodes1 (gx j_43.2 s65_.2)].length)) <|
    bnd (s65_.1 ++ [gx nodes1 (gx j_43.2 s65_.2)]) fun out1 =>
    need (inR j_43.2 s65_.2) <|
    need (0 ≤ (gx j_43.2 s65_.2)) <|
    bnd (iandn s65_.2 (ishl 1 (gx j_43.2 s65_.2))) fun set3 =>
    some (Step.again (out1, set3)))
  else (
    some (Step.done s65_.1))

/-- layer.Best -/
noncomputable def layer_Best (upper1 : (List Int)) (lower1 : (List Int)) (l1 : (List Link)) : Option ((List Int) × Int × Int) :=
  Option.bind (layer_checkPair upper1 lower1 l1) fun e1 =>
  bif !decide (e1 = 0) then (
    some (([] : (List Int)), 0, e1))
  else (
    bif decide (10 < (lower1.length : Int)) then (
      some (([] : (List Int)), 0, 4))
    else (
      Option.bind (slices_Values_int lower1) fun r1 =>
      Option.bind (slices_Sorted_int r1) fun nodes1 =>
      Option.bind (layer_places nodes1) fun at1 =>
      Option.bind (layer_places upper1) fun up1 =>
      bnd ((nodes1.length : Int)) fun v1 =>
      need (0 ≤ v1 ∧ v1 ≤ v1 ∧ v1 ≤ 1073741824) <|
      bnd (List.replicate v1.toNat ([] : (List Int))) fun c1 =>
      Option.bind (α := (List (List Int))) (
        rfor ((List.replicate v1.toNat ([] : (List Int))).length : Int) (layer_Best_L1 v1) c1) fun j_11 =>
      Option.bind (α := (List (List Int))) (
        rfor (l1.length : Int) (layer_Best_L2 l1 at1 up1) j_11) fun j_17 =>
      need (0 ≤ v1) <|
      bnd (ishl 1 v1) fun v6 =>
      need (0 ≤ v6 ∧ v6 ≤ v6 ∧ v6 ≤ 1073741824) <|
      need (0 ≤ v1) <|
      bnd (ishl 1 v1) fun v7 =>
      need (0 ≤ v7 ∧ v7 ≤ v7 ∧ v7 ≤ 1073741824) <|
      bnd (List.replicate v7.toNat (0 : Int)) fun first1 =>
      bnd (List.replicate v6.toNat (0 : Int)) fun c2 =>
      Option.bind (α := ((List Int) × (List Int))) (
        loop (layer_Best_L4 v1) (1, j_17, c2, first1)) fun j_43 =>
      need (0 ≤ v1) <|
      bnd (W ((ishl 1 v1) - 1)) fun set2 =>
      Option.bind (α := (List Int)) (
        loop (layer_Best_L6 j_43 nodes1) (([] : List Int), set2)) fun j_64 =>
      need (0 ≤ v1) <|
      need (inR j_43.1 (W ((ishl 1 v1) - 1))) <|
      some (j_64, gx j_43.1 (W ((ishl 1 v1) - 1)), 0)))

/-- slices.Clone[[]api.Link,api.Link] -/
noncomputable def slices_Clone_Link (s1 : (List Link)) : Option (List Link) :=
  nilc s1 (
    some ([] : List Link)) (
    need (room (([] : (List Link)).length + s1.length)) <|
    bnd (([] : (List Link)) ++ s1) fun v1 =>
    some v1)

/-- drawref1.BestOf$1$1 -/
noncomputable def ref_BestOf_1_1 (x1 : Link) (c0_1 : Int) (c1_1 : Int) : Option Bool :=
  some ((!decide (x1.To = c0_1)) && (!decide (x1.To = c1_1)))

noncomputable def slices_IndexFunc_Link_L1 (f1 : (Link → Option Bool)) (s1 : (List Link)) (i : Int) (s : Unit) : Option (Res Unit (Res Unit Int)) :=
  need (inR s1 i) <|
  Option.bind (f1 (gx s1 i)) fun r1 =>
  bif r1 then (
    some (Res.ab (Res.ab i)))
  else (
    some (Res.nx ()))

/-- slices.IndexFunc[[]api.Link,api.Link] -/
noncomputable def slices_IndexFunc_Link (s1 : (List Link)) (f1 : (Link → Option Bool)) : Option Int :=
  bindR (σ := Unit) (ρ := Int) (
    rforE (s1.length : Int) (slices_IndexFunc_Link_L1 f1 s1) (fun s => Res.nx s) ()) fun j_1 =>
  some (-1)

noncomputable def slices_DeleteFunc_Link_L1 (del1 : (Link → Option Bool)) (s5_ : (Int × Int × (List Link))) : Option (Step (Int × Int × (List Link)) (Int × (List Link))) :=
  bif decide (s5_.2.1 < (s5_.2.2.length : Int)) then (
    Option.bind (α := (Int × (List Link))) (
      need (inR s5_.2.2 s5_.2.1) <|
      bnd (gx s5_.2.2 s5_.2.1) fun v1 =>
      Option.bind (del1 v1) fun r1 =>
      bif !r1 then (
        need (inR s5_.2.2 s5_.1) <|
        bnd (s5_.2.2.set s5_.1.toNat v1) fun s2 =>
        bnd (W (s5_.1 + 1)) fun i2 =>
        some (i2, s2))
      else (
        some (s5_.1, s5_.2.2))) fun j_7 =>
    bnd (W (s5_.2.1 + 1)) fun j2 =>
    some (Step.again (j_7.1, j2, j_7.2)))
  else (
    some (Step.done (s5_.1, s5_.2.2)))

/-- slices.DeleteFunc[[]api.Link,api.Link] -/
noncomputable def slices_DeleteFunc_Link (s1 : (List Link)) (del1 : (Link → Option Bool)) : Option (List Link) :=
  Option.bind (slices_IndexFunc_Link s1 del1) fun i1 =>
  bif decide (i1 = (-1)) then (
    some s1)
  else (
    bnd (W (i1 + 1)) fun j1 =>
    Option.bind (α := (Int × (List Link))) (
      loop (slices_DeleteFunc_Link_L1 del1) (i1, j1, s1)) fun j_4 =>
    need (segR j_4.2.length j_4.1 (j_4.2.length : Int)) <|
    bnd (j_4.2.take j_4.1.toNat ++ List.replicate (j_4.2.length - j_4.1.toNat) (⟨(0 : Int), (0 : Int)⟩ : Link)) fun s3 =>
    need (segR s3.length 0 j_4.1) <|
    bnd (seg s3 0 j_4.1) fun v2 =>
    some v2)

/-- drawref1.BestOf$1 -/
noncomputable def ref_BestOf_1 (a1 : Int) (b1 : Int) (c0_1 : (List Int)) (c1_1 : (List Link)) : Option Int :=
  Option.bind (slices_Clone_Link c1_1) fun r1 =>
  Option.bind (slices_DeleteFunc_Link r1 (fun x0 => ref_BestOf_1_1 x0 a1 b1)) fun r2 =>
  Option.bind (ref_CrossingsOf c0_1 [a1, b1] r2) fun r3 =>
  some r3

noncomputable def ref_BestOf_2_L1 (i1 : Int) (m1 : Int) (c1_1 : (Arr 9 (Arr 9 Int))) (i : Int) (s : Int) : Option Int :=
  need ((!decide (i = i1)) = true → 0 ≤ i) <|
  bif (!decide (i = i1)) && (decide ((iand (ishr m1 i) 1) = 0)) then (
    need (0 ≤ i1 ∧ i1 < (9 + 1 : Nat)) <|
    need (0 ≤ i ∧ i < (9 + 1 : Nat)) <|
    bnd (W (s + (gx (gx c1_1.l i1).l i))) fun c1 =>
    some c1)
  else (
    some s)

/-- drawref1.BestOf$2 -/
noncomputable def ref_BestOf_2 (m1 : Int) (i1 : Int) (c0_1 : (List Int)) (c1_1 : (Arr 9 (Arr 9 Int))) (c2_1 : (List Int)) : Option (Int × (List Int)) :=
  Option.bind (α := Int) (
    rfor (c0_1.length : Int) (ref_BestOf_2_L1 i1 m1 c1_1) 0) fun j_1 =>
  need (0 ≤ i1) <|
  need (inR c2_1 (ior m1 (ishl 1 i1))) <|
  some (W (j_1 + (gx c2_1 (ior m1 (ishl 1 i1)))), c2_1)

noncomputable def ref_BestOf_2r_L1 (i1 : Int) (m1 : Int) (c1_1 : (Arr 9 (Arr 9 Int))) (i : Int) (s : Int) : Option Int :=
  need ((!decide (i = i1)) = true → 0 ≤ i) <|
  bif (!decide (i = i1)) && (decide ((iand (ishr m1 i) 1) = 0)) then (
    need (0 ≤ i1 ∧ i1 < (9 + 1 : Nat)) <|
    need (0 ≤ i ∧ i < (9 + 1 : Nat)) <|
    bnd (W (s + (gx (gx c1_1.l i1).l i))) fun c1 =>
    some c1)
  else (
    some s)

/-- drawref1.BestOf$2 -/
noncomputable def ref_BestOf_2r (m1 : Int) (i1 : Int) (c0_1 : (List Int)) (c1_1 : (Arr 9 (Arr 9 Int))) (c2_1 : (List Int)) : Option Int :=
  Option.bind (α := Int) (
    rfor (c0_1.length : Int) (ref_BestOf_2r_L1 i1 m1 c1_1) 0) fun j_1 =>
  need (0 ≤ i1) <|
  need (inR c2_1 (ior m1 (ishl 1 i1))) <|
  some (W (j_1 + (gx c2_1 (ior m1 (ishl 1 i1)))))

noncomputable def ref_BestOf_L2 (l1 : (List Link)) (r2 : (List Int)) (p5_ : Int × (Arr 9 (Arr 9 Int))) (upper1 : (List Int)) (i : Int) (s : (Arr 9 (Arr 9 Int))) : Option (Arr 9 (Arr 9 Int)) :=
  need (inR r2 i) <|
  bif !decide (p5_.1 = i) then (
    Option.bind ((fun x0 x1 => ref_BestOf_1 x0 x1 upper1 l1) (gx r2 p5_.1) (gx r2 i)) fun r3 =>
    need (0 ≤ p5_.1 ∧ p5_.1 < (9 + 1 : Nat)) <|
    need (0 ≤ i ∧ i < (9 + 1 : Nat)) <|
    some (⟨s.l.set p5_.1.toNat ⟨(gx s.l p5_.1).l.set i.toNat r3⟩⟩ : (Arr 9 (Arr 9 Int))))
  else (
    some s)

noncomputable def ref_BestOf_L1 (l1 : (List Link)) (r2 : (List Int)) (upper1 : (List Int)) (i : Int) (s : (Arr 9 (Arr 9 Int))) : Option (Arr 9 (Arr 9 Int)) :=
  need (inR r2 i) <|
  rfor (r2.length : Int) (ref_BestOf_L2 l1 r2 (i, s) upper1) s

noncomputable def ref_BestOf_L4 (r2 : (List Int)) (j_4 : (Arr 9 (Arr 9 Int))) (s24_ : (Int × (List Int))) (i : Int) (s : (Int × (List Int))) : Option (Int × (List Int)) :=
  need (0 ≤ i) <|
  bif decide ((iand (ishr s24_.1 i) 1) = 0) then (
    Option.bind (ref_BestOf_2 s24_.1 i r2 j_4 s.2) fun c2 =>
    bif (decide (s.1 < 0)) || (decide (c2.1 < s.1)) then (
      some (c2.1, c2.2))
    else (
      some (s.1, c2.2)))
  else (
    some (s.1, s.2))

noncomputable def ref_BestOf_L3 (r2 : (List Int)) (j_4 : (Arr 9 (Arr 9 Int))) (s24_ : (Int × (List Int))) : Option (Step (Int × (List Int)) (List Int)) :=
  bif decide (0 ≤ s24_.1) then (
    Option.bind (α := (List Int)) (
      Option.bind (α := (Int × (List Int))) (
        rfor (r2.length : Int) (ref_BestOf_L4 r2 j_4 s24_) ((-1), s24_.2)) fun j_27 =>
      need (inR j_27.2 s24_.1) <|
      some (j_27.2.set s24_.1.toNat j_27.1)) fun j_26 =>
    bnd (W (s24_.1 - 1)) fun m2 =>
    some (Step.again (m2, j_26)))
  else (
    some (Step.done s24_.2))

noncomputable def ref_BestOf_L6 (r2 : (List Int)) (j_4 : (Arr 9 (Arr 9 Int))) (j_23 : (List Int)) (i : Int) (s : ((List Int) × Int)) : Option (Res ((List Int) × Int) ((List Int) × Int)) :=
  need (0 ≤ i) <|
  Option.bind (gd ((decide ((iand (ishr s.2 i) 1) = 0))) (ref_BestOf_2r s.2 i r2 j_4 j_23)) fun r4 =>
  need ((decide ((iand (ishr s.2 i) 1) = 0)) = true → inR j_23 s.2) <|
  bif (decide ((iand (ishr s.2 i) 1) = 0)) && (decide (r4 = (gx j_23 s.2))) then (
    need (inR r2 i) <|
    need (room (s.1.length + [gx r2 i].length)) <|
    bnd (s.1 ++ [gx r2 i]) fun out1 =>
    need (0 ≤ i) <|
    bnd (ior s.2 (ishl 1 i)) fun m3 =>
    some (Res.ab (out1, m3)))
  else (
    some (Res.nx (s.1, s.2)))

noncomputable def ref_BestOf_L5 (r2 : (List Int)) (j_4 : (Arr 9 (Arr 9 Int))) (j_23 : (List Int)) (full1 : Int) (s38_ : ((List Int) × Int)) : Option (Step ((List Int) × Int) (List Int)) :=
  bif !decide (s38_.2 = full1) then (
    Option.bind (α := ((List Int) × Int)) (
      rforE (r2.length : Int) (ref_BestOf_L6 r2 j_4 j_23) (fun s => s) (s38_.1, s38_.2)) fun j_40 =>
    some (Step.again (j_40.1, j_40.2)))
  else (
    some (Step.done s38_.1))

/-- drawref1.BestOf -/
noncomputable def ref_BestOf (upper1 : (List Int)) (lower1 : (List Int)) (l1 : (List Link)) : Option ((List Int) × Int) :=
  Option.bind (slices_Values_int lower1) fun r1 =>
  Option.bind (slices_Sorted_int r1) fun r2 =>
  bnd ((⟨List.replicate 10 (⟨List.replicate 10 (0 : Int)⟩ : (Arr 9 Int))⟩ : (Arr 9 (Arr 9 Int)))) fun cost1 =>
  Option.bind (α := (Arr 9 (Arr 9 Int))) (
    rfor (r2.length : Int) (ref_BestOf_L1 l1 r2 upper1) cost1) fun j_4 =>
  need (0 ≤ (r2.length : Int)) <|
  bnd (W ((ishl 1 (r2.length : Int)) - 1)) fun full1 =>
  bnd (W (full1 + 1)) fun v1 =>
  need (0 ≤ v1 ∧ v1 ≤ v1 ∧ v1 ≤ 1073741824) <|
  bnd (List.replicate v1.toNat (0 : Int)) fun c1 =>
  bnd (W (full1 - 1)) fun m1 =>
  Option.bind (α := (List Int)) (
    loop (ref_BestOf_L3 r2 j_4) (m1, c1)) fun j_23 =>
  Option.bind (α := (List Int)) (
    loop (ref_BestOf_L5 r2 j_4 j_23 full1) (([] : List Int), 0)) fun j_37 =>
  need (inR j_23 0) <|
  some (j_37, gx j_23 0)

noncomputable def slices_Equal_int_L1 (s1_1 : (List Int)) (s2_1 : (List Int)) (i : Int) (s : Unit) : Option (Res Unit (Res Unit Bool)) :=
  need (inR s1_1 i) <|
  need (inR s2_1 i) <|
  bif !decide ((gx s1_1 i) = (gx s2_1 i)) then (
    some (Res.ab (Res.ab false)))
  else (
    some (Res.nx ()))

/-- slices.Equal[[]int,int] -/
noncomputable def slices_Equal_int (s1_1 : (List Int)) (s2_1 : (List Int)) : Option Bool :=
  bif !decide ((s1_1.length : Int) = (s2_1.length : Int)) then (
    some false)
  else (
    bindR (σ := Unit) (ρ := Bool) (
      rforE (s1_1.length : Int) (slices_Equal_int_L1 s1_1 s2_1) (fun s => Res.nx s) ()) fun j_2 =>
    some true)

/-- slices.Clone[[]int,int] -/
noncomputable def slices_Clone_int (s1 : (List Int)) : Option (List Int) :=
  nilc s1 (
    some ([] : List Int)) (
    need (room (([] : (List Int)).length + s1.length)) <|
    bnd (([] : (List Int)) ++ s1) fun v1 =>
    some v1)

noncomputable def law_OrdersMatch_L1  (s19_ : ((KI .u32) × Int × (List Int))) : Option (Step ((KI .u32) × Int × (List Int)) (List Int)) :=
  bif decide (0 < s19_.2.1) then (
    bnd ((s19_.1.mul (⟨1664525⟩ : KI .u32)).add (⟨1013904223⟩ : KI .u32)) fun seed2 =>
    need (0 < (W (s19_.2.1 + 1))) <|
    bnd ((W (seed2.shr 8).n).tmod (W (s19_.2.1 + 1))) fun k1 =>
    need (inR s19_.2.2 k1) <|
    bnd (gx s19_.2.2 k1) fun v1 =>
    need (inR s19_.2.2 s19_.2.1) <|
    bnd (gx s19_.2.2 s19_.2.1) fun v2 =>
    need (inR s19_.2.2 s19_.2.1) <|
    need (inR (s19_.2.2.set s19_.2.1.toNat v1) k1) <|
    bnd ((s19_.2.2.set s19_.2.1.toNat v1).set k1.toNat v2) fun other2 =>
    bnd (W (s19_.2.1 - 1)) fun i2 =>
    some (Step.again (seed2, i2, other2)))
  else (
    some (Step.done s19_.2.2))

/-- drawlaw1.OrdersMatch -/
noncomputable def law_OrdersMatch (upper1 : (List Int)) (lower1 : (List Int)) (l1 : (List Link)) (seed1 : (KI .u32)) : Option Bool :=
  Option.bind (ref_CrossError upper1 lower1 l1) fun own1 =>
  Option.bind (layer_Crossings upper1 lower1 l1) fun r1 =>
  Option.bind (law_layers) fun r2 =>
  Option.bind (gd (!(!r2)) (law_is_int r1.1 r1.2 own1 (law_OrdersMatch_1 upper1 lower1 l1))) fun r3 =>
  bif (!r2) || (!r3) then (
    some false)
  else (
    Option.bind (layer_Best upper1 lower1 l1) fun r4 =>
    Option.bind (ref_When (decide (10 < (lower1.length : Int))) 4) fun r5 =>
    Option.bind (ref_First [own1, r5]) fun want1 =>
    bif !decide (want1 = 0) then (
      some (((decide ((r4.1.length : Int) = 0)) && (decide (r4.2.1 = 0))) && (decide (r4.2.2 = want1))))
    else (
      bif (decide (8 < (lower1.length : Int))) || (decide (40 < (l1.length : Int))) then (
        Option.bind (gd ((decide (r4.2.2 = 0))) (ref_CrossingsOf upper1 r4.1 l1)) fun r6 =>
        some (((decide (r4.2.2 = 0)) && (decide (r6 = r4.2.1))) && (decide (r4.2.1 ≤ r1.1))))
      else (
        Option.bind (ref_BestOf upper1 lower1 l1) fun r7 =>
        Option.bind (gd (!(!decide (r4.2.2 = 0))) (slices_Equal_int r4.1 r7.1)) fun r8 =>
        Option.bind (gd (!(((!decide (r4.2.2 = 0)) || (!r8)) || (!decide (r4.2.1 = r7.2)))) (ref_CrossingsOf upper1 r4.1 l1)) fun r9 =>
        bif (((!decide (r4.2.2 = 0)) || (!r8)) || (!decide (r4.2.1 = r7.2))) || (!decide (r9 = r4.2.1)) then (
          some false)
        else (
          Option.bind (slices_Clone_int lower1) fun other1 =>
          bnd (W ((other1.length : Int) - 1)) fun i1 =>
          Option.bind (α := (List Int)) (
            loop law_OrdersMatch_L1 (seed1, i1, other1)) fun j_18 =>
          Option.bind (ref_CrossingsOf upper1 j_18 l1) fun r10 =>
          some (decide (r4.2.1 ≤ r10))))))


end Go.DB
