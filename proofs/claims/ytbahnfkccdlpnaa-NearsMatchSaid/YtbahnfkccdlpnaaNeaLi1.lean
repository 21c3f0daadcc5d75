/-
  What the functions compute, as plain functions (printed by a program of one's own).
-/
import Derived.Test.YtbahnfkccdlpnaaNeaTy
set_option maxRecDepth 100000
set_option linter.unusedSimpArgs false
set_option linter.unusedVariables false
namespace Go.DB
open Go Go.RowKit

/-- slices.Compact[[]int,int] -/
noncomputable def slices_Compact_int (l : List Int) : Option (List Int) := need ((l.length : Int) < 4611686018427387904) (some (compactI l))

/-- slices.Sort[[]int,int] -/
noncomputable def slices_Sort_int (l : List Int) : Option (List Int) := need ((l.length : Int) < 4611686018427387904) (some (sortI l))

/-- slices.Values[[]int,int] -/
noncomputable def slices_Values_int (l : List Int) : Option SeqI := some ⟨l⟩

/-- slices.Sorted[int] -/
noncomputable def slices_Sorted_int (x : SeqI) : Option (List Int) := need (x.l.length ≤ 1073741824) (some (sortI x.l))

noncomputable def layer_near_L1 (n1 : Int) (gap1 : Int) (size1 : (List Int)) (s5_ : (Int × (List Int))) : Option (Step (Int × (List Int)) (List Int)) :=
  bif decide (s5_.1 < n1) then (
    need (inR s5_.2 (W (s5_.1 - 1))) <|
    need (inR size1 (W (s5_.1 - 1))) <|
    bnd (W ((W ((gx s5_.2 (W (s5_.1 - 1))) + (gx size1 (W (s5_.1 - 1))))) + gap1)) fun v1 =>
    need (inR s5_.2 s5_.1) <|
    bnd (s5_.2.set s5_.1.toNat v1) fun offset2 =>
    bnd (W (s5_.1 + 1)) fun i1 =>
    some (Step.again (i1, offset2)))
  else (
    some (Step.done s5_.2))

noncomputable def layer_near_L2 (j_4 : (List Int)) (want1 : (List Int)) (i : Int) (s : (List Int)) : Option (List Int) :=
  need (inR want1 i) <|
  need (inR j_4 i) <|
  bnd (W ((gx want1 i) - (gx j_4 i))) fun v2 =>
  need (inR s i) <|
  some (s.set i.toNat v2)

noncomputable def layer_near_L3 (j_4 : (List Int)) (values1 : (List Int)) (i : Int) (s : (List Int)) : Option (List Int) :=
  need (inR values1 0) <|
  need (inR j_4 i) <|
  bnd (W ((gx values1 0) + (gx j_4 i))) fun v3 =>
  need (inR s i) <|
  some (s.set i.toNat v3)

noncomputable def layer_near_L5 (j_15 : (List Int)) (s37_ : (Int × (List Int))) (values1 : (List Int)) (s42_ : (Int × Int × Int × Int)) : Option (Step (Int × Int × Int × Int) Int) :=
  bif decide (0 ≤ s42_.2.2.2) then (
    Option.bind (α := (Int × Int × Int)) (
      need (inR j_15 s42_.2.2.2) <|
      need (inR values1 s37_.1) <|
      Option.bind (α := Int) (
        bif decide ((gx j_15 s42_.2.2.2) < (gx values1 s37_.1)) then (
          bnd (W (s42_.2.2.1 + 1)) fun sum1 =>
          some sum1)
        else (
          bnd (W (s42_.2.2.1 - 1)) fun sum2 =>
          some sum2)) fun j_47 =>
      bif decide (j_47 < s42_.2.1) then (
        some (s42_.2.2.2, j_47, j_47))
      else (
        some (s42_.1, s42_.2.1, j_47))) fun j_44 =>
    bnd (W (s42_.2.2.2 - 1)) fun i3 =>
    some (Step.again (j_44.1, j_44.2.1, j_44.2.2, i3)))
  else (
    some (Step.done s42_.1))

noncomputable def layer_near_L6 (n1 : Int) (j_4 : (List Int)) (s37_ : (Int × (List Int))) (values1 : (List Int)) (s53_ : (Int × (List Int))) : Option (Step (Int × (List Int)) (List Int)) :=
  bif decide (s53_.1 < n1) then (
    need (inR values1 s37_.1) <|
    need (inR j_4 s53_.1) <|
    bnd (W ((gx values1 s37_.1) + (gx j_4 s53_.1))) fun v4 =>
    need (inR s53_.2 s53_.1) <|
    bnd (s53_.2.set s53_.1.toNat v4) fun out2 =>
    bnd (W (s53_.1 + 1)) fun i4 =>
    some (Step.again (i4, out2)))
  else (
    some (Step.done s53_.2))

noncomputable def layer_near_L4 (n1 : Int) (j_4 : (List Int)) (j_15 : (List Int)) (values1 : (List Int)) (s37_ : (Int × (List Int))) : Option (Step (Int × (List Int)) (List Int)) :=
  bif decide (s37_.1 < (values1.length : Int)) then (
    Option.bind (α := (List Int)) (
      bnd (W (n1 - 1)) fun i2 =>
      Option.bind (α := Int) (
        loop (layer_near_L5 j_15 s37_ values1) (n1, 0, 0, i2)) fun j_41 =>
      loop (layer_near_L6 n1 j_4 s37_ values1) (j_41, s37_.2)) fun j_39 =>
    bnd (W (s37_.1 + 1)) fun k1 =>
    some (Step.again (k1, j_39)))
  else (
    some (Step.done s37_.2))

/-- layer.near -/
noncomputable def layer_near (want1 : (List Int)) (size1 : (List Int)) (gap1 : Int) : Option (List Int) :=
  bnd ((want1.length : Int)) fun n1 =>
  need (0 ≤ n1 ∧ n1 ≤ n1 ∧ n1 ≤ 1073741824) <|
  bnd (List.replicate n1.toNat (0 : Int)) fun offset1 =>
  Option.bind (α := (List Int)) (
    loop (layer_near_L1 n1 gap1 size1) (1, offset1)) fun j_4 =>
  need (0 ≤ n1 ∧ n1 ≤ n1 ∧ n1 ≤ 1073741824) <|
  bnd (List.replicate n1.toNat (0 : Int)) fun level1 =>
  Option.bind (α := (List Int)) (
    rfor (level1.length : Int) (layer_near_L2 j_4 want1) level1) fun j_15 =>
  Option.bind (slices_Values_int j_15) fun r1 =>
  Option.bind (slices_Sorted_int r1) fun r2 =>
  Option.bind (slices_Compact_int r2) fun values1 =>
  need (0 ≤ n1 ∧ n1 ≤ n1 ∧ n1 ≤ 1073741824) <|
  bnd (List.replicate n1.toNat (0 : Int)) fun out1 =>
  Option.bind (α := (List Int)) (
    rfor (out1.length : Int) (layer_near_L3 j_4 values1) out1) fun j_28 =>
  Option.bind (α := (List Int)) (
    loop (layer_near_L4 n1 j_4 j_15 values1) (1, j_28)) fun j_36 =>
  some j_36

noncomputable def layer_Near_L1 (want1 : (List Int)) (i : Int) (s : Unit) : Option (Res Unit (Res Unit ((List Int) × Int))) :=
  need (inR want1 i) <|
  bnd (gx want1 i) fun n1 =>
  bif (decide (n1 < (-1000000))) || (decide (1000000 < n1)) then (
    some (Res.ab (Res.ab (([] : (List Int)), 3))))
  else (
    some (Res.nx ()))

noncomputable def layer_Near_L2 (size1 : (List Int)) (i : Int) (s : Unit) : Option (Res Unit (Res Unit ((List Int) × Int))) :=
  need (inR size1 i) <|
  bnd (gx size1 i) fun n2 =>
  bif (decide (n2 < 1)) || (decide (20000 < n2)) then (
    some (Res.ab (Res.ab (([] : (List Int)), 3))))
  else (
    some (Res.nx ()))

/-- layer.Near -/
noncomputable def layer_Near (want1 : (List Int)) (size1 : (List Int)) (gap1 : Int) : Option ((List Int) × Int) :=
  bif (decide (1000 < (want1.length : Int))) || (decide (1000 < (size1.length : Int))) then (
    some (([] : (List Int)), 4))
  else (
    bif !decide ((want1.length : Int) = (size1.length : Int)) then (
      some (([] : (List Int)), 2))
    else (
      bindR (σ := Unit) (ρ := ((List Int) × Int)) (
        rforE (want1.length : Int) (layer_Near_L1 want1) (fun s => Res.nx s) ()) fun j_3 =>
      bindR (σ := Unit) (ρ := ((List Int) × Int)) (
        rforE (size1.length : Int) (layer_Near_L2 size1) (fun s => Res.nx s) ()) fun j_10 =>
      bif (decide (gap1 < 0)) || (decide (1000 < gap1)) then (
        some (([] : (List Int)), 3))
      else (
        bif decide ((want1.length : Int) = 0) then (
          some (([] : (List Int)), 0))
        else (
          Option.bind (layer_near want1 size1 gap1) fun r1 =>
          some (r1, 0)))))

/-- drawref1.When -/
noncomputable def ref_When (is1 : Bool) (e1 : Int) : Option Int :=
  bif is1 then (
    some e1)
  else (
    some 0)

noncomputable def ref_First_L1 (l1 : (List Int)) (i : Int) (s : Unit) : Option (Res Unit (Res Unit Int)) :=
  need (inR l1 i) <|
  bnd (gx l1 i) fun e1 =>
  bif !decide (e1 = 0) then (
    some (Res.ab (Res.ab e1)))
  else (
    some (Res.nx ()))

/-- drawref1.First -/
noncomputable def ref_First (l1 : (List Int)) : Option Int :=
  bindR (σ := Unit) (ρ := Int) (
    rforE (l1.length : Int) (ref_First_L1 l1) (fun s => Res.nx s) ()) fun j_1 =>
  some 0

noncomputable def slices_IndexFunc_int_L1 (f1 : (Int → Option Bool)) (s1 : (List Int)) (i : Int) (s : Unit) : Option (Res Unit (Res Unit Int)) :=
  need (inR s1 i) <|
  Option.bind (f1 (gx s1 i)) fun r1 =>
  bif r1 then (
    some (Res.ab (Res.ab i)))
  else (
    some (Res.nx ()))

/-- slices.IndexFunc[[]int,int] -/
noncomputable def slices_IndexFunc_int (s1 : (List Int)) (f1 : (Int → Option Bool)) : Option Int :=
  bindR (σ := Unit) (ρ := Int) (
    rforE (s1.length : Int) (slices_IndexFunc_int_L1 f1 s1) (fun s => Res.nx s) ()) fun j_1 =>
  some (-1)

/-- slices.ContainsFunc[[]int,int] -/
noncomputable def slices_ContainsFunc_int (s1 : (List Int)) (f1 : (Int → Option Bool)) : Option Bool :=
  Option.bind (slices_IndexFunc_int s1 f1) fun r1 =>
  some (decide (0 ≤ r1))

/-- drawref1.In -/
noncomputable def ref_In (n1 : Int) (low1 : Int) (high1 : Int) : Option Bool :=
  some ((decide (low1 ≤ n1)) && (decide (n1 ≤ high1)))

/-- drawref1.NearError$1 -/
noncomputable def ref_NearError_1 (n1 : Int) : Option Bool :=
  Option.bind (ref_In n1 (-1000000) 1000000) fun r1 =>
  some (!r1)

/-- drawref1.NearError$2 -/
noncomputable def ref_NearError_2 (n1 : Int) : Option Bool :=
  Option.bind (ref_In n1 1 20000) fun r1 =>
  some (!r1)

/-- drawref1.NearError -/
noncomputable def ref_NearError (want1 : (List Int)) (size1 : (List Int)) (gap1 : Int) : Option Int :=
  Option.bind (ref_When ((decide (1000 < (want1.length : Int))) || (decide (1000 < (size1.length : Int)))) 4) fun r1 =>
  Option.bind (ref_When (!decide ((want1.length : Int) = (size1.length : Int))) 2) fun r2 =>
  Option.bind (ref_First [r1, r2]) fun e1 =>
  bif !decide (e1 = 0) then (
    some e1)
  else (
    Option.bind (slices_ContainsFunc_int want1 ref_NearError_1) fun r3 =>
    Option.bind (gd (!r3) (slices_ContainsFunc_int size1 ref_NearError_2)) fun r4 =>
    Option.bind (gd (!(r3 || r4)) (ref_In gap1 0 1000)) fun r5 =>
    Option.bind (ref_When ((r3 || r4) || (!r5)) 3) fun r6 =>
    some r6)

/-- layer.Check$1 -/
noncomputable def layer_Check_1 (k1 : Int) (c0_1 : Int) : Option Bool :=
  some ((decide (0 ≤ k1)) && (decide (k1 < c0_1)))

noncomputable def layer_Check_L1 (l1 : (List Link)) (n1 : Int) (i : Int) (s : Unit) : Option (Res Unit (Res Unit Int)) :=
  need (inR l1 i) <|
  bnd (gx l1 i) fun v1 =>
  Option.bind ((fun x0 => layer_Check_1 x0 n1) v1.From) fun r1 =>
  Option.bind (gd (!(!r1)) ((fun x0 => layer_Check_1 x0 n1) v1.To)) fun r2 =>
  bif (!r1) || (!r2) then (
    some (Res.ab (Res.ab 10)))
  else (
    bif decide (v1.From = v1.To) then (
      some (Res.ab (Res.ab 2)))
    else (
      some (Res.nx ())))

/-- layer.Check -/
noncomputable def layer_Check (n1 : Int) (l1 : (List Link)) : Option Int :=
  bif (decide (n1 < 1)) || (decide (60 < n1)) then (
    some 3)
  else (
    bif decide (200 < (l1.length : Int)) then (
      some 4)
    else (
      bindR (σ := Unit) (ρ := Int) (
        rforE (l1.length : Int) (layer_Check_L1 l1 n1) (fun s => Res.nx s) ()) fun j_3 =>
      some 0))

/-- drawlaw1.layers -/
noncomputable def law_layers  : Option Bool :=
  Option.bind (layer_Check 1 ([] : (List Link))) fun r1 =>
  Option.bind (gd ((decide (r1 = 0))) (layer_Check 0 ([] : (List Link)))) fun r2 =>
  some ((decide (r1 = 0)) && (decide (r2 = 3)))

/-- drawref1.Abs -/
noncomputable def ref_Abs (n1 : Int) : Option Int :=
  some (max n1 (W (-n1)))

noncomputable def ref_NearOf_L1 (n1 : Int) (gap1 : Int) (size1 : (List Int)) (s5_ : (Int × (List Int))) : Option (Step (Int × (List Int)) (List Int)) :=
  bif decide (s5_.1 < n1) then (
    need (inR s5_.2 (W (s5_.1 - 1))) <|
    need (inR size1 (W (s5_.1 - 1))) <|
    bnd (W ((W ((gx s5_.2 (W (s5_.1 - 1))) + (gx size1 (W (s5_.1 - 1))))) + gap1)) fun v1 =>
    need (inR s5_.2 s5_.1) <|
    bnd (s5_.2.set s5_.1.toNat v1) fun off2 =>
    bnd (W (s5_.1 + 1)) fun i1 =>
    some (Step.again (i1, off2)))
  else (
    some (Step.done s5_.2))

noncomputable def ref_NearOf_L2 (j_4 : (List Int)) (want1 : (List Int)) (i : Int) (s : (List Int)) : Option (List Int) :=
  need (inR want1 i) <|
  need (inR j_4 i) <|
  need (room (s.length + [W ((gx want1 i) - (gx j_4 i))].length)) <|
  some (s ++ [W ((gx want1 i) - (gx j_4 i))])

noncomputable def ref_NearOf_L3 (values1 : (List Int)) (i : Int) (s : (List (List Int))) : Option (List (List Int)) :=
  bnd (W ((values1.length : Int) + 1)) fun v3 =>
  need (0 ≤ v3 ∧ v3 ≤ v3 ∧ v3 ≤ 1073741824) <|
  need (inR s i) <|
  some (s.set i.toNat (List.replicate v3.toNat (0 : Int)))

noncomputable def ref_NearOf_L5 (j_4 : (List Int)) (s35_ : (Int × (List (List Int)))) (want1 : (List Int)) (values1 : (List Int)) (s43_ : (Int × (List (List Int)))) : Option (Step (Int × (List (List Int))) (List (List Int))) :=
  bif decide (0 ≤ s43_.1) then (
    need (inR s43_.2 s35_.1) <|
    need (inR s43_.2 (W (s35_.1 + 1))) <|
    need ((W (s35_.1 + 1)) ≠ s35_.1) <|
    need (inR s43_.2 s35_.1) <|
    need (inR s43_.2 s35_.1) <|
    need (inR (gx s43_.2 s35_.1) (W (s43_.1 + 1))) <|
    need (inR values1 s43_.1) <|
    need (inR j_4 s35_.1) <|
    need (inR want1 s35_.1) <|
    Option.bind (ref_Abs (W ((W ((gx values1 s43_.1) + (gx j_4 s35_.1))) - (gx want1 s35_.1)))) fun r3 =>
    need (inR s43_.2 (W (s35_.1 + 1))) <|
    need (inR (gx s43_.2 (W (s35_.1 + 1))) s43_.1) <|
    bnd (min (gx (gx s43_.2 s35_.1) (W (s43_.1 + 1))) (W (r3 + (gx (gx s43_.2 (W (s35_.1 + 1))) s43_.1)))) fun v4 =>
    need (inR (gx s43_.2 s35_.1) s43_.1) <|
    bnd (s43_.2.set s35_.1.toNat ((gx s43_.2 s35_.1).set s43_.1.toNat v4)) fun least3 =>
    bnd (W (s43_.1 - 1)) fun k2 =>
    some (Step.again (k2, least3)))
  else (
    some (Step.done s43_.2))

noncomputable def ref_NearOf_L4 (j_4 : (List Int)) (want1 : (List Int)) (values1 : (List Int)) (s35_ : (Int × (List (List Int)))) : Option (Step (Int × (List (List Int))) (List (List Int))) :=
  bif decide (0 ≤ s35_.1) then (
    Option.bind (α := (List (List Int))) (
      need (inR s35_.2 s35_.1) <|
      need (inR s35_.2 s35_.1) <|
      need (inR (gx s35_.2 s35_.1) (values1.length : Int)) <|
      bnd (s35_.2.set s35_.1.toNat ((gx s35_.2 s35_.1).set (values1.length : Int).toNat 1152921504606846976)) fun least2 =>
      bnd (W ((values1.length : Int) - 1)) fun k1 =>
      loop (ref_NearOf_L5 j_4 s35_ want1 values1) (k1, least2)) fun j_37 =>
    bnd (W (s35_.1 - 1)) fun i3 =>
    some (Step.again (i3, j_37)))
  else (
    some (Step.done s35_.2))

noncomputable def ref_NearOf_L7 (j_4 : (List Int)) (j_34 : (List (List Int))) (p63_ : Int × ((List Int) × Int)) (want1 : (List Int)) (values1 : (List Int)) (s69_ : Int) : Option (Step Int Int) :=
  need (inR values1 s69_) <|
  need (inR j_4 p63_.1) <|
  need (inR want1 p63_.1) <|
  Option.bind (ref_Abs (W ((W ((gx values1 s69_) + (gx j_4 p63_.1))) - (gx want1 p63_.1)))) fun r4 =>
  need (inR j_34 (W (p63_.1 + 1))) <|
  need (inR (gx j_34 (W (p63_.1 + 1))) s69_) <|
  bif !decide ((W (r4 + (gx (gx j_34 (W (p63_.1 + 1))) s69_))) = (gx (gx j_34 p63_.1) p63_.2.2)) then (
    bnd (W (s69_ + 1)) fun k3 =>
    some (Step.again k3))
  else (
    some (Step.done s69_))

noncomputable def ref_NearOf_L6 (j_4 : (List Int)) (j_34 : (List (List Int))) (want1 : (List Int)) (values1 : (List Int)) (i : Int) (s : ((List Int) × Int)) : Option ((List Int) × Int) :=
  need (inR j_34 i) <|
  need (inR (gx j_34 i) s.2) <|
  Option.bind (α := Int) (
    loop (ref_NearOf_L7 j_4 j_34 (i, s) want1 values1) s.2) fun j_68 =>
  need (inR values1 j_68) <|
  need (inR j_4 i) <|
  need (room (s.1.length + [W ((gx values1 j_68) + (gx j_4 i))].length)) <|
  some (s.1 ++ [W ((gx values1 j_68) + (gx j_4 i))], j_68)

/-- drawref1.NearOf -/
noncomputable def ref_NearOf (want1 : (List Int)) (size1 : (List Int)) (gap1 : Int) : Option (List Int) :=
  bnd ((want1.length : Int)) fun n1 =>
  need (0 ≤ n1 ∧ n1 ≤ n1 ∧ n1 ≤ 1073741824) <|
  bnd (List.replicate n1.toNat (0 : Int)) fun off1 =>
  Option.bind (α := (List Int)) (
    loop (ref_NearOf_L1 n1 gap1 size1) (1, off1)) fun j_4 =>
  Option.bind (α := (List Int)) (
    rfor n1 (ref_NearOf_L2 j_4 want1) ([] : List Int)) fun j_13 =>
  Option.bind (slices_Values_int j_13) fun r1 =>
  Option.bind (slices_Sorted_int r1) fun r2 =>
  Option.bind (slices_Compact_int r2) fun values1 =>
  bnd (W (n1 + 1)) fun v2 =>
  need (0 ≤ v2 ∧ v2 ≤ v2 ∧ v2 ≤ 1073741824) <|
  bnd (List.replicate v2.toNat ([] : (List Int))) fun least1 =>
  Option.bind (α := (List (List Int))) (
    rfor (least1.length : Int) (ref_NearOf_L3 values1) least1) fun j_26 =>
  bnd (W (n1 - 1)) fun i2 =>
  Option.bind (α := (List (List Int))) (
    loop (ref_NearOf_L4 j_4 want1 values1) (i2, j_26)) fun j_34 =>
  Option.bind (α := ((List Int) × Int)) (
    rfor n1 (ref_NearOf_L6 j_4 j_34 want1 values1) (([] : List Int), 0)) fun j_62 =>
  some j_62.1

noncomputable def slices_Equal_int_L1 (s1_1 : (List Int)) (s2_1 : (List Int)) (i : Int) (s : Unit) : Option (Res Unit (Res Unit Bool)) :=
  need (inR s1_1 i) <|
  need (inR s2_1 i) <|
  bif !decide ((gx s1_1 i) = (gx s2_1 i)) then (
    some (Res.ab (Res.ab false)))
  else (
    some (Res.nx ()))

/-- slices.Equal[[]int,int] -/
noncomputable def slices_Equal_int (s1_1 : (List Int)) (s2_1 : (List Int)) : Option Bool :=
  bif !decide ((s1_1.length : Int) = (s2_1.length : Int)) then (
    some false)
  else (
    bindR (σ := Unit) (ρ := Bool) (
      rforE (s1_1.length : Int) (slices_Equal_int_L1 s1_1 s2_1) (fun s => Res.nx s) ()) fun j_2 =>
    some true)

/-- slices.Clone[[]int,int] -/
noncomputable def slices_Clone_int (s1 : (List Int)) : Option (List Int) :=
  nilc s1 (
    some ([] : List Int)) (
    need (room (([] : (List Int)).length + s1.length)) <|
    bnd (([] : (List Int)) ++ s1) fun v1 =>
    some v1)

noncomputable def slices_Index_int_L1 (s1 : (List Int)) (v1 : Int) (i : Int) (s : Unit) : Option (Res Unit (Res Unit Int)) :=
  need (inR s1 i) <|
  bif decide (v1 = (gx s1 i)) then (
    some (Res.ab (Res.ab i)))
  else (
    some (Res.nx ()))

/-- slices.Index[[]int,int] -/
noncomputable def slices_Index_int (s1 : (List Int)) (v1 : Int) : Option Int :=
  bindR (σ := Unit) (ρ := Int) (
    rforE (s1.length : Int) (slices_Index_int_L1 s1 v1) (fun s => Res.nx s) ()) fun j_1 =>
  some (-1)

/-- drawlaw1.NearsMatch$1 -/
noncomputable def law_NearsMatch_1 (n1 : Int) (c0_1 : (List Int)) (c1_1 : (List Int)) (c2_1 : Int) : Option Bool :=
  Option.bind (slices_Index_int c0_1 n1) fun k1 =>
  need (inR c1_1 k1) <|
  some (!decide ((gx c1_1 k1) = (W (n1 + c2_1))))

noncomputable def ref_Sum_L1 (at1 : (List Int)) (want1 : (List Int)) (i : Int) (s : Int) : Option Int :=
  need (inR want1 i) <|
  need (inR at1 i) <|
  Option.bind (ref_Abs (W ((gx want1 i) - (gx at1 i)))) fun r1 =>
  bnd (W (s + r1)) fun n1 =>
  some n1

/-- drawref1.Sum -/
noncomputable def ref_Sum (want1 : (List Int)) (at1 : (List Int)) : Option Int :=
  Option.bind (α := Int) (
    rfor (want1.length : Int) (ref_Sum_L1 at1 want1) 0) fun j_1 =>
  some j_1

noncomputable def law_NearsMatch_L1 (move1 : Int) (i : Int) (s : (List Int)) : Option (Res (List Int) (Res (List Int) Bool)) :=
  need (inR s i) <|
  bnd (W ((gx s i) + move1)) fun v1 =>
  need (inR s i) <|
  bnd (s.set i.toNat v1) fun all2 =>
  need (inR all2 i) <|
  Option.bind (ref_In (gx all2 i) (-1000000) 1000000) fun r6 =>
  bif !r6 then (
    some (Res.ab (Res.ab true)))
  else (
    some (Res.nx all2))

noncomputable def law_NearsMatch_L2 (gap1 : Int) (size1 : (List Int)) (other1 : (List Int)) (i : Int) (s : Unit) : Option (Res Unit (Res Unit Bool)) :=
  need (inR other1 i) <|
  Option.bind (ref_In (gx other1 i) (-1000000) 1000000) fun r9 =>
  need ((!r9) = false → (decide (0 < i)) = true → inR other1 i) <|
  need ((!r9) = false → (decide (0 < i)) = true → inR other1 (W (i - 1))) <|
  need ((!r9) = false → (decide (0 < i)) = true → inR size1 (W (i - 1))) <|
  bif (!r9) || ((decide (0 < i)) && (decide ((gx other1 i) < (W ((W ((gx other1 (W (i - 1))) + (gx size1 (W (i - 1))))) + gap1))))) then (
    some (Res.ab (Res.ab true)))
  else (
    some (Res.nx ()))

/-- drawlaw1.NearsMatch -/
noncomputable def law_NearsMatch (want1 : (List Int)) (size1 : (List Int)) (gap1 : Int) (move1 : Int) (other1 : (List Int)) : Option Bool :=
  Option.bind (layer_Near want1 size1 gap1) fun r1 =>
  Option.bind (ref_NearError want1 size1 gap1) fun own1 =>
  Option.bind (law_layers) fun r2 =>
  bif (!r2) || (!decide (own1 = 0)) then (
    Option.bind (law_layers) fun r3 =>
    some ((r3 && (decide ((r1.1.length : Int) = 0))) && (decide (r1.2 = own1))))
  else (
    bif decide (40 < (want1.length : Int)) then (
      some ((decide (r1.2 = 0)) && (decide ((r1.1.length : Int) = (want1.length : Int)))))
    else (
      Option.bind (gd (!(!decide (r1.2 = 0))) (ref_NearOf want1 size1 gap1)) fun r4 =>
      Option.bind (gd (!(!decide (r1.2 = 0))) (slices_Equal_int r1.1 r4)) fun r5 =>
      bif (!decide (r1.2 = 0)) || (!r5) then (
        some false)
      else (
        Option.bind (slices_Clone_int want1) fun all1 =>
        bindR (σ := (List Int)) (ρ := Bool) (
          rforE (all1.length : Int) (law_NearsMatch_L1 move1) (fun s => Res.nx s) all1) fun j_11 =>
        Option.bind (layer_Near j_11 size1 gap1) fun r7 =>
        Option.bind (gd (!((!decide (r7.2 = 0)) || (!decide ((r7.1.length : Int) = (r1.1.length : Int))))) (slices_ContainsFunc_int r1.1 (fun x0 => law_NearsMatch_1 x0 r1.1 r7.1 move1))) fun r8 =>
        bif ((!decide (r7.2 = 0)) || (!decide ((r7.1.length : Int) = (r1.1.length : Int)))) || r8 then (
          some false)
        else (
          bif !decide ((other1.length : Int) = (want1.length : Int)) then (
            some true)
          else (
            bindR (σ := Unit) (ρ := Bool) (
              rforE (other1.length : Int) (law_NearsMatch_L2 gap1 size1 other1) (fun s => Res.nx s) ()) fun j_26 =>
            Option.bind (ref_Sum want1 other1) fun r10 =>
            Option.bind (ref_Sum want1 r1.1) fun r11 =>
            some (decide (r11 ≤ r10)))))))


end Go.DB
