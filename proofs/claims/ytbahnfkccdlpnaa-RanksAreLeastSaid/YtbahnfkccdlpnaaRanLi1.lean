/-
  What the functions compute, as plain functions (printed by a program of one's own).
-/
import Derived.Test.YtbahnfkccdlpnaaRanTy
set_option maxRecDepth 100000
set_option linter.unusedSimpArgs false
set_option linter.unusedVariables false
namespace Go.DB
open Go Go.RowKit

/-- slices.Sort[[]int,int] -/
noncomputable def slices_Sort_int (l : List Int) : Option (List Int) := need ((l.length : Int) < 4611686018427387904) (some (sortI l))

/-- drawref1.In -/
noncomputable def ref_In (n1 : Int) (low1 : Int) (high1 : Int) : Option Bool :=
  some ((decide (low1 ≤ n1)) && (decide (n1 ≤ high1)))

/-- drawref1.When -/
noncomputable def ref_When (is1 : Bool) (e1 : Int) : Option Int :=
  bif is1 then (
    some e1)
  else (
    some 0)

noncomputable def ref_First_L1 (l1 : (List Int)) (i : Int) (s : Unit) : Option (Res Unit (Res Unit Int)) :=
  need (inR l1 i) <|
  bnd (gx l1 i) fun e1 =>
  bif !decide (e1 = 0) then (
    some (Res.ab (Res.ab e1)))
  else (
    some (Res.nx ()))

/-- drawref1.First -/
noncomputable def ref_First (l1 : (List Int)) : Option Int :=
  bindR (σ := Unit) (ρ := Int) (
    rforE (l1.length : Int) (ref_First_L1 l1) (fun s => Res.nx s) ()) fun j_1 =>
  some 0

noncomputable def ref_GraphError_L1 (l1 : (List Link)) (n1 : Int) (i : Int) (s : Unit) : Option (Res Unit (Res Unit Int)) :=
  need (inR l1 i) <|
  bnd (gx l1 i) fun v1 =>
  Option.bind (ref_In v1.From 0 (W (n1 - 1))) fun r4 =>
  Option.bind (gd (!(!r4)) (ref_In v1.To 0 (W (n1 - 1)))) fun r5 =>
  Option.bind (ref_When ((!r4) || (!r5)) 10) fun r6 =>
  Option.bind (ref_When (decide (v1.From = v1.To)) 2) fun r7 =>
  Option.bind (ref_First [r6, r7]) fun e2 =>
  bif !decide (e2 = 0) then (
    some (Res.ab (Res.ab e2)))
  else (
    some (Res.nx ()))

/-- drawref1.GraphError -/
noncomputable def ref_GraphError (n1 : Int) (l1 : (List Link)) : Option Int :=
  Option.bind (ref_In n1 1 60) fun r1 =>
  Option.bind (ref_When (!r1) 3) fun r2 =>
  Option.bind (ref_When (decide (200 < (l1.length : Int))) 4) fun r3 =>
  Option.bind (ref_First [r2, r3]) fun e1 =>
  bif !decide (e1 = 0) then (
    some e1)
  else (
    bindR (σ := Unit) (ρ := Int) (
      rforE (l1.length : Int) (ref_GraphError_L1 l1 n1) (fun s => Res.nx s) ()) fun j_6 =>
    some 0)

noncomputable def ref_TurnedOf_1_L1 (self : (Int × (List Int) × (List Link) × (List Int)) → Option ((List Int) × (List Int))) (x : (Int × (List Int) × (List Link) × (List Int))) (i : Int) (s : ((List Int) × (List Int))) : Option ((List Int) × (List Int)) :=
  need (inR x.2.2.1 i) <|
  bnd (gx x.2.2.1 i) fun v2 =>
  bif !decide (v2.From = x.1) then (
    some (s.1, s.2))
  else (
    need (inR s.1 v2.To) <|
    bnd (gx s.1 v2.To) fun v3 =>
    bif decide (v3 = 0) then (
      Option.bind (self (v2.To, s.1, x.2.2.1, s.2)) fun r1 =>
      some (r1.1, r1.2))
    else (
      bif decide (v3 = 1) then (
        need (room (s.2.length + [i].length)) <|
        some (s.1, s.2 ++ [i]))
      else (
        some (s.1, s.2))))

/-- drawref1.TurnedOf$1 -/
noncomputable def ref_TurnedOf_1_body (self : (Int × (List Int) × (List Link) × (List Int)) → Option ((List Int) × (List Int))) (x : (Int × (List Int) × (List Link) × (List Int))) : Option ((List Int) × (List Int)) :=
  need (inR x.2.1 x.1) <|
  bnd (x.2.1.set x.1.toNat 1) fun c1 =>
  Option.bind (α := ((List Int) × (List Int))) (
    rfor (x.2.2.1.length : Int) (ref_TurnedOf_1_L1 self x) (c1, x.2.2.2)) fun j_3 =>
  need (inR j_3.1 x.1) <|
  some (j_3.1.set x.1.toNat 2, j_3.2)

noncomputable def ref_TurnedOf_1 (v1 : Int) (c0_1 : (List Int)) (c1_1 : (List Link)) (c3_1 : (List Int)) : Option ((List Int) × (List Int)) := fixp ref_TurnedOf_1_body (v1, c0_1, c1_1, c3_1)

noncomputable def ref_TurnedOf_L1 (l1 : (List Link)) (i : Int) (s : ((List Int) × (List Int))) : Option ((List Int) × (List Int)) :=
  need (inR s.1 i) <|
  bif decide ((gx s.1 i) = 0) then (
    Option.bind (ref_TurnedOf_1 i s.1 l1 s.2) fun r1 =>
    some (r1.1, r1.2))
  else (
    some (s.1, s.2))

/-- drawref1.TurnedOf -/
noncomputable def ref_TurnedOf (n1 : Int) (l1 : (List Link)) : Option (List Int) :=
  need (0 ≤ n1 ∧ n1 ≤ n1 ∧ n1 ≤ 1073741824) <|
  bnd (List.replicate n1.toNat (0 : Int)) fun c1 =>
  Option.bind (α := ((List Int) × (List Int))) (
    rfor n1 (ref_TurnedOf_L1 l1) (c1, ([] : List Int))) fun j_3 =>
  Option.bind (slices_Sort_int j_3.2) fun r2 =>
  some r2

/-- layer.Check$1 -/
noncomputable def layer_Check_1 (k1 : Int) (c0_1 : Int) : Option Bool :=
  some ((decide (0 ≤ k1)) && (decide (k1 < c0_1)))

noncomputable def layer_Check_L1 (l1 : (List Link)) (n1 : Int) (i : Int) (s : Unit) : Option (Res Unit (Res Unit Int)) :=
  need (inR l1 i) <|
  bnd (gx l1 i) fun v1 =>
  Option.bind ((fun x0 => layer_Check_1 x0 n1) v1.From) fun r1 =>
  Option.bind (gd (!(!r1)) ((fun x0 => layer_Check_1 x0 n1) v1.To)) fun r2 =>
  bif (!r1) || (!r2) then (
    some (Res.ab (Res.ab 10)))
  else (
    bif decide (v1.From = v1.To) then (
      some (Res.ab (Res.ab 2)))
    else (
      some (Res.nx ())))

/-- layer.Check -/
noncomputable def layer_Check (n1 : Int) (l1 : (List Link)) : Option Int :=
  bif (decide (n1 < 1)) || (decide (60 < n1)) then (
    some 3)
  else (
    bif decide (200 < (l1.length : Int)) then (
      some 4)
    else (
      bindR (σ := Unit) (ρ := Int) (
        rforE (l1.length : Int) (layer_Check_L1 l1 n1) (fun s => Res.nx s) ()) fun j_3 =>
      some 0))

noncomputable def layer_turned_1_L1 (self : (Int × (List Int) × (List Link) × (List Int)) → Option ((List Int) × (List Int))) (x : (Int × (List Int) × (List Link) × (List Int))) (i : Int) (s : ((List Int) × (List Int))) : Option ((List Int) × (List Int)) :=
  need (inR x.2.2.1 i) <|
  bnd (gx x.2.2.1 i) fun v1 =>
  bif !decide (v1.From = x.1) then (
    some (s.1, s.2))
  else (
    need (inR s.1 v1.To) <|
    bnd (gx s.1 v1.To) fun v2 =>
    bif decide (v2 = 1) then (
      need (room (s.2.length + [i].length)) <|
      some (s.1, s.2 ++ [i]))
    else (
      bif decide (v2 = 0) then (
        Option.bind (self (v1.To, s.1, x.2.2.1, s.2)) fun r1 =>
        some (r1.1, r1.2))
      else (
        some (s.1, s.2))))

/-- layer.turned$1 -/
noncomputable def layer_turned_1_body (self : (Int × (List Int) × (List Link) × (List Int)) → Option ((List Int) × (List Int))) (x : (Int × (List Int) × (List Link) × (List Int))) : Option ((List Int) × (List Int)) :=
  need (inR x.2.1 x.1) <|
  bnd (x.2.1.set x.1.toNat 1) fun c1 =>
  Option.bind (α := ((List Int) × (List Int))) (
    rfor (x.2.2.1.length : Int) (layer_turned_1_L1 self x) (c1, x.2.2.2)) fun j_3 =>
  need (inR j_3.1 x.1) <|
  some (j_3.1.set x.1.toNat 2, j_3.2)

noncomputable def layer_turned_1 (k1 : Int) (c0_1 : (List Int)) (c1_1 : (List Link)) (c2_1 : (List Int)) : Option ((List Int) × (List Int)) := fixp layer_turned_1_body (k1, c0_1, c1_1, c2_1)

noncomputable def layer_turned_L1 (l1 : (List Link)) (i : Int) (s : ((List Int) × (List Int))) : Option ((List Int) × (List Int)) :=
  need (inR s.1 i) <|
  bif decide ((gx s.1 i) = 0) then (
    Option.bind (layer_turned_1 i s.1 l1 s.2) fun r1 =>
    some (r1.1, r1.2))
  else (
    some (s.1, s.2))

/-- layer.turned -/
noncomputable def layer_turned (n1 : Int) (l1 : (List Link)) : Option (List Int) :=
  need (0 ≤ n1 ∧ n1 ≤ n1 ∧ n1 ≤ 1073741824) <|
  bnd (List.replicate n1.toNat (0 : Int)) fun c1 =>
  Option.bind (α := ((List Int) × (List Int))) (
    rfor n1 (layer_turned_L1 l1) (c1, ([] : List Int))) fun j_3 =>
  Option.bind (slices_Sort_int j_3.2) fun r2 =>
  some r2

noncomputable def layer_arcs_L1 (l1 : (List Link)) (flow1 : (List Int)) (i : Int) (s : (List Layer_arc)) : Option (List Layer_arc) :=
  need (inR l1 i) <|
  bnd (gx l1 i) fun v1 =>
  need (room (s.length + [(⟨v1.From, v1.To, i, 1⟩ : Layer_arc)].length)) <|
  bnd (s ++ [(⟨v1.From, v1.To, i, 1⟩ : Layer_arc)]) fun out1 =>
  need (inR flow1 i) <|
  bif decide (0 < (gx flow1 i)) then (
    need (room (out1.length + [(⟨v1.To, v1.From, i, (-1)⟩ : Layer_arc)].length)) <|
    some (out1 ++ [(⟨v1.To, v1.From, i, (-1)⟩ : Layer_arc)]))
  else (
    some out1)

/-- layer.arcs -/
noncomputable def layer_arcs (l1 : (List Link)) (flow1 : (List Int)) : Option (List Layer_arc) :=
  Option.bind (α := (List Layer_arc)) (
    rfor (l1.length : Int) (layer_arcs_L1 l1 flow1) ([] : List Layer_arc)) fun j_1 =>
  some j_1

noncomputable def layer_raised_L2 (l1 : (List Layer_arc)) (i : Int) (s : (Int × (List Int) × (List Int))) : Option (Int × (List Int) × (List Int)) :=
  need (inR l1 i) <|
  bnd (gx l1 i) fun v1 =>
  need (inR s.2.1 v1.from_) <|
  need (inR s.2.1 v1.to_) <|
  bif decide ((gx s.2.1 v1.to_) < (W ((gx s.2.1 v1.from_) + v1.gain))) then (
    need (inR s.2.1 v1.from_) <|
    bnd (W ((gx s.2.1 v1.from_) + v1.gain)) fun v2 =>
    need (inR s.2.1 v1.to_) <|
    bnd (s.2.1.set v1.to_.toNat v2) fun ranks2 =>
    need (inR s.2.2 v1.to_) <|
    bnd (s.2.2.set v1.to_.toNat i) fun by2 =>
    some (v1.to_, ranks2, by2))
  else (
    some (s.1, s.2.1, s.2.2))

noncomputable def layer_raised_L1 (l1 : (List Layer_arc)) (i : Int) (s : (Int × (List Int) × (List Int))) : Option (Res (Int × (List Int) × (List Int)) (Res (Int × (List Int) × (List Int)) ((List Int) × (List Layer_arc)))) :=
  Option.bind (α := (Int × (List Int) × (List Int))) (
    rfor (l1.length : Int) (layer_raised_L2 l1) ((-1), s.2.1, s.2.2)) fun j_9 =>
  bif decide (j_9.1 < 0) then (
    some (Res.ab (Res.ab (j_9.2.1, ([] : (List Layer_arc))))))
  else (
    some (Res.nx (j_9.1, j_9.2.1, j_9.2.2)))

noncomputable def layer_raised_L3 (l1 : (List Layer_arc)) (j_5 : (Int × (List Int) × (List Int))) (i : Int) (s : Int) : Option Int :=
  need (inR j_5.2.2 s) <|
  need (inR l1 (gx j_5.2.2 s)) <|
  bnd ((gx l1 (gx j_5.2.2 s)).from_) fun last1 =>
  some last1

noncomputable def layer_raised_L4 (l1 : (List Layer_arc)) (j_5 : (Int × (List Int) × (List Int))) (j_25 : Int) (s32_ : ((List Layer_arc) × Int)) : Option (Step ((List Layer_arc) × Int) ((List Int) × (List Layer_arc))) :=
  need (inR j_5.2.2 s32_.2) <|
  need (inR l1 (gx j_5.2.2 s32_.2)) <|
  bnd (gx l1 (gx j_5.2.2 s32_.2)) fun v3 =>
  need (room (s32_.1.length + [v3].length)) <|
  bnd (s32_.1 ++ [v3]) fun circle1 =>
  bif decide (v3.from_ = j_25) then (
    need (circle1 ≠ []) <|
    some (Step.done (([] : (List Int)), circle1)))
  else (
    some (Step.again (circle1, v3.from_)))

/-- layer.raised -/
noncomputable def layer_raised (n1 : Int) (l1 : (List Layer_arc)) : Option ((List Int) × (List Layer_arc)) :=
  need (0 ≤ n1 ∧ n1 ≤ n1 ∧ n1 ≤ 1073741824) <|
  bnd (List.replicate n1.toNat (0 : Int)) fun ranks1 =>
  need (0 ≤ n1 ∧ n1 ≤ n1 ∧ n1 ≤ 1073741824) <|
  bnd (List.replicate n1.toNat (0 : Int)) fun by1 =>
  bindR (σ := (Int × (List Int) × (List Int))) (ρ := ((List Int) × (List Layer_arc))) (
    rforE (W (n1 + 1)) (layer_raised_L1 l1) (fun s => Res.nx s) ((-1), ranks1, by1)) fun j_5 =>
  Option.bind (α := Int) (
    rfor n1 (layer_raised_L3 l1 j_5) j_5.1) fun j_25 =>
  loop (layer_raised_L4 l1 j_5 j_25) (([] : List Layer_arc), j_25)

noncomputable def layer_pieces_L1  (i : Int) (s : (List Int)) : Option (List Int) :=
  need (inR s i) <|
  some (s.set i.toNat i)

noncomputable def layer_pieces_L3 (l1 : (List Link)) (i : Int) (s : (List Int)) : Option (List Int) :=
  need (inR l1 i) <|
  bnd (gx l1 i) fun v1 =>
  need (inR s v1.From) <|
  need (inR s v1.To) <|
  bnd (min (gx s v1.From) (gx s v1.To)) fun k1 =>
  need (inR s v1.From) <|
  need (inR (s.set v1.From.toNat k1) v1.To) <|
  some ((s.set v1.From.toNat k1).set v1.To.toNat k1)

noncomputable def layer_pieces_L2 (l1 : (List Link)) (i : Int) (s : (List Int)) : Option (List Int) :=
  rfor (l1.length : Int) (layer_pieces_L3 l1) s

/-- layer.pieces -/
noncomputable def layer_pieces (n1 : Int) (l1 : (List Link)) : Option (List Int) :=
  need (0 ≤ n1 ∧ n1 ≤ n1 ∧ n1 ≤ 1073741824) <|
  bnd (List.replicate n1.toNat (0 : Int)) fun of1 =>
  Option.bind (α := (List Int)) (
    rfor (of1.length : Int) layer_pieces_L1 of1) fun j_3 =>
  Option.bind (α := (List Int)) (
    rfor n1 (layer_pieces_L2 l1) j_3) fun j_8 =>
  some j_8

/-- slices.Clone[[]int,int] -/
noncomputable def slices_Clone_int (s1 : (List Int)) : Option (List Int) :=
  nilc s1 (
    some ([] : List Int)) (
    need (room (([] : (List Int)).length + s1.length)) <|
    bnd (([] : (List Int)) ++ s1) fun v1 =>
    some v1)

noncomputable def layer_grounded_L1 (r1 : (List Int)) (of1 : (List Int)) (i : Int) (s : (List Int)) : Option (List Int) :=
  need (inR of1 i) <|
  need (inR of1 i) <|
  need (inR s (gx of1 i)) <|
  need (inR r1 i) <|
  bnd (min (gx s (gx of1 i)) (gx r1 i)) fun v1 =>
  need (inR s (gx of1 i)) <|
  some (s.set (gx of1 i).toNat v1)

noncomputable def layer_grounded_L2 (r1 : (List Int)) (j_3 : (List Int)) (of1 : (List Int)) (i : Int) (s : (List Int)) : Option (List Int) :=
  need (inR r1 i) <|
  need (inR of1 i) <|
  need (inR j_3 (gx of1 i)) <|
  bnd (W ((gx r1 i) - (gx j_3 (gx of1 i)))) fun v2 =>
  need (inR s i) <|
  some (s.set i.toNat v2)

/-- layer.grounded -/
noncomputable def layer_grounded (n1 : Int) (l1 : (List Link)) (r1 : (List Int)) : Option (List Int) :=
  Option.bind (layer_pieces n1 l1) fun of1 =>
  Option.bind (slices_Clone_int r1) fun least1 =>
  Option.bind (α := (List Int)) (
    rfor n1 (layer_grounded_L1 r1 of1) least1) fun j_3 =>
  need (0 ≤ n1 ∧ n1 ≤ n1 ∧ n1 ≤ 1073741824) <|
  bnd (List.replicate n1.toNat (0 : Int)) fun out1 =>
  Option.bind (α := (List Int)) (
    rfor n1 (layer_grounded_L2 r1 j_3 of1) out1) fun j_15 =>
  some j_15

noncomputable def layer_ranks_L1  (i : Int) (s : (List Int)) : Option (List Int) :=
  need (inR s i) <|
  some (s.set i.toNat 1)

noncomputable def layer_ranks_L3 (r2 : ((List Int) × (List Layer_arc))) (s9_ : (List Int)) (i : Int) (s : Int) : Option Int :=
  need (inR r2.2 i) <|
  bnd (gx r2.2 i) fun v2 =>
  need ((decide (v2.gain < 0)) = true → (decide (s < 0)) = false → inR s9_ v2.link) <|
  bif (decide (v2.gain < 0)) && ((decide (s < 0)) || (decide ((gx s9_ v2.link) < s))) then (
    need (inR s9_ v2.link) <|
    bnd (gx s9_ v2.link) fun least1 =>
    some least1)
  else (
    some s)

noncomputable def layer_ranks_L4 (r2 : ((List Int) × (List Layer_arc))) (j_14 : Int) (i : Int) (s : (List Int)) : Option (List Int) :=
  need (inR r2.2 i) <|
  bnd (gx r2.2 i) fun v3 =>
  need (inR s v3.link) <|
  bnd (W ((gx s v3.link) + (W (v3.gain * j_14)))) fun v4 =>
  need (inR s v3.link) <|
  some (s.set v3.link.toNat v4)

noncomputable def layer_ranks_L2 (l1 : (List Link)) (n1 : Int) (s9_ : (List Int)) : Option (Step (List Int) (List Int)) :=
  Option.bind (layer_arcs l1 s9_) fun r1 =>
  Option.bind (layer_raised n1 r1) fun r2 =>
  bif r2.2.isEmpty then (
    Option.bind (layer_grounded n1 l1 r2.1) fun r3 =>
    some (Step.done r3))
  else (
    Option.bind (α := Int) (
      rfor (r2.2.length : Int) (layer_ranks_L3 r2 s9_) (-1)) fun j_14 =>
    Option.bind (α := (List Int)) (
      rfor (r2.2.length : Int) (layer_ranks_L4 r2 j_14) s9_) fun j_24 =>
    some (Step.again j_24))

/-- layer.ranks -/
noncomputable def layer_ranks (n1 : Int) (l1 : (List Link)) : Option (List Int) :=
  bnd ((l1.length : Int)) fun v1 =>
  need (0 ≤ v1 ∧ v1 ≤ v1 ∧ v1 ≤ 1073741824) <|
  bnd (List.replicate v1.toNat (0 : Int)) fun flow1 =>
  Option.bind (α := (List Int)) (
    rfor (flow1.length : Int) layer_ranks_L1 flow1) fun j_4 =>
  loop (layer_ranks_L2 l1 n1) j_4

/-- layer.Ranks -/
noncomputable def layer_Ranks (n1 : Int) (l1 : (List Link)) : Option ((List Int) × Int) :=
  Option.bind (layer_Check n1 l1) fun e1 =>
  bif !decide (e1 = 0) then (
    some (([] : (List Int)), e1))
  else (
    Option.bind (layer_turned n1 l1) fun r1 =>
    bif decide (0 < (r1.length : Int)) then (
      some (([] : (List Int)), 13))
    else (
      Option.bind (layer_ranks n1 l1) fun r2 =>
      some (r2, 0)))

/-- drawlaw1.layers -/
noncomputable def law_layers  : Option Bool :=
  Option.bind (layer_Check 1 ([] : (List Link))) fun r1 =>
  Option.bind (gd ((decide (r1 = 0))) (layer_Check 0 ([] : (List Link)))) fun r2 =>
  some ((decide (r1 = 0)) && (decide (r2 = 3)))

noncomputable def slices_Min_int_L1 (x1 : (List Int)) (s5_ : (Int × Int)) : Option (Step (Int × Int) Int) :=
  bif decide (s5_.2 < (x1.length : Int)) then (
    need (inR x1 s5_.2) <|
    bnd (min s5_.1 (gx x1 s5_.2)) fun m2 =>
    bnd (W (s5_.2 + 1)) fun i1 =>
    some (Step.again (m2, i1)))
  else (
    some (Step.done s5_.1))

/-- slices.Min[[]int,int] -/
noncomputable def slices_Min_int (x1 : (List Int)) : Option Int :=
  bif decide ((x1.length : Int) < 1) then (
    none)
  else (
    need (inR x1 0) <|
    bnd (gx x1 0) fun m1 =>
    Option.bind (α := Int) (
      loop (slices_Min_int_L1 x1) (m1, 1)) fun j_4 =>
    some j_4)

/-- drawref1.AreRanks$1 -/
noncomputable def ref_AreRanks_1 (x1 : Link) (c0_1 : (List Int)) : Option Bool :=
  need (inR c0_1 x1.To) <|
  need (inR c0_1 x1.From) <|
  some (decide ((gx c0_1 x1.To) ≤ (gx c0_1 x1.From)))

noncomputable def slices_IndexFunc_Link_L1 (f1 : (Link → Option Bool)) (s1 : (List Link)) (i : Int) (s : Unit) : Option (Res Unit (Res Unit Int)) :=
  need (inR s1 i) <|
  Option.bind (f1 (gx s1 i)) fun r1 =>
  bif r1 then (
    some (Res.ab (Res.ab i)))
  else (
    some (Res.nx ()))

/-- slices.IndexFunc[[]api.Link,api.Link] -/
noncomputable def slices_IndexFunc_Link (s1 : (List Link)) (f1 : (Link → Option Bool)) : Option Int :=
  bindR (σ := Unit) (ρ := Int) (
    rforE (s1.length : Int) (slices_IndexFunc_Link_L1 f1 s1) (fun s => Res.nx s) ()) fun j_1 =>
  some (-1)

/-- slices.ContainsFunc[[]api.Link,api.Link] -/
noncomputable def slices_ContainsFunc_Link (s1 : (List Link)) (f1 : (Link → Option Bool)) : Option Bool :=
  Option.bind (slices_IndexFunc_Link s1 f1) fun r1 =>
  some (decide (0 ≤ r1))

noncomputable def ref_pieces_L1  (i : Int) (s : (List Int)) : Option (List Int) :=
  need (inR s i) <|
  some (s.set i.toNat i)

noncomputable def ref_pieces_L3 (l1 : (List Link)) (i : Int) (s : (Bool × (List Int))) : Option (Bool × (List Int)) :=
  need (inR l1 i) <|
  bnd (gx l1 i) fun v1 =>
  need (inR s.2 v1.From) <|
  need (inR s.2 v1.To) <|
  bnd (min (gx s.2 v1.From) (gx s.2 v1.To)) fun k1 =>
  need (inR s.2 v1.From) <|
  need ((!decide ((gx s.2 v1.From) = k1)) = false → inR s.2 v1.To) <|
  bif (!decide ((gx s.2 v1.From) = k1)) || (!decide ((gx s.2 v1.To) = k1)) then (
    need (inR s.2 v1.From) <|
    need (inR (s.2.set v1.From.toNat k1) v1.To) <|
    some (true, (s.2.set v1.From.toNat k1).set v1.To.toNat k1))
  else (
    some (s.1, s.2))

noncomputable def ref_pieces_L2 (l1 : (List Link)) (s9_ : (Bool × (List Int))) : Option (Step (Bool × (List Int)) (List Int)) :=
  bif s9_.1 then (
    Option.bind (α := (Bool × (List Int))) (
      rfor (l1.length : Int) (ref_pieces_L3 l1) (false, s9_.2)) fun j_11 =>
    some (Step.again (j_11.1, j_11.2)))
  else (
    some (Step.done s9_.2))

/-- drawref1.pieces -/
noncomputable def ref_pieces (n1 : Int) (l1 : (List Link)) : Option (List Int) :=
  need (0 ≤ n1 ∧ n1 ≤ n1 ∧ n1 ≤ 1073741824) <|
  bnd (List.replicate n1.toNat (0 : Int)) fun p1 =>
  Option.bind (α := (List Int)) (
    rfor (p1.length : Int) ref_pieces_L1 p1) fun j_3 =>
  Option.bind (α := (List Int)) (
    loop (ref_pieces_L2 l1) (true, j_3)) fun j_8 =>
  some j_8

noncomputable def ref_AreRanks_L2 (p1 : (List Int)) (p5_ : Int × Unit) (ranks1 : (List Int)) (i : Int) (s : Int) : Option Int :=
  need (inR p1 i) <|
  need (inR p1 p5_.1) <|
  bif decide ((gx p1 i) = (gx p1 p5_.1)) then (
    need (inR ranks1 i) <|
    bnd (min s (gx ranks1 i)) fun low2 =>
    some low2)
  else (
    some s)

noncomputable def ref_AreRanks_L1 (n1 : Int) (p1 : (List Int)) (ranks1 : (List Int)) (i : Int) (s : Unit) : Option (Res Unit (Res Unit Bool)) :=
  need (inR ranks1 i) <|
  bnd (gx ranks1 i) fun low1 =>
  Option.bind (α := Int) (
    rfor n1 (ref_AreRanks_L2 p1 (i, s) ranks1) low1) fun j_10 =>
  bif !decide (j_10 = 0) then (
    some (Res.ab (Res.ab false)))
  else (
    some (Res.nx ()))

/-- drawref1.AreRanks -/
noncomputable def ref_AreRanks (n1 : Int) (l1 : (List Link)) (ranks1 : (List Int)) : Option Bool :=
  Option.bind (gd (!(!decide ((ranks1.length : Int) = n1))) (slices_ContainsFunc_Link l1 (fun x0 => ref_AreRanks_1 x0 ranks1))) fun r1 =>
  bif (!decide ((ranks1.length : Int) = n1)) || r1 then (
    some false)
  else (
    Option.bind (ref_pieces n1 l1) fun p1 =>
    bindR (σ := Unit) (ρ := Bool) (
      rforE n1 (ref_AreRanks_L1 n1 p1 ranks1) (fun s => Res.nx s) ()) fun j_4 =>
    some true)

noncomputable def ref_bring_L2 (l1 : (List Link)) (s4_ : ((List Int) × (GMap Int Int))) (to1 : Int) (s21_ : (Int × (List Int))) : Option (Step (Int × (List Int)) (List Int)) :=
  bif !decide (s21_.1 = to1) then (
    bnd (s4_.2.getD s21_.1 (0 : Int)) fun i1 =>
    need (inR l1 i1) <|
    bif decide (((gx l1 i1).From) = s21_.1) then (
      need (inR s21_.2 i1) <|
      bnd (W ((gx s21_.2 i1) + 1)) fun v4 =>
      need (inR s21_.2 i1) <|
      bnd (s21_.2.set i1.toNat v4) fun flow2 =>
      need (inR l1 i1) <|
      bnd ((gx l1 i1).To) fun v5 =>
      some (Step.again (v5, flow2)))
    else (
      need (inR s21_.2 i1) <|
      bnd (W ((gx s21_.2 i1) - 1)) fun v6 =>
      need (inR s21_.2 i1) <|
      bnd (s21_.2.set i1.toNat v6) fun flow3 =>
      need (inR l1 i1) <|
      bnd ((gx l1 i1).From) fun v7 =>
      some (Step.again (v7, flow3))))
  else (
    some (Step.done s21_.2))

noncomputable def ref_bring_L3 (l1 : (List Link)) (v1 : Int) (flow1 : (List Int)) (ranks1 : (List Int)) (i : Int) (s : ((List Int) × (GMap Int Int))) : Option ((List Int) × (GMap Int Int)) :=
  need (inR l1 i) <|
  bnd (gx l1 i) fun v8 =>
  need ((decide (v8.To = v1)) = true → inR ranks1 v8.To) <|
  need ((decide (v8.To = v1)) = true → inR ranks1 v8.From) <|
  Option.bind (α := Int) (
    bif (decide (v8.To = v1)) && (decide ((gx ranks1 v8.To) = (W ((gx ranks1 v8.From) + 1)))) then (
      some v8.From)
    else (
      need ((decide (v8.From = v1)) = true → inR flow1 i) <|
      bif (decide (v8.From = v1)) && (decide (0 < (gx flow1 i))) then (
        some v8.To)
      else (
        some (-1)))) fun j_46 =>
  bif decide (0 ≤ j_46) then (
    bif !(s.2.has j_46) then (
      bnd (s.2.set j_46 i) fun came2 =>
      need (room (s.1.length + [j_46].length)) <|
      some (s.1 ++ [j_46], came2))
    else (
      some (s.1, s.2)))
  else (
    some (s.1, s.2))

noncomputable def ref_bring_L1 (l1 : (List Link)) (to1 : Int) (flow1 : (List Int)) (need1 : (List Int)) (ranks1 : (List Int)) (s4_ : ((List Int) × (GMap Int Int))) : Option (Step ((List Int) × (GMap Int Int)) (Res Unit (Bool × (List Int) × (List Int)))) :=
  bif decide (0 < (s4_.1.length : Int)) then (
    bindR (σ := ((List Int) × (GMap Int Int))) (ρ := (Step ((List Int) × (GMap Int Int)) (Res Unit (Bool × (List Int) × (List Int))))) (
      need (inR s4_.1 0) <|
      bnd (gx s4_.1 0) fun v1 =>
      need (inR need1 v1) <|
      bindR (σ := Unit) (ρ := (Res ((List Int) × (GMap Int Int)) (Step ((List Int) × (GMap Int Int)) (Res Unit (Bool × (List Int) × (List Int)))))) (
        bif decide ((gx need1 v1) < 0) then (
          need (inR need1 v1) <|
          bnd (W ((gx need1 v1) + 1)) fun v2 =>
          need (inR need1 v1) <|
          bnd (need1.set v1.toNat v2) fun need2 =>
          need (inR need2 to1) <|
          bnd (W ((gx need2 to1) - 1)) fun v3 =>
          need (inR need2 to1) <|
          bnd (need2.set to1.toNat v3) fun c1 =>
          Option.bind (α := (List Int)) (
            loop (ref_bring_L2 l1 s4_ to1) (v1, flow1)) fun j_20 =>
          some (Res.ab (Res.ab (Step.done (Res.ab (true, c1, j_20))))))
        else (
          some (Res.nx ()))) fun j_10 =>
      Option.bind (α := ((List Int) × (GMap Int Int))) (
        rfor (l1.length : Int) (ref_bring_L3 l1 v1 flow1 ranks1) (s4_.1, s4_.2)) fun j_38 =>
      some (Res.nx (j_38.1, j_38.2))) fun j_6 =>
    need (segR j_6.1.length 1 (j_6.1.length : Int)) <|
    some (Step.again (seg j_6.1 1 (j_6.1.length : Int), j_6.2)))
  else (
    some (Step.done (Res.nx ())))

/-- drawref1.bring -/
noncomputable def ref_bring (to1 : Int) (l1 : (List Link)) (ranks1 : (List Int)) (need1 : (List Int)) (flow1 : (List Int)) : Option (Bool × (List Int) × (List Int)) :=
  bnd ((GMap.nil : (GMap Int Int)).set to1 (-1)) fun came1 =>
  bnd ([to1]) fun queue1 =>
  bindR (σ := Unit) (ρ := (Bool × (List Int) × (List Int))) (
    loop (ref_bring_L1 l1 to1 flow1 need1 ranks1) (queue1, came1)) fun j_3 =>
  some (false, need1, flow1)

noncomputable def ref_AreLeast_L1 (l1 : (List Link)) (i : Int) (s : (List Int)) : Option (List Int) :=
  need (inR l1 i) <|
  bnd (gx l1 i) fun v1 =>
  need (inR s v1.To) <|
  bnd (W ((gx s v1.To) + 1)) fun v2 =>
  need (inR s v1.To) <|
  bnd (s.set v1.To.toNat v2) fun need2 =>
  need (inR need2 v1.From) <|
  bnd (W ((gx need2 v1.From) - 1)) fun v3 =>
  need (inR need2 v1.From) <|
  some (need2.set v1.From.toNat v3)

noncomputable def ref_AreLeast_L3 (l1 : (List Link)) (p20_ : Int × ((List Int) × (List Int))) (ranks1 : (List Int)) (s23_ : ((List Int) × (List Int))) : Option (Step ((List Int) × (List Int)) (Res ((List Int) × (List Int)) (Res ((List Int) × (List Int)) Bool))) :=
  need (inR s23_.1 p20_.1) <|
  bif decide (0 < (gx s23_.1 p20_.1)) then (
    Option.bind (ref_bring p20_.1 l1 ranks1 s23_.1 s23_.2) fun r1 =>
    bif !r1.1 then (
      some (Step.done (Res.ab (Res.ab false))))
    else (
      some (Step.again (r1.2.1, r1.2.2))))
  else (
    some (Step.done (Res.nx (s23_.1, s23_.2))))

noncomputable def ref_AreLeast_L2 (l1 : (List Link)) (ranks1 : (List Int)) (i : Int) (s : ((List Int) × (List Int))) : Option (Res ((List Int) × (List Int)) (Res ((List Int) × (List Int)) Bool)) :=
  loop (ref_AreLeast_L3 l1 (i, s) ranks1) (s.1, s.2)

/-- drawref1.AreLeast -/
noncomputable def ref_AreLeast (n1 : Int) (l1 : (List Link)) (ranks1 : (List Int)) : Option Bool :=
  need (0 ≤ n1 ∧ n1 ≤ n1 ∧ n1 ≤ 1073741824) <|
  bnd (List.replicate n1.toNat (0 : Int)) fun need1 =>
  Option.bind (α := (List Int)) (
    rfor (l1.length : Int) (ref_AreLeast_L1 l1) need1) fun j_3 =>
  bnd ((l1.length : Int)) fun v4 =>
  need (0 ≤ v4 ∧ v4 ≤ v4 ∧ v4 ≤ 1073741824) <|
  bnd (List.replicate v4.toNat (0 : Int)) fun flow1 =>
  bindR (σ := ((List Int) × (List Int))) (ρ := Bool) (
    rforE n1 (ref_AreLeast_L2 l1 ranks1) (fun s => Res.nx s) (j_3, flow1)) fun j_19 =>
  some true

noncomputable def layer_Total_L1 (ranks1 : (List Int)) (i : Int) (s : Unit) : Option (Res Unit (Res Unit (Int × Int))) :=
  need (inR ranks1 i) <|
  bnd (gx ranks1 i) fun r1 =>
  bif (decide (r1 < 0)) || (decide (1000 < r1)) then (
    some (Res.ab (Res.ab (0, 3))))
  else (
    some (Res.nx ()))

noncomputable def layer_Total_L2 (l1 : (List Link)) (ranks1 : (List Int)) (i : Int) (s : Int) : Option (Res Int (Res Int (Int × Int))) :=
  need (inR l1 i) <|
  bnd (gx l1 i) fun v1 =>
  need (inR ranks1 v1.To) <|
  need (inR ranks1 v1.From) <|
  bnd (W ((gx ranks1 v1.To) - (gx ranks1 v1.From))) fun d1 =>
  bif decide (d1 < 1) then (
    some (Res.ab (Res.ab (0, 7))))
  else (
    bnd (W (s + d1)) fun sum1 =>
    some (Res.nx sum1))

/-- layer.Total -/
noncomputable def layer_Total (n1 : Int) (l1 : (List Link)) (ranks1 : (List Int)) : Option (Int × Int) :=
  Option.bind (layer_Check n1 l1) fun e1 =>
  bif !decide (e1 = 0) then (
    some (0, e1))
  else (
    bif !decide ((ranks1.length : Int) = n1) then (
      some (0, 2))
    else (
      bindR (σ := Unit) (ρ := (Int × Int)) (
        rforE (ranks1.length : Int) (layer_Total_L1 ranks1) (fun s => Res.nx s) ()) fun j_4 =>
      bindR (σ := Int) (ρ := (Int × Int)) (
        rforE (l1.length : Int) (layer_Total_L2 l1 ranks1) (fun s => Res.nx s) 0) fun j_11 =>
      some (j_11, 0)))

/-- drawlaw1.RanksAreLeast -/
noncomputable def law_RanksAreLeast (n1 : Int) (l1 : (List Link)) (other1 : (List Int)) : Option Bool :=
  Option.bind (ref_GraphError n1 l1) fun own1 =>
  Option.bind (gd ((decide (own1 = 0))) (ref_TurnedOf n1 l1)) fun r1 =>
  Option.bind (α := Int) (
    bif (decide (own1 = 0)) && (decide (0 < (r1.length : Int))) then (
      some 13)
    else (
      some own1)) fun j_3 =>
  Option.bind (layer_Ranks n1 l1) fun r2 =>
  Option.bind (law_layers) fun r3 =>
  bif (!r3) || (!decide (j_3 = 0)) then (
    Option.bind (law_layers) fun r4 =>
    some ((r4 && (decide ((r2.1.length : Int) = 0))) && (decide (r2.2 = j_3))))
  else (
    Option.bind (gd (!((!decide (r2.2 = 0)) || (!decide ((r2.1.length : Int) = n1)))) (slices_Min_int r2.1)) fun r5 =>
    Option.bind (gd (!(((!decide (r2.2 = 0)) || (!decide ((r2.1.length : Int) = n1))) || (decide (r5 < 0)))) (ref_AreRanks n1 l1 r2.1)) fun r6 =>
    Option.bind (gd (!((((!decide (r2.2 = 0)) || (!decide ((r2.1.length : Int) = n1))) || (decide (r5 < 0))) || (!r6))) (ref_AreLeast n1 l1 r2.1)) fun r7 =>
    bif ((((!decide (r2.2 = 0)) || (!decide ((r2.1.length : Int) = n1))) || (decide (r5 < 0))) || (!r6)) || (!r7) then (
      some false)
    else (
      Option.bind (layer_Total n1 l1 r2.1) fun r8 =>
      Option.bind (layer_Total n1 l1 other1) fun r9 =>
      some ((decide (r8.2 = 0)) && (((!decide (r9.2 = 0)) && (decide (r9.1 = 0))) || ((decide (r9.2 = 0)) && (decide (r8.1 ≤ r9.1)))))))


end Go.DB
