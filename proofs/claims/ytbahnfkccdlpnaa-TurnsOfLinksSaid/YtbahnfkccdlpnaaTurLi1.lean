/-
  What the functions compute, as plain functions (printed by a program of one's own).
-/
import Derived.Test.YtbahnfkccdlpnaaTurTy
set_option maxRecDepth 100000
set_option linter.unusedSimpArgs false
set_option linter.unusedVariables false
namespace Go.DB
open Go Go.RowKit

/-- slices.Sort[[]int,int] -/
noncomputable def slices_Sort_int (l : List Int) : Option (List Int) := need ((l.length : Int) < 4611686018427387904) (some (sortI l))

/-- drawref1.In -/
noncomputable def ref_In (n1 : Int) (low1 : Int) (high1 : Int) : Option Bool :=
  some ((decide (low1 ≤ n1)) && (decide (n1 ≤ high1)))

/-- drawref1.When -/
noncomputable def ref_When (is1 : Bool) (e1 : Int) : Option Int :=
  bif is1 then (
    some e1)
  else (
    some 0)

noncomputable def ref_First_L1 (l1 : (List Int)) (i : Int) (s : Unit) : Option (Res Unit (Res Unit Int)) :=
  need (inR l1 i) <|
  bnd (gx l1 i) fun e1 =>
  bif !decide (e1 = 0) then (
    some (Res.ab (Res.ab e1)))
  else (
    some (Res.nx ()))

/-- drawref1.First -/
noncomputable def ref_First (l1 : (List Int)) : Option Int :=
  bindR (σ := Unit) (ρ := Int) (
    rforE (l1.length : Int) (ref_First_L1 l1) (fun s => Res.nx s) ()) fun j_1 =>
  some 0

noncomputable def ref_GraphError_L1 (l1 : (List Link)) (n1 : Int) (i : Int) (s : Unit) : Option (Res Unit (Res Unit Int)) :=
  need (inR l1 i) <|
  bnd (gx l1 i) fun v1 =>
  Option.bind (ref_In v1.From 0 (W (n1 - 1))) fun r4 =>
  Option.bind (gd (!(!r4)) (ref_In v1.To 0 (W (n1 - 1)))) fun r5 =>
  Option.bind (ref_When ((!r4) || (!r5)) 10) fun r6 =>
  Option.bind (ref_When (decide (v1.From = v1.To)) 2) fun r7 =>
  Option.bind (ref_First [r6, r7]) fun e2 =>
  bif !decide (e2 = 0) then (
    some (Res.ab (Res.ab e2)))
  else (
    some (Res.nx ()))

/-- drawref1.GraphError -/
noncomputable def ref_GraphError (n1 : Int) (l1 : (List Link)) : Option Int :=
  Option.bind (ref_In n1 1 60) fun r1 =>
  Option.bind (ref_When (!r1) 3) fun r2 =>
  Option.bind (ref_When (decide (200 < (l1.length : Int))) 4) fun r3 =>
  Option.bind (ref_First [r2, r3]) fun e1 =>
  bif !decide (e1 = 0) then (
    some e1)
  else (
    bindR (σ := Unit) (ρ := Int) (
      rforE (l1.length : Int) (ref_GraphError_L1 l1 n1) (fun s => Res.nx s) ()) fun j_6 =>
    some 0)

/-- layer.Check$1 -/
noncomputable def layer_Check_1 (k1 : Int) (c0_1 : Int) : Option Bool :=
  some ((decide (0 ≤ k1)) && (decide (k1 < c0_1)))

noncomputable def layer_Check_L1 (l1 : (List Link)) (n1 : Int) (i : Int) (s : Unit) : Option (Res Unit (Res Unit Int)) :=
  need (inR l1 i) <|
  bnd (gx l1 i) fun v1 =>
  Option.bind ((fun x0 => layer_Check_1 x0 n1) v1.From) fun r1 =>
  Option.bind (gd (!(!r1)) ((fun x0 => layer_Check_1 x0 n1) v1.To)) fun r2 =>
  bif (!r1) || (!r2) then (
    some (Res.ab (Res.ab 10)))
  else (
    bif decide (v1.From = v1.To) then (
      some (Res.ab (Res.ab 2)))
    else (
      some (Res.nx ())))

/-- layer.Check -/
noncomputable def layer_Check (n1 : Int) (l1 : (List Link)) : Option Int :=
  bif (decide (n1 < 1)) || (decide (60 < n1)) then (
    some 3)
  else (
    bif decide (200 < (l1.length : Int)) then (
      some 4)
    else (
      bindR (σ := Unit) (ρ := Int) (
        rforE (l1.length : Int) (layer_Check_L1 l1 n1) (fun s => Res.nx s) ()) fun j_3 =>
      some 0))

noncomputable def layer_turned_1_L1 (self : (Int × (List Int) × (List Link) × (List Int)) → Option ((List Int) × (List Int))) (x : (Int × (List Int) × (List Link) × (List Int))) (i : Int) (s : ((List Int) × (List Int))) : Option ((List Int) × (List Int)) :=
  need (inR x.2.2.1 i) <|
  bnd (gx x.2.2.1 i) fun v1 =>
  bif !decide (v1.From = x.1) then (
    some (s.1, s.2))
  else (
    need (inR s.1 v1.To) <|
    bnd (gx s.1 v1.To) fun v2 =>
    bif decide (v2 = 1) then (
      need (room (s.2.length + [i].length)) <|
      some (s.1, s.2 ++ [i]))
    else (
      bif decide (v2 = 0) then (
        Option.bind (self (v1.To, s.1, x.2.2.1, s.2)) fun r1 =>
        some (r1.1, r1.2))
      else (
        some (s.1, s.2))))

/-- layer.turned$1 -/
noncomputable def layer_turned_1_body (self : (Int × (List Int) × (List Link) × (List Int)) → Option ((List Int) × (List Int))) (x : (Int × (List Int) × (List Link) × (List Int))) : Option ((List Int) × (List Int)) :=
  need (inR x.2.1 x.1) <|
  bnd (x.2.1.set x.1.toNat 1) fun c1 =>
  Option.bind (α := ((List Int) × (List Int))) (
    rfor (x.2.2.1.length : Int) (layer_turned_1_L1 self x) (c1, x.2.2.2)) fun j_3 =>
  need (inR j_3.1 x.1) <|
  some (j_3.1.set x.1.toNat 2, j_3.2)

noncomputable def layer_turned_1 (k1 : Int) (c0_1 : (List Int)) (c1_1 : (List Link)) (c2_1 : (List Int)) : Option ((List Int) × (List Int)) := fixp layer_turned_1_body (k1, c0_1, c1_1, c2_1)

noncomputable def layer_turned_L1 (l1 : (List Link)) (i : Int) (s : ((List Int) × (List Int))) : Option ((List Int) × (List Int)) :=
  need (inR s.1 i) <|
  bif decide ((gx s.1 i) = 0) then (
    Option.bind (layer_turned_1 i s.1 l1 s.2) fun r1 =>
    some (r1.1, r1.2))
  else (
    some (s.1, s.2))

/-- layer.turned -/
noncomputable def layer_turned (n1 : Int) (l1 : (List Link)) : Option (List Int) :=
  need (0 ≤ n1 ∧ n1 ≤ n1 ∧ n1 ≤ 1073741824) <|
  bnd (List.replicate n1.toNat (0 : Int)) fun c1 =>
  Option.bind (α := ((List Int) × (List Int))) (
    rfor n1 (layer_turned_L1 l1) (c1, ([] : List Int))) fun j_3 =>
  Option.bind (slices_Sort_int j_3.2) fun r2 =>
  some r2

/-- layer.Turned -/
noncomputable def layer_Turned (n1 : Int) (l1 : (List Link)) : Option ((List Int) × Int) :=
  Option.bind (layer_Check n1 l1) fun e1 =>
  bif !decide (e1 = 0) then (
    some (([] : (List Int)), e1))
  else (
    Option.bind (layer_turned n1 l1) fun r1 =>
    some (r1, 0))

/-- drawlaw1.layers -/
noncomputable def law_layers  : Option Bool :=
  Option.bind (layer_Check 1 ([] : (List Link))) fun r1 =>
  Option.bind (gd ((decide (r1 = 0))) (layer_Check 0 ([] : (List Link)))) fun r2 =>
  some ((decide (r1 = 0)) && (decide (r2 = 3)))

noncomputable def ref_TurnedOf_1_L1 (self : (Int × (List Int) × (List Link) × (List Int)) → Option ((List Int) × (List Int))) (x : (Int × (List Int) × (List Link) × (List Int))) (i : Int) (s : ((List Int) × (List Int))) : Option ((List Int) × (List Int)) :=
  need (inR x.2.2.1 i) <|
  bnd (gx x.2.2.1 i) fun v2 =>
  bif !decide (v2.From = x.1) then (
    some (s.1, s.2))
  else (
    need (inR s.1 v2.To) <|
    bnd (gx s.1 v2.To) fun v3 =>
    bif decide (v3 = 0) then (
      Option.bind (self (v2.To, s.1, x.2.2.1, s.2)) fun r1 =>
      some (r1.1, r1.2))
    else (
      bif decide (v3 = 1) then (
        need (room (s.2.length + [i].length)) <|
        some (s.1, s.2 ++ [i]))
      else (
        some (s.1, s.2))))

/-- drawref1.TurnedOf$1 -/
noncomputable def ref_TurnedOf_1_body (self : (Int × (List Int) × (List Link) × (List Int)) → Option ((List Int) × (List Int))) (x : (Int × (List Int) × (List Link) × (List Int))) : Option ((List Int) × (List Int)) :=
  need (inR x.2.1 x.1) <|
  bnd (x.2.1.set x.1.toNat 1) fun c1 =>
  Option.bind (α := ((List Int) × (List Int))) (
    rfor (x.2.2.1.length : Int) (ref_TurnedOf_1_L1 self x) (c1, x.2.2.2)) fun j_3 =>
  need (inR j_3.1 x.1) <|
  some (j_3.1.set x.1.toNat 2, j_3.2)

noncomputable def ref_TurnedOf_1 (v1 : Int) (c0_1 : (List Int)) (c1_1 : (List Link)) (c3_1 : (List Int)) : Option ((List Int) × (List Int)) := fixp ref_TurnedOf_1_body (v1, c0_1, c1_1, c3_1)

noncomputable def ref_TurnedOf_L1 (l1 : (List Link)) (i : Int) (s : ((List Int) × (List Int))) : Option ((List Int) × (List Int)) :=
  need (inR s.1 i) <|
  bif decide ((gx s.1 i) = 0) then (
    Option.bind (ref_TurnedOf_1 i s.1 l1 s.2) fun r1 =>
    some (r1.1, r1.2))
  else (
    some (s.1, s.2))

/-- drawref1.TurnedOf -/
noncomputable def ref_TurnedOf (n1 : Int) (l1 : (List Link)) : Option (List Int) :=
  need (0 ≤ n1 ∧ n1 ≤ n1 ∧ n1 ≤ 1073741824) <|
  bnd (List.replicate n1.toNat (0 : Int)) fun c1 =>
  Option.bind (α := ((List Int) × (List Int))) (
    rfor n1 (ref_TurnedOf_L1 l1) (c1, ([] : List Int))) fun j_3 =>
  Option.bind (slices_Sort_int j_3.2) fun r2 =>
  some r2

/-- drawlaw1.TurnsOfLinks$1 -/
noncomputable def law_TurnsOfLinks_1 (c0_1 : Int) (c1_1 : (List Link)) : Option (List Int) :=
  Option.bind (ref_TurnedOf c0_1 c1_1) fun r1 =>
  some r1

noncomputable def slices_Equal_int_L1 (s1_1 : (List Int)) (s2_1 : (List Int)) (i : Int) (s : Unit) : Option (Res Unit (Res Unit Bool)) :=
  need (inR s1_1 i) <|
  need (inR s2_1 i) <|
  bif !decide ((gx s1_1 i) = (gx s2_1 i)) then (
    some (Res.ab (Res.ab false)))
  else (
    some (Res.nx ()))

/-- slices.Equal[[]int,int] -/
noncomputable def slices_Equal_int (s1_1 : (List Int)) (s2_1 : (List Int)) : Option Bool :=
  bif !decide ((s1_1.length : Int) = (s2_1.length : Int)) then (
    some false)
  else (
    bindR (σ := Unit) (ρ := Bool) (
      rforE (s1_1.length : Int) (slices_Equal_int_L1 s1_1 s2_1) (fun s => Res.nx s) ()) fun j_2 =>
    some true)

/-- drawlaw1.lists[int] -/
noncomputable def law_lists_int (got1 : (List Int)) (e1 : Int) (want1 : Int) (right1 : (Option (List Int))) : Option Bool :=
  bif !decide (want1 = 0) then (
    some ((decide ((got1.length : Int) = 0)) && (decide (e1 = want1))))
  else (
    Option.bind (gd ((decide (e1 = 0))) (right1)) fun r1 =>
    Option.bind (gd ((decide (e1 = 0))) (slices_Equal_int got1 r1)) fun r2 =>
    some ((decide (e1 = 0)) && r2))

/-- slices.Clone[[]api.Link,api.Link] -/
noncomputable def slices_Clone_Link (s1 : (List Link)) : Option (List Link) :=
  nilc s1 (
    some ([] : List Link)) (
    need (room (([] : (List Link)).length + s1.length)) <|
    bnd (([] : (List Link)) ++ s1) fun v1 =>
    some v1)

noncomputable def ref_Straight_L1 (l1 : (List Link)) (turned1 : (List Int)) (i : Int) (s : (List Link)) : Option (List Link) :=
  need (inR turned1 i) <|
  bnd (gx turned1 i) fun i1 =>
  need (inR l1 i1) <|
  need (inR l1 i1) <|
  bnd ((⟨(gx l1 i1).To, (gx l1 i1).From⟩ : Link)) fun v1 =>
  need (inR s i1) <|
  some (s.set i1.toNat v1)

/-- drawref1.Straight -/
noncomputable def ref_Straight (l1 : (List Link)) (turned1 : (List Int)) : Option (List Link) :=
  Option.bind (slices_Clone_Link l1) fun out1 =>
  Option.bind (α := (List Link)) (
    rfor (turned1.length : Int) (ref_Straight_L1 l1 turned1) out1) fun j_2 =>
  some j_2

/-- drawlaw1.TurnsOfLinks -/
noncomputable def law_TurnsOfLinks (n1 : Int) (l1 : (List Link)) : Option Bool :=
  Option.bind (ref_GraphError n1 l1) fun own1 =>
  Option.bind (layer_Turned n1 l1) fun r1 =>
  Option.bind (law_layers) fun r2 =>
  Option.bind (gd (!(!r2)) (layer_Check n1 l1)) fun r3 =>
  Option.bind (gd (!((!r2) || (!decide (r3 = own1)))) (law_lists_int r1.1 r1.2 own1 (law_TurnsOfLinks_1 n1 l1))) fun r4 =>
  bif ((!r2) || (!decide (r3 = own1))) || (!r4) then (
    some false)
  else (
    Option.bind (gd (!(!decide (own1 = 0))) (ref_Straight l1 r1.1)) fun r5 =>
    Option.bind (gd (!(!decide (own1 = 0))) (ref_TurnedOf n1 r5)) fun r6 =>
    some ((!decide (own1 = 0)) || (decide ((r6.length : Int) = 0))))


end Go.DB
