/-
  What the functions compute, as plain functions (printed by a program of one's own).
-/
import Derived.Test.YtakkmmhjohadaaaTotTy
set_option maxRecDepth 100000
set_option linter.unusedSimpArgs false
set_option linter.unusedVariables false
namespace Go.DB
open Go Go.RowKit

/-- drawlaw1.is[int] -/
noncomputable def law_is_int (got1 : Int) (e1 : Int) (want1 : Int) (right1 : Option Int) : Option Bool :=
  bif !decide (want1 = 0) then (
    some ((decide (got1 = 0)) && (decide (e1 = want1))))
  else (
    Option.bind (gd ((decide (e1 = 0))) (right1)) fun r1 =>
    some ((decide (e1 = 0)) && (decide (got1 = r1))))

/-- layer.Check$1 -/
noncomputable def layer_Check_1 (k1 : Int) (c0_1 : Int) : Option Bool :=
  some ((decide (0 ≤ k1)) && (decide (k1 < c0_1)))

noncomputable def layer_Check_L1 (l1 : (List Link)) (n1 : Int) (i : Int) (s : Unit) : Option (Res Unit (Res Unit Int)) :=
  need (inR l1 i) <|
  bnd (gx l1 i) fun v1 =>
  Option.bind ((fun x0 => layer_Check_1 x0 n1) v1.From) fun r1 =>
  Option.bind (gd (!(!r1)) ((fun x0 => layer_Check_1 x0 n1) v1.To)) fun r2 =>
  bif (!r1) || (!r2) then (
    some (Res.ab (Res.ab 10)))
  else (
    bif decide (v1.From = v1.To) then (
      some (Res.ab (Res.ab 2)))
    else (
      some (Res.nx ())))

/-- layer.Check -/
noncomputable def layer_Check (n1 : Int) (l1 : (List Link)) : Option Int :=
  bif (decide (n1 < 1)) || (decide (60 < n1)) then (
    some 3)
  else (
    bif decide (200 < (l1.length : Int)) then (
      some 4)
    else (
      bindR (σ := Unit) (ρ := Int) (
        rforE (l1.length : Int) (layer_Check_L1 l1 n1) (fun s => Res.nx s) ()) fun j_3 =>
      some 0))

/-- drawlaw1.layers -/
noncomputable def law_layers  : Option Bool :=
  Option.bind (layer_Check 1 ([] : (List Link))) fun r1 =>
  Option.bind (gd ((decide (r1 = 0))) (layer_Check 0 ([] : (List Link)))) fun r2 =>
  some ((decide (r1 = 0)) && (decide (r2 = 3)))

noncomputable def ref_First_L1 (l1 : (List Int)) (i : Int) (s : Unit) : Option (Res Unit (Res Unit Int)) :=
  need (inR l1 i) <|
  bnd (gx l1 i) fun e1 =>
  bif !decide (e1 = 0) then (
    some (Res.ab (Res.ab e1)))
  else (
    some (Res.nx ()))

/-- drawref1.First -/
noncomputable def ref_First (l1 : (List Int)) : Option Int :=
  bindR (σ := Unit) (ρ := Int) (
    rforE (l1.length : Int) (ref_First_L1 l1) (fun s => Res.nx s) ()) fun j_1 =>
  some 0

/-- drawref1.When -/
noncomputable def ref_When (is1 : Bool) (e1 : Int) : Option Int :=
  bif is1 then (
    some e1)
  else (
    some 0)

noncomputable def slices_IndexFunc_int_L1 (f1 : Int → Option Bool) (s1 : (List Int)) (i : Int) (s : Unit) : Option (Res Unit (Res Unit Int)) :=
  need (inR s1 i) <|
  Option.bind (f1 (gx s1 i)) fun r1 =>
  bif r1 then (
    some (Res.ab (Res.ab i)))
  else (
    some (Res.nx ()))

/-- slices.IndexFunc[[]int,int] -/
noncomputable def slices_IndexFunc_int (s1 : (List Int)) (f1 : Int → Option Bool) : Option Int :=
  bindR (σ := Unit) (ρ := Int) (
    rforE (s1.length : Int) (slices_IndexFunc_int_L1 f1 s1) (fun s => Res.nx s) ()) fun j_1 =>
  some (-1)

/-- slices.ContainsFunc[[]int,int] -/
noncomputable def slices_ContainsFunc_int (s1 : (List Int)) (f1 : Int → Option Bool) : Option Bool :=
  Option.bind (slices_IndexFunc_int s1 f1) fun r1 =>
  some (decide (0 ≤ r1))

/-- drawref1.In -/
noncomputable def ref_In (n1 : Int) (low1 : Int) (high1 : Int) : Option Bool :=
  some ((decide (low1 ≤ n1)) && (decide (n1 ≤ high1)))

noncomputable def ref_GraphError_L1 (l1 : (List Link)) (n1 : Int) (i : Int) (s : Unit) : Option (Res Unit (Res Unit Int)) :=
  need (inR l1 i) <|
  bnd (gx l1 i) fun v1 =>
  Option.bind (ref_In v1.From 0 (W (n1 - 1))) fun r4 =>
  Option.bind (gd (!(!r4)) (ref_In v1.To 0 (W (n1 - 1)))) fun r5 =>
  Option.bind (ref_When ((!r4) || (!r5)) 10) fun r6 =>
  Option.bind (ref_When (decide (v1.From = v1.To)) 2) fun r7 =>
  Option.bind (ref_First [r6, r7]) fun e2 =>
  bif !decide (e2 = 0) then (
    some (Res.ab (Res.ab e2)))
  else (
    some (Res.nx ()))

/-- drawref1.GraphError -/
noncomputable def ref_GraphError (n1 : Int) (l1 : (List Link)) : Option Int :=
  Option.bind (ref_In n1 1 60) fun r1 =>
  Option.bind (ref_When (!r1) 3) fun r2 =>
  Option.bind (ref_When (decide (200 < (l1.length : Int))) 4) fun r3 =>
  Option.bind (ref_First [r2, r3]) fun e1 =>
  bif !decide (e1 = 0) then (
    some e1)
  else (
    bindR (σ := Unit) (ρ := Int) (
      rforE (l1.length : Int) (ref_GraphError_L1 l1 n1) (fun s => Res.nx s) ()) fun j_6 =>
    some 0)

noncomputable def layer_Total_L1 (ranks1 : (List Int)) (i : Int) (s : Unit) : Option (Res Unit (Res Unit (Int × Int))) :=
  need (inR ranks1 i) <|
  bnd (gx ranks1 i) fun r1 =>
  bif (decide (r1 < 0)) || (decide (1000 < r1)) then (
    some (Res.ab (Res.ab (0, 3))))
  else (
    some (Res.nx ()))

noncomputable def layer_Total_L2 (l1 : (List Link)) (ranks1 : (List Int)) (i : Int) (s : Int) : Option (Res Int (Res Int (Int × Int))) :=
  need (inR l1 i) <|
  bnd (gx l1 i) fun v1 =>
  need (inR ranks1 v1.To) <|
  need (inR ranks1 v1.From) <|
  bnd (W ((gx ranks1 v1.To) - (gx ranks1 v1.From))) fun d1 =>
  bif decide (d1 < 1) then (
    some (Res.ab (Res.ab (0, 7))))
  else (
    bnd (W (s + d1)) fun sum1 =>
    some (Res.nx sum1))

/-- layer.Total -/
noncomputable def layer_Total (n1 : Int) (l1 : (List Link)) (ranks1 : (List Int)) : Option (Int × Int) :=
  Option.bind (layer_Check n1 l1) fun e1 =>
  bif !decide (e1 = 0) then (
    some (0, e1))
  else (
    bif !decide ((ranks1.length : Int) = n1) then (
      some (0, 2))
    else (
      bindR (σ := Unit) (ρ := (Int × Int)) (
        rforE (ranks1.length : Int) (layer_Total_L1 ranks1) (fun s => Res.nx s) ()) fun j_4 =>
      bindR (σ := Int) (ρ := (Int × Int)) (
        rforE (l1.length : Int) (layer_Total_L2 l1 ranks1) (fun s => Res.nx s) 0) fun j_11 =>
      some (j_11, 0)))

/-- drawlaw1.TotalsMatch$1 -/
noncomputable def law_TotalsMatch_1 (k1 : Int) : Option Bool :=
  Option.bind (ref_In k1 0 1000) fun r1 =>
  some (!r1)

/-- drawlaw1.TotalsMatch$2 -/
noncomputable def law_TotalsMatch_2 (c0_1 : Int) : Option Int :=
  some c0_1

noncomputable def law_TotalsMatch_L1 (l1 : (List Link)) (ranks1 : (List Int)) (i : Int) (s : (Int × Int)) : Option (Int × Int) :=
  need (inR l1 i) <|
  bnd (gx l1 i) fun v1 =>
  need (inR ranks1 v1.To) <|
  need (inR ranks1 v1.From) <|
  bnd (W (s.2 + (W ((gx ranks1 v1.To) - (gx ranks1 v1.From))))) fun v2 =>
  need (inR ranks1 v1.To) <|
  need (inR ranks1 v1.From) <|
  Option.bind (ref_When (decide ((gx ranks1 v1.To) ≤ (gx ranks1 v1.From))) 7) fun r6 =>
  Option.bind (ref_First [s.1, r6]) fun want2 =>
  some (want2, v2)

/-- drawlaw1.TotalsMatch -/
noncomputable def law_TotalsMatch (n1 : Int) (l1 : (List Link)) (ranks1 : (List Int)) : Option Bool :=
  Option.bind (layer_Total n1 l1 ranks1) fun r1 =>
  Option.bind (ref_GraphError n1 l1) fun r2 =>
  Option.bind (ref_When (!decide ((ranks1.length : Int) = n1)) 2) fun r3 =>
  Option.bind (slices_ContainsFunc_int ranks1 law_TotalsMatch_1) fun r4 =>
  Option.bind (ref_When r4 3) fun r5 =>
  Option.bind (ref_First [r2, r3, r5]) fun want1 =>
  Option.bind (α := (Int × Int)) (
    bif decide (want1 = 0) then (
      rfor (l1.length : Int) (law_TotalsMatch_L1 l1 ranks1) (want1, 0))
    else (
      some (want1, 0))) fun j_7 =>
  Option.bind (law_layers) fun r7 =>
  Option.bind (gd (r7) (law_is_int r1.1 r1.2 j_7.1 (law_TotalsMatch_2 j_7.2))) fun r8 =>
  some (r7 && r8)


end Go.DB
