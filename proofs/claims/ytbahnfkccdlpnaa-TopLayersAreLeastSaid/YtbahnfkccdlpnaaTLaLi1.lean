/-
  What the functions compute, as plain functions (printed by a program of one's own).
-/
import Derived.Test.YtbahnfkccdlpnaaTLaTy
set_option maxRecDepth 100000
set_option linter.unusedSimpArgs false
set_option linter.unusedVariables false
namespace Go.DB
open Go Go.RowKit

/-- slices.Sort[[]int,int] -/
noncomputable def slices_Sort_int (l : List Int) : Option (List Int) := need ((l.length : Int) < 4611686018427387904) (some (sortI l))

/-- slices.Compact[[]int,int] -/
noncomputable def slices_Compact_int (l : List Int) : Option (List Int) := need ((l.length : Int) < 4611686018427387904) (some (compactI l))

/-- slices.Values[[]int,int] -/
noncomputable def slices_Values_int (l : List Int) : Option SeqI := some ⟨l⟩

/-- slices.Sorted[int] -/
noncomputable def slices_Sorted_int (x : SeqI) : Option (List Int) := need (x.l.length ≤ 1073741824) (some (sortI x.l))

/-- layer.Check$1 -/
noncomputable def layer_Check_1 (k1 : Int) (c0_1 : Int) : Option Bool :=
 some ((decide (0 ≤ k1)) && (decide (k1 < c0_1)))

noncomputable def layer_Check_L1 (l1 : (List Link)) (n1 : Int) (i : Int) (s : Unit) : Option (Res Unit (Res Unit Int)) :=
 need (inR l1 i) <|
 bnd (gx l1 i) fun v1 =>
 Option.bind ((fun x0 => layer_Check_1 x0 n1) v1.From) fun r1 =>
 Option.bind (gd (!(!r1)) ((fun x0 => layer_Check_1 x0 n1) v1.To)) fun r2 =>
 bif (!r1) || (!r2) then (
  some (Res.ab (Res.ab 10)))
 else (
  bif decide (v1.From = v1.To) then (
   some (Res.ab (Res.ab 2)))
  else (
   some (Res.nx ())))

/-- layer.Check -/
noncomputable def layer_Check (n1 : Int) (l1 : (List Link)) : Option Int :=
 bif (decide (n1 < 1)) || (decide (60 < n1)) then (
  some 3)
 else (
  bif decide (200 < (l1.length : Int)) then (
   some 4)
  else (
   bindR (σ := Unit) (ρ := Int) (
    rforE (l1.length : Int) (layer_Check_L1 l1 n1) (fun s => Res.nx s) ()) fun j_3 =>
   some 0))

/-- slices.Clone[[]api.Link,api.Link] -/
noncomputable def slices_Clone_Link (s1 : (List Link)) : Option (List Link) :=
 nilc s1 (
  some ([] : List Link)) (
  need (room (([] : (List Link)).length + s1.length)) <|
  bnd (([] : (List Link)) ++ s1) fun v1 =>
  some v1)

noncomputable def layer_turned_1_L1 (self : (Int × (List Int) × (List Link) × (List Int)) → Option ((List Int) × (List Int))) (x : (Int × (List Int) × (List Link) × (List Int))) (i : Int) (s : ((List Int) × (List Int))) : Option ((List Int) × (List Int)) :=
 need (inR x.2.2.1 i) <|
 bnd (gx x.2.2.1 i) fun v1 =>
 bif !decide (v1.From = x.1) then (
  some (s.1, s.2))
 else (
  need (inR s.1 v1.To) <|
  bnd (gx s.1 v1.To) fun v2 =>
  bif decide (v2 = 1) then (
   need (room (s.2.length + [i].length)) <|
   some (s.1, s.2 ++ [i]))
  else (
   bif decide (v2 = 0) then (
    Option.bind (self (v1.To, s.1, x.2.2.1, s.2)) fun r1 =>
    some (r1.1, r1.2))
   else (
    some (s.1, s.2))))

/-- layer.turned$1 -/
noncomputable def layer_turned_1_body (self : (Int × (List Int) × (List Link) × (List Int)) → Option ((List Int) × (List Int))) (x : (Int × (List Int) × (List Link) × (List Int))) : Option ((List Int) × (List Int)) :=
 need (inR x.2.1 x.1) <|
 bnd (x.2.1.set x.1.toNat 1) fun c1 =>
 Option.bind (α := ((List Int) × (List Int))) (
  rfor (x.2.2.1.length : Int) (layer_turned_1_L1 self x) (c1, x.2.2.2)) fun j_3 =>
 need (inR j_3.1 x.1) <|
 some (j_3.1.set x.1.toNat 2, j_3.2)

noncomputable def layer_turned_1 (k1 : Int) (c0_1 : (List Int)) (c1_1 : (List Link)) (c2_1 : (List Int)) : Option ((List Int) × (List Int)) := fixp layer_turned_1_body (k1, c0_1, c1_1, c2_1)

noncomputable def layer_turned_L1 (l1 : (List Link)) (i : Int) (s : ((List Int) × (List Int))) : Option ((List Int) × (List Int)) :=
 need (inR s.1 i) <|
 bif decide ((gx s.1 i) = 0) then (
  Option.bind (layer_turned_1 i s.1 l1 s.2) fun r1 =>
  some (r1.1, r1.2))
 else (
  some (s.1, s.2))

/-- layer.turned -/
noncomputable def layer_turned (n1 : Int) (l1 : (List Link)) : Option (List Int) :=
 need (0 ≤ n1 ∧ n1 ≤ n1 ∧ n1 ≤ 1073741824) <|
 bnd (List.replicate n1.toNat (0 : Int)) fun c1 =>
 Option.bind (α := ((List Int) × (List Int))) (
  rfor n1 (layer_turned_L1 l1) (c1, ([] : List Int))) fun j_3 =>
 Option.bind (slices_Sort_int j_3.2) fun r2 =>
 some r2

noncomputable def layer_arcs_L1 (l1 : (List Link)) (flow1 : (List Int)) (i : Int) (s : (List Layer_arc)) : Option (List Layer_arc) :=
 need (inR l1 i) <|
 bnd (gx l1 i) fun v1 =>
 need (room (s.length + [(⟨v1.From, v1.To, i, 1⟩ : Layer_arc)].length)) <|
 bnd (s ++ [(⟨v1.From, v1.To, i, 1⟩ : Layer_arc)]) fun out1 =>
 need (inR flow1 i) <|
 bif decide (0 < (gx flow1 i)) then (
  need (room (out1.length + [(⟨v1.To, v1.From, i, (-1)⟩ : Layer_arc)].length)) <|
  some (out1 ++ [(⟨v1.To, v1.From, i, (-1)⟩ : Layer_arc)]))
 else (
  some out1)

/-- layer.arcs -/
noncomputable def layer_arcs (l1 : (List Link)) (flow1 : (List Int)) : Option (List Layer_arc) :=
 Option.bind (α := (List Layer_arc)) (
  rfor (l1.length : Int) (layer_arcs_L1 l1 flow1) ([] : List Layer_arc)) fun j_1 =>
 some j_1

noncomputable def layer_raised_L2 (l1 : (List Layer_arc)) (i : Int) (s : (Int × (List Int) × (List Int))) : Option (Int × (List Int) × (List Int)) :=
 need (inR l1 i) <|
 bnd (gx l1 i) fun v1 =>
 need (inR s.2.1 v1.from_) <|
 need (inR s.2.1 v1.to_) <|
 bif decide ((gx s.2.1 v1.to_) < (W ((gx s.2.1 v1.from_) + v1.gain))) then (
  need (inR s.2.1 v1.from_) <|
  bnd (W ((gx s.2.1 v1.from_) + v1.gain)) fun v2 =>
  need (inR s.2.1 v1.to_) <|
  bnd (s.2.1.set v1.to_.toNat v2) fun ranks2 =>
  need (inR s.2.2 v1.to_) <|
  bnd (s.2.2.set v1.to_.toNat i) fun by2 =>
  some (v1.to_, ranks2, by2))
 else (
  some (s.1, s.2.1, s.2.2))

noncomputable def layer_raised_L1 (l1 : (List Layer_arc)) (i : Int) (s : (Int × (List Int) × (List Int))) : Option (Res (Int × (List Int) × (List Int)) (Res (Int × (List Int) × (List Int)) ((List Int) × (List Layer_arc)))) :=
 Option.bind (α := (Int × (List Int) × (List Int))) (
  rfor (l1.length : Int) (layer_raised_L2 l1) ((-1), s.2.1, s.2.2)) fun j_9 =>
 bif decide (j_9.1 < 0) then (
  some (Res.ab (Res.ab (j_9.2.1, ([] : (List Layer_arc))))))
 else (
  some (Res.nx (j_9.1, j_9.2.1, j_9.2.2)))

noncomputable def layer_raised_L3 (l1 : (List Layer_arc)) (j_5 : (Int × (List Int) × (List Int))) (i : Int) (s : Int) : Option Int :=
 need (inR j_5.2.2 s) <|
 need (inR l1 (gx j_5.2.2 s)) <|
 bnd ((gx l1 (gx j_5.2.2 s)).from_) fun last1 =>
 some last1

noncomputable def layer_raised_L4 (l1 : (List Layer_arc)) (j_5 : (Int × (List Int) × (List Int))) (j_25 : Int) (s32_ : ((List Layer_arc) × Int)) : Option (Step ((List Layer_arc) × Int) ((List Int) × (List Layer_arc))) :=
 need (inR j_5.2.2 s32_.2) <|
 need (inR l1 (gx j_5.2.2 s32_.2)) <|
 bnd (gx l1 (gx j_5.2.2 s32_.2)) fun v3 =>
 need (room (s32_.1.length + [v3].length)) <|
 bnd (s32_.1 ++ [v3]) fun circle1 =>
 bif decide (v3.from_ = j_25) then (
  need (circle1 ≠ []) <|
  some (Step.done (([] : (List Int)), circle1)))
 else (
  some (Step.again (circle1, v3.from_)))

/-- layer.raised -/
noncomputable def layer_raised (n1 : Int) (l1 : (List Layer_arc)) : Option ((List Int) × (List Layer_arc)) :=
 need (0 ≤ n1 ∧ n1 ≤ n1 ∧ n1 ≤ 1073741824) <|
 bnd (List.replicate n1.toNat (0 : Int)) fun ranks1 =>
 need (0 ≤ n1 ∧ n1 ≤ n1 ∧ n1 ≤ 1073741824) <|
 bnd (List.replicate n1.toNat (0 : Int)) fun by1 =>
 bindR (σ := (Int × (List Int) × (List Int))) (ρ := ((List Int) × (List Layer_arc))) (
  rforE (W (n1 + 1)) (layer_raised_L1 l1) (fun s => Res.nx s) ((-1), ranks1, by1)) fun j_5 =>
 Option.bind (α := Int) (
  rfor n1 (layer_raised_L3 l1 j_5) j_5.1) fun j_25 =>
 loop (layer_raised_L4 l1 j_5 j_25) (([] : List Layer_arc), j_25)

noncomputable def layer_pieces_L1  (i : Int) (s : (List Int)) : Option (List Int) :=
 need (inR s i) <|
 some (s.set i.toNat i)

noncomputable def layer_pieces_L3 (l1 : (List Link)) (i : Int) (s : (List Int)) : Option (List Int) :=
 need (inR l1 i) <|
 bnd (gx l1 i) fun v1 =>
 need (inR s v1.From) <|
 need (inR s v1.To) <|
 bnd (min (gx s v1.From) (gx s v1.To)) fun k1 =>
 need (inR s v1.From) <|
 need (inR (s.set v1.From.toNat k1) v1.To) <|
 some ((s.set v1.From.toNat k1).set v1.To.toNat k1)

noncomputable def layer_pieces_L2 (l1 : (List Link)) (i : Int) (s : (List Int)) : Option (List Int) :=
 rfor (l1.length : Int) (layer_pieces_L3 l1) s

/-- layer.pieces -/
noncomputable def layer_pieces (n1 : Int) (l1 : (List Link)) : Option (List Int) :=
 need (0 ≤ n1 ∧ n1 ≤ n1 ∧ n1 ≤ 1073741824) <|
 bnd (List.replicate n1.toNat (0 : Int)) fun of1 =>
 Option.bind (α := (List Int)) (
  rfor (of1.length : Int) layer_pieces_L1 of1) fun j_3 =>
 Option.bind (α := (List Int)) (
  rfor n1 (layer_pieces_L2 l1) j_3) fun j_8 =>
 some j_8

/-- slices.Clone[[]int,int] -/
noncomputable def slices_Clone_int (s1 : (List Int)) : Option (List Int) :=
 nilc s1 (
  some ([] : List Int)) (
  need (room (([] : (List Int)).length + s1.length)) <|
  bnd (([] : (List Int)) ++ s1) fun v1 =>
  some v1)

noncomputable def layer_grounded_L1 (r1 : (List Int)) (of1 : (List Int)) (i : Int) (s : (List Int)) : Option (List Int) :=
 need (inR of1 i) <|
 need (inR of1 i) <|
 need (inR s (gx of1 i)) <|
 need (inR r1 i) <|
 bnd (min (gx s (gx of1 i)) (gx r1 i)) fun v1 =>
 need (inR s (gx of1 i)) <|
 some (s.set (gx of1 i).toNat v1)

noncomputable def layer_grounded_L2 (r1 : (List Int)) (j_3 : (List Int)) (of1 : (List Int)) (i : Int) (s : (List Int)) : Option (List Int) :=
 need (inR r1 i) <|
 need (inR of1 i) <|
 need (inR j_3 (gx of1 i)) <|
 bnd (W ((gx r1 i) - (gx j_3 (gx of1 i)))) fun v2 =>
 need (inR s i) <|
 some (s.set i.toNat v2)

/-- layer.grounded -/
noncomputable def layer_grounded (n1 : Int) (l1 : (List Link)) (r1 : (List Int)) : Option (List Int) :=
 Option.bind (layer_pieces n1 l1) fun of1 =>
 Option.bind (slices_Clone_int r1) fun least1 =>
 Option.bind (α := (List Int)) (
  rfor n1 (layer_grounded_L1 r1 of1) least1) fun j_3 =>
 need (0 ≤ n1 ∧ n1 ≤ n1 ∧ n1 ≤ 1073741824) <|
 bnd (List.replicate n1.toNat (0 : Int)) fun out1 =>
 Option.bind (α := (List Int)) (
  rfor n1 (layer_grounded_L2 r1 j_3 of1) out1) fun j_15 =>
 some j_15

noncomputable def layer_ranks_L1  (i : Int) (s : (List Int)) : Option (List Int) :=
 need (inR s i) <|
 some (s.set i.toNat 1)

noncomputable def layer_ranks_L3 (r2 : ((List Int) × (List Layer_arc))) (s9_ : (List Int)) (i : Int) (s : Int) : Option Int :=
 need (inR r2.2 i) <|
 bnd (gx r2.2 i) fun v2 =>
 need ((decide (v2.gain < 0)) = true → (decide (s < 0)) = false → inR s9_ v2.link) <|
 bif (decide (v2.gain < 0)) && ((decide (s < 0)) || (decide ((gx s9_ v2.link) < s))) then (
  need (inR s9_ v2.link) <|
  bnd (gx s9_ v2.link) fun least1 =>
  some least1)
 else (
  some s)

noncomputable def layer_ranks_L4 (r2 : ((List Int) × (List Layer_arc))) (j_14 : Int) (i : Int) (s : (List Int)) : Option (List Int) :=
 need (inR r2.2 i) <|
 bnd (gx r2.2 i) fun v3 =>
 need (inR s v3.link) <|
 bnd (W ((gx s v3.link) + (W (v3.gain * j_14)))) fun v4 =>
 need (inR s v3.link) <|
 some (s.set v3.link.toNat v4)

noncomputable def layer_ranks_L2 (l1 : (List Link)) (n1 : Int) (s9_ : (List Int)) : Option (Step (List Int) (List Int)) :=
 Option.bind (layer_arcs l1 s9_) fun r1 =>
 Option.bind (layer_raised n1 r1) fun r2 =>
 bif r2.2.isEmpty then (
  Option.bind (layer_grounded n1 l1 r2.1) fun r3 =>
  some (Step.done r3))
 else (
  Option.bind (α := Int) (
   rfor (r2.2.length : Int) (layer_ranks_L3 r2 s9_) (-1)) fun j_14 =>
  Option.bind (α := (List Int)) (
   rfor (r2.2.length : Int) (layer_ranks_L4 r2 j_14) s9_) fun j_24 =>
  some (Step.again j_24))

/-- layer.ranks -/
noncomputable def layer_ranks (n1 : Int) (l1 : (List Link)) : Option (List Int) :=
 bnd ((l1.length : Int)) fun v1 =>
 need (0 ≤ v1 ∧ v1 ≤ v1 ∧ v1 ≤ 1073741824) <|
 bnd (List.replicate v1.toNat (0 : Int)) fun flow1 =>
 Option.bind (α := (List Int)) (
  rfor (flow1.length : Int) layer_ranks_L1 flow1) fun j_4 =>
 loop (layer_ranks_L2 l1 n1) j_4

noncomputable def slices_Max_int_L1 (x1 : (List Int)) (s5_ : (Int × Int)) : Option (Step (Int × Int) Int) :=
 bif decide (s5_.2 < (x1.length : Int)) then (
  need (inR x1 s5_.2) <|
  bnd (max s5_.1 (gx x1 s5_.2)) fun m2 =>
  bnd (W (s5_.2 + 1)) fun i1 =>
  some (Step.again (m2, i1)))
 else (
  some (Step.done s5_.1))

/-- slices.Max[[]int,int] -/
noncomputable def slices_Max_int (x1 : (List Int)) : Option Int :=
 bif decide ((x1.length : Int) < 1) then (
  none)
 else (
  need (inR x1 0) <|
  bnd (gx x1 0) fun m1 =>
  Option.bind (α := Int) (
   loop (slices_Max_int_L1 x1) (m1, 1)) fun j_4 =>
  some j_4)

/-- layer.Draw$1 -/
noncomputable def layer_Draw_1 (x1 : Link) (c0_1 : (List Int)) : Option Bool :=
 need (inR c0_1 x1.To) <|
 need (inR c0_1 x1.From) <|
 some (!decide ((gx c0_1 x1.To) = (W ((gx c0_1 x1.From) + 1))))

noncomputable def slices_IndexFunc_Link_L1 (f1 : (Link → Option Bool)) (s1 : (List Link)) (i : Int) (s : Unit) : Option (Res Unit (Res Unit Int)) :=
 need (inR s1 i) <|
 Option.bind (f1 (gx s1 i)) fun r1 =>
 bif r1 then (
  some (Res.ab (Res.ab i)))
 else (
  some (Res.nx ()))

/-- slices.IndexFunc[[]api.Link,api.Link] -/
noncomputable def slices_IndexFunc_Link (s1 : (List Link)) (f1 : (Link → Option Bool)) : Option Int :=
 bindR (σ := Unit) (ρ := Int) (
  rforE (s1.length : Int) (slices_IndexFunc_Link_L1 f1 s1) (fun s => Res.nx s) ()) fun j_1 =>
 some (-1)

noncomputable def slices_DeleteFunc_Link_L1 (del1 : (Link → Option Bool)) (s5_ : (Int × Int × (List Link))) : Option (Step (Int × Int × (List Link)) (Int × (List Link))) :=
 bif decide (s5_.2.1 < (s5_.2.2.length : Int)) then (
  Option.bind (α := (Int × (List Link))) (
   need (inR s5_.2.2 s5_.2.1) <|
   bnd (gx s5_.2.2 s5_.2.1) fun v1 =>
   Option.bind (del1 v1) fun r1 =>
   bif !r1 then (
    need (inR s5_.2.2 s5_.1) <|
    bnd (s5_.2.2.set s5_.1.toNat v1) fun s2 =>
    bnd (W (s5_.1 + 1)) fun i2 =>
    some (i2, s2))
   else (
    some (s5_.1, s5_.2.2))) fun j_7 =>
  bnd (W (s5_.2.1 + 1)) fun j2 =>
  some (Step.again (j_7.1, j2, j_7.2)))
 else (
  some (Step.done (s5_.1, s5_.2.2)))

/-- slices.DeleteFunc[[]api.Link,api.Link] -/
noncomputable def slices_DeleteFunc_Link (s1 : (List Link)) (del1 : (Link → Option Bool)) : Option (List Link) :=
 Option.bind (slices_IndexFunc_Link s1 del1) fun i1 =>
 bif decide (i1 = (-1)) then (
  some s1)
 else (
  bnd (W (i1 + 1)) fun j1 =>
  Option.bind (α := (Int × (List Link))) (
   loop (slices_DeleteFunc_Link_L1 del1) (i1, j1, s1)) fun j_4 =>
  need (segR j_4.2.length j_4.1 (j_4.2.length : Int)) <|
  bnd (j_4.2.take j_4.1.toNat ++ List.replicate (j_4.2.length - j_4.1.toNat) (⟨(0 : Int), (0 : Int)⟩ : Link)) fun s3 =>
  need (segR s3.length 0 j_4.1) <|
  bnd (seg s3 0 j_4.1) fun v2 =>
  some v2)

/-- slices.Clone[[][]int,[]int] -/
noncomputable def slices_Clone_Lint (s1 : (List (List Int))) : Option (List (List Int)) :=
 nilc s1 (
  some ([] : List (List Int))) (
  need (room (([] : (List (List Int))).length + s1.length)) <|
  bnd (([] : (List (List Int))) ++ s1) fun v1 =>
  some v1)

/-- slices.Clone[[][]int,[]int], of a row of one's own -/
noncomputable def slices_Clone_Lint_own (l : List (List Int)) : Option (List (List Int) × List (List Int)) := need (l.length ≤ 1073741824) (some (l, l))

noncomputable def layer_places_L1 (row1 : (List Int)) (i : Int) (s : (GMap Int Int)) : Option (GMap Int Int) :=
 need (inR row1 i) <|
 some (s.set (gx row1 i) i)

/-- layer.places -/
noncomputable def layer_places (row1 : (List Int)) : Option (GMap Int Int) :=
 bnd ((GMap.nil : (GMap Int Int))) fun out1 =>
 Option.bind (α := (GMap Int Int)) (
  rfor (row1.length : Int) (layer_places_L1 row1) out1) fun j_2 =>
 some j_2

/-- layer.all$1 -/
noncomputable def layer_all_1 (x1 : Link) (c0_1 : (GMap Int Int)) (c1_1 : (GMap Int Int)) : Option Bool :=
 some ((!(c0_1.has x1.From)) || (!(c1_1.has x1.To)))

noncomputable def layer_crossings_L2 (v1 : Link) (v2 : (List Link)) (up1 : (GMap Int Int)) (low1 : (GMap Int Int)) (i : Int) (s : Int) : Option Int :=
 need (inR v2 i) <|
 bnd (gx v2 i) fun v3 =>
 bif decide ((W ((W ((up1.getD v1.From (0 : Int)) - (up1.getD v3.From (0 : Int)))) * (W ((low1.getD v1.To (0 : Int)) - (low1.getD v3.To (0 : Int)))))) < 0) then (
  bnd (W (s + 1)) fun n1 =>
  some n1)
 else (
  some s)

noncomputable def layer_crossings_L1 (l1 : (List Link)) (up1 : (GMap Int Int)) (low1 : (GMap Int Int)) (i : Int) (s : Int) : Option Int :=
 need (inR l1 i) <|
 bnd (gx l1 i) fun v1 =>
 need (segR l1.length 0 i) <|
 bnd (seg l1 0 i) fun v2 =>
 rfor (v2.length : Int) (layer_crossings_L2 v1 v2 up1 low1) s

/-- layer.crossings -/
noncomputable def layer_crossings (upper1 : (List Int)) (lower1 : (List Int)) (l1 : (List Link)) : Option Int :=
 Option.bind (layer_places upper1) fun up1 =>
 Option.bind (layer_places lower1) fun low1 =>
 Option.bind (α := Int) (
  rfor (l1.length : Int) (layer_crossings_L1 l1 up1 low1) 0) fun j_3 =>
 some j_3

noncomputable def layer_all_L1 (l1 : (List Link)) (rows1 : (List (List Int))) (s2_ : (Int × Int)) : Option (Step (Int × Int) Int) :=
 bif decide (s2_.2 < (rows1.length : Int)) then (
  need (inR rows1 (W (s2_.2 - 1))) <|
  Option.bind (layer_places (gx rows1 (W (s2_.2 - 1)))) fun r1 =>
  need (inR rows1 s2_.2) <|
  Option.bind (layer_places (gx rows1 s2_.2)) fun r2 =>
  Option.bind (slices_Clone_Link l1) fun r3 =>
  Option.bind (slices_DeleteFunc_Link r3 (fun x0 => layer_all_1 x0 r1 r2)) fun between1 =>
  need (inR rows1 (W (s2_.2 - 1))) <|
  need (inR rows1 s2_.2) <|
  Option.bind (layer_crossings (gx rows1 (W (s2_.2 - 1))) (gx rows1 s2_.2) between1) fun r4 =>
  bnd (W (s2_.1 + r4)) fun n1 =>
  bnd (W (s2_.2 + 1)) fun i1 =>
  some (Step.again (n1, i1)))
 else (
  some (Step.done s2_.1))

/-- layer.all -/
noncomputable def layer_all (rows1 : (List (List Int))) (l1 : (List Link)) : Option Int :=
 Option.bind (α := Int) (
  loop (layer_all_L1 l1 rows1) (0, 1)) fun j_1 =>
 some j_1

noncomputable def slices_insertionSortCmpFunc_int_L2 (a1 : Int) (cmp1 : (Int → Int → Option Int)) (s5_ : (Int × (List Int))) : Option (Step (Int × (List Int)) (List Int)) :=
 need ((decide (a1 < s5_.1)) = true → inR s5_.2 s5_.1) <|
 need ((decide (a1 < s5_.1)) = true → inR s5_.2 (W (s5_.1 - 1))) <|
 Option.bind (gd ((decide (a1 < s5_.1))) (cmp1 (gx s5_.2 s5_.1) (gx s5_.2 (W (s5_.1 - 1))))) fun r1 =>
 bif (decide (a1 < s5_.1)) && (decide (r1 < 0)) then (
  need (inR s5_.2 (W (s5_.1 - 1))) <|
  bnd (gx s5_.2 (W (s5_.1 - 1))) fun v1 =>
  need (inR s5_.2 s5_.1) <|
  bnd (gx s5_.2 s5_.1) fun v2 =>
  need (inR s5_.2 s5_.1) <|
  need (inR (s5_.2.set s5_.1.toNat v1) (W (s5_.1 - 1))) <|
  bnd ((s5_.2.set s5_.1.toNat v1).set (W (s5_.1 - 1)).toNat v2) fun data2 =>
  bnd (W (s5_.1 - 1)) fun j1 =>
  some (Step.again (j1, data2)))
 else (
  some (Step.done s5_.2))

noncomputable def slices_insertionSortCmpFunc_int_L1 (a1 : Int) (b1 : Int) (cmp1 : (Int → Int → Option Int)) (s2_ : (Int × (List Int))) : Option (Step (Int × (List Int)) (List Int)) :=
 bif decide (s2_.1 < b1) then (
  Option.bind (α := (List Int)) (
   loop (slices_insertionSortCmpFunc_int_L2 a1 cmp1) (s2_.1, s2_.2)) fun j_4 =>
  bnd (W (s2_.1 + 1)) fun i2 =>
  some (Step.again (i2, j_4)))
 else (
  some (Step.done s2_.2))

/-- slices.insertionSortCmpFunc[int] -/
noncomputable def slices_insertionSortCmpFunc_int (data1 : (List Int)) (a1 : Int) (b1 : Int) (cmp1 : (Int → Int → Option Int)) : Option (List Int) :=
 bnd (W (a1 + 1)) fun i1 =>
 loop (slices_insertionSortCmpFunc_int_L1 a1 b1 cmp1) (i1, data1)

noncomputable def slices_swapRangeCmpFunc_int_L1 (a1 : Int) (b1 : Int) (n1 : Int) (s1_ : (Int × (List Int))) : Option (Step (Int × (List Int)) (List Int)) :=
 bif decide (s1_.1 < n1) then (
  need (inR s1_.2 (W (b1 + s1_.1))) <|
  bnd (gx s1_.2 (W (b1 + s1_.1))) fun v1 =>
  need (inR s1_.2 (W (a1 + s1_.1))) <|
  bnd (gx s1_.2 (W (a1 + s1_.1))) fun v2 =>
  need (inR s1_.2 (W (a1 + s1_.1))) <|
  need (inR (s1_.2.set (W (a1 + s1_.1)).toNat v1) (W (b1 + s1_.1))) <|
  bnd ((s1_.2.set (W (a1 + s1_.1)).toNat v1).set (W (b1 + s1_.1)).toNat v2) fun data2 =>
  bnd (W (s1_.1 + 1)) fun i1 =>
  some (Step.again (i1, data2)))
 else (
  some (Step.done s1_.2))

/-- slices.swapRangeCmpFunc[int] -/
noncomputable def slices_swapRangeCmpFunc_int (data1 : (List Int)) (a1 : Int) (b1 : Int) (n1 : Int) (cmp1 : (Int → Int → Option Int)) : Option (List Int) :=
 loop (slices_swapRangeCmpFunc_int_L1 a1 b1 n1) (0, data1)

noncomputable def slices_rotateCmpFunc_int_L1 (m1 : Int) (cmp1 : (Int → Int → Option Int)) (s4_ : (Int × Int × (List Int))) : Option (Step (Int × Int × (List Int)) (Int × (List Int))) :=
 bif !decide (s4_.1 = s4_.2.1) then (
  bif decide (s4_.2.1 < s4_.1) then (
   Option.bind (slices_swapRangeCmpFunc_int s4_.2.2 (W (m1 - s4_.1)) m1 s4_.2.1 cmp1) fun r1 =>
   bnd (W (s4_.1 - s4_.2.1)) fun i2 =>
   some (Step.again (i2, s4_.2.1, r1)))
  else (
   Option.bind (slices_swapRangeCmpFunc_int s4_.2.2 (W (m1 - s4_.1)) (W ((W (m1 + s4_.2.1)) - s4_.1)) s4_.1 cmp1) fun r2 =>
   bnd (W (s4_.2.1 - s4_.1)) fun j2 =>
   some (Step.again (s4_.1, j2, r2))))
 else (
  some (Step.done (s4_.1, s4_.2.2)))

/-- slices.rotateCmpFunc[int] -/
noncomputable def slices_rotateCmpFunc_int (data1 : (List Int)) (a1 : Int) (m1 : Int) (b1 : Int) (cmp1 : (Int → Int → Option Int)) : Option (List Int) :=
 bnd (W (m1 - a1)) fun i1 =>
 bnd (W (b1 - m1)) fun j1 =>
 Option.bind (α := (Int × (List Int))) (
  loop (slices_rotateCmpFunc_int_L1 m1 cmp1) (i1, j1, data1)) fun j_3 =>
 Option.bind (slices_swapRangeCmpFunc_int j_3.2 (W (m1 - j_3.1)) m1 j_3.1 cmp1) fun r3 =>
 some r3

noncomputable def slices_symMergeCmpFunc_int_L1 (x : ((List Int) × Int × Int × Int × (Int → Int → Option Int))) (s4_ : (Int × Int)) : Option (Step (Int × Int) Int) :=
 bif decide (s4_.1 < s4_.2) then (
  bnd (W ((KI.of .u64 (W (s4_.1 + s4_.2))).shr 1).n) fun h1 =>
  need (inR x.1 h1) <|
  need (inR x.1 x.2.1) <|
  Option.bind (x.2.2.2.2 (gx x.1 h1) (gx x.1 x.2.1)) fun r1 =>
  bif decide (r1 < 0) then (
   bnd (W (h1 + 1)) fun i1 =>
   some (Step.again (i1, s4_.2)))
  else (
   some (Step.again (s4_.1, h1))))
 else (
  some (Step.done s4_.1))

noncomputable def slices_symMergeCmpFunc_int_L2 (j_3 : Int) (s13_ : (Int × (List Int))) : Option (Step (Int × (List Int)) (List Int)) :=
 bif decide (s13_.1 < (W (j_3 - 1))) then (
  need (inR s13_.2 (W (s13_.1 + 1))) <|
  bnd (gx s13_.2 (W (s13_.1 + 1))) fun v1 =>
  need (inR s13_.2 s13_.1) <|
  bnd (gx s13_.2 s13_.1) fun v2 =>
  need (inR s13_.2 s13_.1) <|
  need (inR (s13_.2.set s13_.1.toNat v1) (W (s13_.1 + 1))) <|
  bnd ((s13_.2.set s13_.1.toNat v1).set (W (s13_.1 + 1)).toNat v2) fun data2 =>
  bnd (W (s13_.1 + 1)) fun k1 =>
  some (Step.again (k1, data2)))
 else (
  some (Step.done s13_.2))

noncomputable def slices_symMergeCmpFunc_int_L3 (x : ((List Int) × Int × Int × Int × (Int → Int → Option Int))) (s26_ : (Int × Int)) : Option (Step (Int × Int) Int) :=
 bif decide (s26_.1 < s26_.2) then (
  bnd (W ((KI.of .u64 (W (s26_.1 + s26_.2))).shr 1).n) fun h2 =>
  need (inR x.1 x.2.2.1) <|
  need (inR x.1 h2) <|
  Option.bind (x.2.2.2.2 (gx x.1 x.2.2.1) (gx x.1 h2)) fun r2 =>
  bif !(decide (r2 < 0)) then (
   bnd (W (h2 + 1)) fun i2 =>
   some (Step.again (i2, s26_.2)))
  else (
   some (Step.again (s26_.1, h2))))
 else (
  some (Step.done s26_.1))

noncomputable def slices_symMergeCmpFunc_int_L4 (j_25 : Int) (s35_ : (Int × (List Int))) : Option (Step (Int × (List Int)) (List Int)) :=
 bif decide (j_25 < s35_.1) then (
  need (inR s35_.2 (W (s35_.1 - 1))) <|
  bnd (gx s35_.2 (W (s35_.1 - 1))) fun v3 =>
  need (inR s35_.2 s35_.1) <|
  bnd (gx s35_.2 s35_.1) fun v4 =>
  need (inR s35_.2 s35_.1) <|
  need (inR (s35_.2.set s35_.1.toNat v3) (W (s35_.1 - 1))) <|
  bnd ((s35_.2.set s35_.1.toNat v3).set (W (s35_.1 - 1)).toNat v4) fun data3 =>
  bnd (W (s35_.1 - 1)) fun k2 =>
  some (Step.again (k2, data3)))
 else (
  some (Step.done s35_.2))

noncomputable def slices_symMergeCmpFunc_int_L5 (x : ((List Int) × Int × Int × Int × (Int → Int → Option Int))) (n1 : Int) (s51_ : (Int × Int)) : Option (Step (Int × Int) Int) :=
 bif decide (s51_.1 < s51_.2) then (
  bnd (W ((KI.of .u64 (W (s51_.1 + s51_.2))).shr 1).n) fun c1 =>
  need (inR x.1 (W ((W (n1 - 1)) - c1))) <|
  need (inR x.1 c1) <|
  Option.bind (x.2.2.2.2 (gx x.1 (W ((W (n1 - 1)) - c1))) (gx x.1 c1)) fun r3 =>
  bif !(decide (r3 < 0)) then (
   bnd (W (c1 + 1)) fun start2 =>
   some (Step.again (start2, s51_.2)))
  else (
   some (Step.again (s51_.1, c1))))
 else (
  some (Step.done s51_.1))

/-- slices.symMergeCmpFunc[int] -/
noncomputable def slices_symMergeCmpFunc_int_body (self : ((List Int) × Int × Int × Int × (Int → Int → Option Int)) → Option (List Int)) (x : ((List Int) × Int × Int × Int × (Int → Int → Option Int))) : Option (List Int) :=
 bindR (σ := Unit) (ρ := (List Int)) (
  bif decide ((W (x.2.2.1 - x.2.1)) = 1) then (
   Option.bind (α := Int) (
    loop (slices_symMergeCmpFunc_int_L1 x) (x.2.2.1, x.2.2.2.1)) fun j_3 =>
   Option.bind (α := (List Int)) (
    loop (slices_symMergeCmpFunc_int_L2 j_3) (x.2.1, x.1)) fun j_12 =>
   some (Res.ab j_12))
  else (
   some (Res.nx ()))) fun j_1 =>
 bindR (σ := Unit) (ρ := (List Int)) (
  bif decide ((W (x.2.2.2.1 - x.2.2.1)) = 1) then (
   Option.bind (α := Int) (
    loop (slices_symMergeCmpFunc_int_L3 x) (x.2.1, x.2.2.1)) fun j_25 =>
   Option.bind (α := (List Int)) (
    loop (slices_symMergeCmpFunc_int_L4 j_25) (x.2.2.1, x.1)) fun j_34 =>
   some (Res.ab j_34))
  else (
   some (Res.nx ()))) fun j_23 =>
 bnd (W ((KI.of .u64 (W (x.2.1 + x.2.2.2.1))).shr 1).n) fun mid1 =>
 bnd (W (mid1 + x.2.2.1)) fun n1 =>
 Option.bind (α := (Int × Int)) (
  bif decide (mid1 < x.2.2.1) then (
   bnd (W (n1 - x.2.2.2.1)) fun start1 =>
   some (start1, mid1))
  else (
   some (x.2.1, x.2.2.1))) fun j_47 =>
 Option.bind (α := Int) (
  loop (slices_symMergeCmpFunc_int_L5 x n1) (j_47.1, j_47.2)) fun j_50 =>
 bnd (W (n1 - j_50)) fun end1 =>
 Option.bind (α := (List Int)) (
  bif (decide (j_50 < x.2.2.1)) && (decide (x.2.2.1 < end1)) then (
   Option.bind (slices_rotateCmpFunc_int x.1 j_50 x.2.2.1 end1 x.2.2.2.2) fun r4 =>
   some r4)
  else (
   some x.1)) fun j_60 =>
 Option.bind (α := (List Int)) (
  bif (decide (x.2.1 < j_50)) && (decide (j_50 < mid1)) then (
   Option.bind (self (j_60, x.2.1, j_50, mid1, x.2.2.2.2)) fun r5 =>
   some r5)
  else (
   some j_60)) fun j_63 =>
 bif (decide (mid1 < end1)) && (decide (end1 < x.2.2.2.1)) then (
  Option.bind (self (j_63, mid1, end1, x.2.2.2.1, x.2.2.2.2)) fun r6 =>
  some r6)
 else (
  some j_63)

noncomputable def slices_symMergeCmpFunc_int (data1 : (List Int)) (a1 : Int) (m1 : Int) (b1 : Int) (cmp1 : (Int → Int → Option Int)) : Option (List Int) := fixp slices_symMergeCmpFunc_int_body (data1, a1, m1, b1, cmp1)

noncomputable def slices_stableCmpFunc_int_L1 (n1 : Int) (cmp1 : (Int → Int → Option Int)) (s2_ : (Int × Int × (List Int))) : Option (Step (Int × Int × (List Int)) (Int × (List Int))) :=
 bif decide (s2_.2.1 ≤ n1) then (
  Option.bind (slices_insertionSortCmpFunc_int s2_.2.2 s2_.1 s2_.2.1 cmp1) fun r1 =>
  bnd (W (s2_.2.1 + 20)) fun b1 =>
  some (Step.again (s2_.2.1, b1, r1)))
 else (
  some (Step.done (s2_.1, s2_.2.2)))

noncomputable def slices_stableCmpFunc_int_L3 (n1 : Int) (s7_ : (Int × (List Int))) (cmp1 : (Int → Int → Option Int)) (s11_ : (Int × Int × (List Int))) : Option (Step (Int × Int × (List Int)) (Int × (List Int))) :=
 bif decide (s11_.2.1 ≤ n1) then (
  Option.bind (slices_symMergeCmpFunc_int s11_.2.2 s11_.1 (W (s11_.1 + s7_.1)) s11_.2.1 cmp1) fun r3 =>
  bnd (W (s11_.2.1 + (W (2 * s7_.1)))) fun b3 =>
  some (Step.again (s11_.2.1, b3, r3)))
 else (
  some (Step.done (s11_.1, s11_.2.2)))

noncomputable def slices_stableCmpFunc_int_L2 (n1 : Int) (cmp1 : (Int → Int → Option Int)) (s7_ : (Int × (List Int))) : Option (Step (Int × (List Int)) (List Int)) :=
 bif decide (s7_.1 < n1) then (
  bnd (W (2 * s7_.1)) fun b2 =>
  Option.bind (α := (Int × (List Int))) (
   loop (slices_stableCmpFunc_int_L3 n1 s7_ cmp1) (0, b2, s7_.2)) fun j_10 =>
  bnd (W (j_10.1 + s7_.1)) fun m1 =>
  Option.bind (α := (List Int)) (
   bif decide (m1 < n1) then (
    Option.bind (slices_symMergeCmpFunc_int j_10.2 j_10.1 m1 n1 cmp1) fun r4 =>
    some r4)
   else (
    some j_10.2)) fun j_16 =>
  bnd (W (s7_.1 * 2)) fun blockSize1 =>
  some (Step.again (blockSize1, j_16)))
 else (
  some (Step.done s7_.2))

/-- slices.stableCmpFunc[int] -/
noncomputable def slices_stableCmpFunc_int (data1 : (List Int)) (n1 : Int) (cmp1 : (Int → Int → Option Int)) : Option (List Int) :=
 Option.bind (α := (Int × (List Int))) (
  loop (slices_stableCmpFunc_int_L1 n1 cmp1) (0, 20, data1)) fun j_1 =>
 Option.bind (slices_insertionSortCmpFunc_int j_1.2 j_1.1 n1 cmp1) fun r2 =>
 loop (slices_stableCmpFunc_int_L2 n1 cmp1) (20, r2)

/-- slices.SortStableFunc[[]int,int] -/
noncomputable def slices_SortStableFunc_int (x1 : (List Int)) (cmp1 : (Int → Int → Option Int)) : Option (List Int) :=
 Option.bind (slices_stableCmpFunc_int x1 (x1.length : Int) cmp1) fun r1 =>
 some r1

/-- cmp.isNaN[int] -/
noncomputable def cmp_isNaN_int (x1 : Int) : Option Bool :=
 some (!decide (x1 = x1))

/-- cmp.Compare[int] -/
noncomputable def cmp_Compare_int (x1 : Int) (y1 : Int) : Option Int :=
 Option.bind (cmp_isNaN_int x1) fun xNaN1 =>
 Option.bind (cmp_isNaN_int y1) fun yNaN1 =>
 bif xNaN1 then (
  bif yNaN1 then (
   some 0)
  else (
   some (-1)))
 else (
  bif yNaN1 then (
   some 1)
  else (
   bif decide (x1 < y1) then (
    some (-1))
   else (
    bif decide (y1 < x1) then (
     some 1)
    else (
     some 0))))

/-- layer.sorted$1 -/
noncomputable def layer_sorted_1 (a1 : Int) (b1 : Int) (c0_1 : (GMap Int Layer_mean)) : Option Int :=
 bnd (c0_1.getD a1 (⟨(0 : Int), (0 : Int)⟩ : Layer_mean)) fun v1 =>
 bnd (c0_1.getD b1 (⟨(0 : Int), (0 : Int)⟩ : Layer_mean)) fun v2 =>
 Option.bind (cmp_Compare_int (W (v1.sum * v2.many)) (W (v2.sum * v1.many))) fun r1 =>
 some r1

noncomputable def layer_sorted_L1 (l1 : (List Link)) (at1 : (GMap Int Int)) (ends1 : (Link → Option (Int × Int))) (i : Int) (s : (GMap Int Layer_mean)) : Option (GMap Int Layer_mean) :=
 need (inR l1 i) <|
 bnd (gx l1 i) fun v1 =>
 Option.bind (ends1 v1) fun r1 =>
 bif at1.has r1.2 then (
  bnd (s.getD r1.1 (⟨(0 : Int), (0 : Int)⟩ : Layer_mean)) fun v2 =>
  some (s.set r1.1 (⟨W (v2.sum + (at1.getD r1.2 (0 : Int))), W (v2.many + 1)⟩ : Layer_mean)))
 else (
  some s)

noncomputable def layer_sorted_L2 (row1 : (List Int)) (i : Int) (s : (GMap Int Layer_mean)) : Option (GMap Int Layer_mean) :=
 need (inR row1 i) <|
 bnd (gx row1 i) fun k1 =>
 bif decide (((s.getD k1 (⟨(0 : Int), (0 : Int)⟩ : Layer_mean)).many) = 0) then (
  some (s.set k1 (⟨i, 1⟩ : Layer_mean)))
 else (
  some s)

/-- layer.sorted -/
noncomputable def layer_sorted (row1 : (List Int)) (other1 : (List Int)) (l1 : (List Link)) (ends1 : (Link → Option (Int × Int))) : Option (List Int) :=
 Option.bind (layer_places other1) fun at1 =>
 bnd ((GMap.nil : (GMap Int Layer_mean))) fun c1 =>
 Option.bind (α := (GMap Int Layer_mean)) (
  rfor (l1.length : Int) (layer_sorted_L1 l1 at1 ends1) c1) fun j_3 =>
 Option.bind (α := (GMap Int Layer_mean)) (
  rfor (row1.length : Int) (layer_sorted_L2 row1) j_3) fun j_12 =>
 Option.bind (slices_Clone_int row1) fun row2 =>
 Option.bind (slices_SortStableFunc_int row2 (fun x0 x1 => layer_sorted_1 x0 x1 j_12)) fun r2 =>
 some r2

/-- layer.sweep$2 -/
noncomputable def layer_sweep_2 (x1 : Link) : Option (Int × Int) :=
 some (x1.To, x1.From)

/-- layer.sweep$1 -/
noncomputable def layer_sweep_1 (c0_1 : (List (List Int))) (c1_1 : (List Link)) (c2_1 : Int) (c3_1 : (List (List Int))) : Option ((List (List Int)) × Int × (List (List Int))) :=
 Option.bind (layer_all c0_1 c1_1) fun n1 =>
 bif decide (n1 < c2_1) then (
  Option.bind (slices_Clone_Lint_own c0_1) fun r1 =>
  some (r1.2, n1, r1.1))
 else (
  some (c0_1, c2_1, c3_1))

/-- layer.sweep$3 -/
noncomputable def layer_sweep_3 (x1 : Link) : Option (Int × Int) :=
 some (x1.From, x1.To)

noncomputable def layer_sweep_L2 (l1 : (List Link)) (s9_ : (Int × (List (List Int)))) : Option (Step (Int × (List (List Int))) (List (List Int))) :=
 bif decide (s9_.1 < (s9_.2.length : Int)) then (
  need (inR s9_.2 s9_.1) <|
  need (inR s9_.2 (W (s9_.1 - 1))) <|
  Option.bind (layer_sorted (gx s9_.2 s9_.1) (gx s9_.2 (W (s9_.1 - 1))) l1 layer_sweep_2) fun r4 =>
  need (inR s9_.2 s9_.1) <|
  bnd (s9_.2.set s9_.1.toNat r4) fun c1 =>
  bnd (W (s9_.1 + 1)) fun i1 =>
  some (Step.again (i1, c1)))
 else (
  some (Step.done s9_.2))

noncomputable def layer_sweep_L3 (l1 : (List Link)) (s20_ : (Int × (List (List Int)))) : Option (Step (Int × (List (List Int))) (List (List Int))) :=
 bif decide (0 ≤ s20_.1) then (
  need (inR s20_.2 s20_.1) <|
  need (inR s20_.2 (W (s20_.1 + 1))) <|
  Option.bind (layer_sorted (gx s20_.2 s20_.1) (gx s20_.2 (W (s20_.1 + 1))) l1 layer_sweep_3) fun r6 =>
  need (inR s20_.2 s20_.1) <|
  bnd (s20_.2.set s20_.1.toNat r6) fun c2 =>
  bnd (W (s20_.1 - 1)) fun i3 =>
  some (Step.again (i3, c2)))
 else (
  some (Step.done s20_.2))

noncomputable def layer_sweep_L1 (l1 : (List Link)) (i : Int) (s : ((List (List Int)) × (List (List Int)) × Int)) : Option ((List (List Int)) × (List (List Int)) × Int) :=
 Option.bind (α := (List (List Int))) (
  loop (layer_sweep_L2 l1) (1, s.1)) fun j_8 =>
 Option.bind (layer_sweep_1 j_8 l1 s.2.2 s.2.1) fun r5 =>
 bnd (W ((r5.1.length : Int) - 2)) fun i2 =>
 Option.bind (α := (List (List Int))) (
  loop (layer_sweep_L3 l1) (i2, r5.1)) fun j_19 =>
 Option.bind (layer_sweep_1 j_19 l1 r5.2.1 r5.2.2) fun r7 =>
 some (r7.1, r7.2.2, r7.2.1)

noncomputable def layer_sweep_L4  (i : Int) (s : (List (List Int))) : Option (List (List Int)) :=
 need (inR s i) <|
 Option.bind (slices_Clone_int (gx s i)) fun r8 =>
 need (inR s i) <|
 some (s.set i.toNat r8)

/-- layer.sweep -/
noncomputable def layer_sweep (rows1 : (List (List Int))) (l1 : (List Link)) (rounds1 : Int) : Option ((List (List Int)) × Int) :=
 Option.bind (slices_Clone_Lint rows1) fun r1 =>
 Option.bind (slices_Clone_Lint_own r1) fun r2 =>
 Option.bind (layer_all r2.2 l1) fun r3 =>
 Option.bind (α := ((List (List Int)) × (List (List Int)) × Int)) (
  rfor rounds1 (layer_sweep_L1 l1) (r2.2, r2.1, r3)) fun j_4 =>
 Option.bind (α := (List (List Int))) (
  rfor (j_4.2.1.length : Int) layer_sweep_L4 j_4.2.1) fun j_29 =>
 some (j_29, j_4.2.2)

noncomputable def layer_middle_L1 (k1 : Int) (l1 : (List Link)) (r1 : (List Int)) (out1 : (List Point)) (sizes1 : (List Point)) (i : Int) (s : (Int × Int)) : Option (Int × Int) :=
 need (inR l1 i) <|
 bnd (gx l1 i) fun v1 =>
 need ((decide (v1.To = k1)) = true → inR r1 v1.From) <|
 need ((decide (v1.To = k1)) = true → inR r1 k1) <|
 bif (decide (v1.To = k1)) && (decide ((gx r1 v1.From) < (gx r1 k1))) then (
  need (inR out1 v1.From) <|
  need (inR sizes1 v1.From) <|
  bnd (W (s.1 + (W (((gx out1 v1.From).X) + (((gx sizes1 v1.From).X).tdiv 2))))) fun sum1 =>
  bnd (W (s.2 + 1)) fun many1 =>
  some (sum1, many1))
 else (
  some (s.1, s.2))

/-- layer.middle -/
noncomputable def layer_middle (k1 : Int) (r1 : (List Int)) (l1 : (List Link)) (out1 : (List Point)) (sizes1 : (List Point)) : Option Int :=
 Option.bind (α := (Int × Int)) (
  rfor (l1.length : Int) (layer_middle_L1 k1 l1 r1 out1 sizes1) (0, 0)) fun j_1 =>
 bif decide (j_1.2 = 0) then (
  some 0)
 else (
  need (0 < j_1.2) <|
  need (inR sizes1 k1) <|
  some (W ((j_1.1.tdiv j_1.2) - (((gx sizes1 k1).X).tdiv 2))))

noncomputable def layer_near_L1 (n1 : Int) (gap1 : Int) (size1 : (List Int)) (s5_ : (Int × (List Int))) : Option (Step (Int × (List Int)) (List Int)) :=
 bif decide (s5_.1 < n1) then (
  need (inR s5_.2 (W (s5_.1 - 1))) <|
  need (inR size1 (W (s5_.1 - 1))) <|
  bnd (W ((W ((gx s5_.2 (W (s5_.1 - 1))) + (gx size1 (W (s5_.1 - 1))))) + gap1)) fun v1 =>
  need (inR s5_.2 s5_.1) <|
  bnd (s5_.2.set s5_.1.toNat v1) fun offset2 =>
  bnd (W (s5_.1 + 1)) fun i1 =>
  some (Step.again (i1, offset2)))
 else (
  some (Step.done s5_.2))

noncomputable def layer_near_L2 (j_4 : (List Int)) (want1 : (List Int)) (i : Int) (s : (List Int)) : Option (List Int) :=
 need (inR want1 i) <|
 need (inR j_4 i) <|
 bnd (W ((gx want1 i) - (gx j_4 i))) fun v2 =>
 need (inR s i) <|
 some (s.set i.toNat v2)

noncomputable def layer_near_L3 (j_4 : (List Int)) (values1 : (List Int)) (i : Int) (s : (List Int)) : Option (List Int) :=
 need (inR values1 0) <|
 need (inR j_4 i) <|
 bnd (W ((gx values1 0) + (gx j_4 i))) fun v3 =>
 need (inR s i) <|
 some (s.set i.toNat v3)

noncomputable def layer_near_L5 (j_15 : (List Int)) (s37_ : (Int × (List Int))) (values1 : (List Int)) (s42_ : (Int × Int × Int × Int)) : Option (Step (Int × Int × Int × Int) Int) :=
 bif decide (0 ≤ s42_.2.2.2) then (
  Option.bind (α := (Int × Int × Int)) (
   need (inR j_15 s42_.2.2.2) <|
   need (inR values1 s37_.1) <|
   Option.bind (α := Int) (
    bif decide ((gx j_15 s42_.2.2.2) < (gx values1 s37_.1)) then (
     bnd (W (s42_.2.2.1 + 1)) fun sum1 =>
     some sum1)
    else (
     bnd (W (s42_.2.2.1 - 1)) fun sum2 =>
     some sum2)) fun j_47 =>
   bif decide (j_47 < s42_.2.1) then (
    some (s42_.2.2.2, j_47, j_47))
   else (
    some (s42_.1, s42_.2.1, j_47))) fun j_44 =>
  bnd (W (s42_.2.2.2 - 1)) fun i3 =>
  some (Step.again (j_44.1, j_44.2.1, j_44.2.2, i3)))
 else (
  some (Step.done s42_.1))

noncomputable def layer_near_L6 (n1 : Int) (j_4 : (List Int)) (s37_ : (Int × (List Int))) (values1 : (List Int)) (s53_ : (Int × (List Int))) : Option (Step (Int × (List Int)) (List Int)) :=
 bif decide (s53_.1 < n1) then (
  need (inR values1 s37_.1) <|
  need (inR j_4 s53_.1) <|
  bnd (W ((gx values1 s37_.1) + (gx j_4 s53_.1))) fun v4 =>
  need (inR s53_.2 s53_.1) <|
  bnd (s53_.2.set s53_.1.toNat v4) fun out2 =>
  bnd (W (s53_.1 + 1)) fun i4 =>
  some (Step.again (i4, out2)))
 else (
  some (Step.done s53_.2))

noncomputable def layer_near_L4 (n1 : Int) (j_4 : (List Int)) (j_15 : (List Int)) (values1 : (List Int)) (s37_ : (Int × (List Int))) : Option (Step (Int × (List Int)) (List Int)) :=
 bif decide (s37_.1 < (values1.length : Int)) then (
  Option.bind (α := (List Int)) (
   bnd (W (n1 - 1)) fun i2 =>
   Option.bind (α := Int) (
    loop (layer_near_L5 j_15 s37_ values1) (n1, 0, 0, i2)) fun j_41 =>
   loop (layer_near_L6 n1 j_4 s37_ values1) (j_41, s37_.2)) fun j_39 =>
  bnd (W (s37_.1 + 1)) fun k1 =>
  some (Step.again (k1, j_39)))
 else (
  some (Step.done s37_.2))

/-- layer.near -/
noncomputable def layer_near (want1 : (List Int)) (size1 : (List Int)) (gap1 : Int) : Option (List Int) :=
 bnd ((want1.length : Int)) fun n1 =>
 need (0 ≤ n1 ∧ n1 ≤ n1 ∧ n1 ≤ 1073741824) <|
 bnd (List.replicate n1.toNat (0 : Int)) fun offset1 =>
 Option.bind (α := (List Int)) (
  loop (layer_near_L1 n1 gap1 size1) (1, offset1)) fun j_4 =>
 need (0 ≤ n1 ∧ n1 ≤ n1 ∧ n1 ≤ 1073741824) <|
 bnd (List.replicate n1.toNat (0 : Int)) fun level1 =>
 Option.bind (α := (List Int)) (
  rfor (level1.length : Int) (layer_near_L2 j_4 want1) level1) fun j_15 =>
 Option.bind (slices_Values_int j_15) fun r1 =>
 Option.bind (slices_Sorted_int r1) fun r2 =>
 Option.bind (slices_Compact_int r2) fun values1 =>
 need (0 ≤ n1 ∧ n1 ≤ n1 ∧ n1 ≤ 1073741824) <|
 bnd (List.replicate n1.toNat (0 : Int)) fun out1 =>
 Option.bind (α := (List Int)) (
  rfor (out1.length : Int) (layer_near_L3 j_4 values1) out1) fun j_28 =>
 Option.bind (α := (List Int)) (
  loop (layer_near_L4 n1 j_4 j_15 values1) (1, j_28)) fun j_36 =>
 some j_36

noncomputable def layer_Draw_L1 (sizes1 : (List Point)) (i : Int) (s : Unit) : Option (Res Unit (Res Unit ((List Point) × Int))) :=
 need (inR sizes1 i) <|
 bnd (gx sizes1 i) fun v1 =>
 bif (((decide (v1.X < 1)) || (decide (1000 < v1.X))) || (decide (v1.Y < 1))) || (decide (1000 < v1.Y)) then (
  some (Res.ab (Res.ab (([] : (List Point)), 3))))
 else (
  some (Res.nx ()))

noncomputable def layer_Draw_L2 (r1 : (List Int)) (i : Int) (s : (List Link)) : Option (List Link) :=
 need (inR r1 i) <|
 bnd (gx r1 i) fun i1 =>
 need (inR s i1) <|
 need (inR s i1) <|
 bnd ((⟨(gx s i1).To, (gx s i1).From⟩ : Link)) fun v2 =>
 need (inR s i1) <|
 some (s.set i1.toNat v2)

noncomputable def layer_Draw_L3 (r2 : (List Int)) (i : Int) (s : (List (List Int))) : Option (List (List Int)) :=
 need (inR s (gx r2 i)) <|
 need (inR r2 i) <|
 need (inR r2 i) <|
 need (inR s (gx r2 i)) <|
 need (room ((gx s (gx r2 i)).length + [i].length)) <|
 need (inR s (gx r2 i)) <|
 some (s.set (gx r2 i).toNat ((gx s (gx r2 i)) ++ [i]))

noncomputable def layer_Draw_L5 (r2 : (List Int)) (j_15 : (List Link)) (p46_ : Int × (Int × (List Point))) (row1 : (List Int)) (gapx1 : Int) (sizes1 : (List Point)) (i : Int) (s : ((List Int) × (List Int) × Int × Int)) : Option ((List Int) × (List Int) × Int × Int) :=
 need (inR row1 i) <|
 bnd (gx row1 i) fun k1 =>
 Option.bind (α := Int) (
  bif decide (0 < p46_.1) then (
   Option.bind (layer_middle k1 r2 j_15 p46_.2.2 sizes1) fun w1 =>
   some w1)
  else (
   some s.2.2.2)) fun j_57 =>
 need (room (s.1.length + [j_57].length)) <|
 need (inR sizes1 k1) <|
 need (room (s.2.1.length + [(gx sizes1 k1).X].length)) <|
 bnd (s.1 ++ [j_57]) fun want1 =>
 bnd (s.2.1 ++ [(gx sizes1 k1).X]) fun size1 =>
 need (inR sizes1 k1) <|
 bnd (max s.2.2.1 ((gx sizes1 k1).Y)) fun high1 =>
 need (inR sizes1 k1) <|
 bnd (W (s.2.2.2 + (W (((gx sizes1 k1).X) + gapx1)))) fun end1 =>
 some (want1, size1, high1, end1)

noncomputable def layer_Draw_L6 (r6 : (List Int)) (p46_ : Int × (Int × (List Point))) (row1 : (List Int)) (i : Int) (s : (List Point)) : Option (List Point) :=
 need (inR r6 i) <|
 need (inR row1 i) <|
 bnd ((⟨gx r6 i, p46_.2.1⟩ : Point)) fun v4 =>
 need (inR s (gx row1 i)) <|
 some (s.set (gx row1 i).toNat v4)

noncomputable def layer_Draw_L4 (r2 : (List Int)) (r5 : ((List (List Int)) × Int)) (j_15 : (List Link)) (gapx1 : Int) (gapy1 : Int) (sizes1 : (List Point)) (i : Int) (s : (Int × (List Point))) : Option (Int × (List Point)) :=
 need (inR r5.1 i) <|
 bnd (gx r5.1 i) fun row1 =>
 Option.bind (α := ((List Int) × (List Int) × Int × Int)) (
  rfor (row1.length : Int) (layer_Draw_L5 r2 j_15 (i, s) row1 gapx1 sizes1) (([] : List Int), ([] : List Int), 0, 0)) fun j_51 =>
 Option.bind (layer_near j_51.1 j_51.2.1 gapx1) fun r6 =>
 Option.bind (α := (List Point)) (
  rfor (r6.length : Int) (layer_Draw_L6 r6 (i, s) row1) s.2) fun j_70 =>
 bnd (W (s.1 + (W (j_51.2.2.1 + gapy1)))) fun y1 =>
 some (y1, j_70)

noncomputable def layer_Draw_L7 (j_45 : (Int × (List Point))) (i : Int) (s : Int) : Option Int :=
 need (inR j_45.2 i) <|
 bnd (min s ((gx j_45.2 i).X)) fun left2 =>
 some left2

noncomputable def layer_Draw_L8 (j_81 : Int) (i : Int) (s : (List Point)) : Option (List Point) :=
 need (inR s i) <|
 bnd (W (((gx s i).X) - j_81)) fun v5 =>
 need (inR s i) <|
 some (s.set i.toNat { gx s i with X := v5 })

/-- layer.Draw -/
noncomputable def layer_Draw (sizes1 : (List Point)) (l1 : (List Link)) (gapx1 : Int) (gapy1 : Int) : Option ((List Point) × Int) :=
 bif decide ((sizes1.length : Int) = 0) then (
  some (([] : (List Point)), 2))
 else (
  bnd ((sizes1.length : Int)) fun n1 =>
  Option.bind (layer_Check n1 l1) fun e1 =>
  bif !decide (e1 = 0) then (
   some (([] : (List Point)), e1))
  else (
   bindR (σ := Unit) (ρ := ((List Point) × Int)) (
    rforE (sizes1.length : Int) (layer_Draw_L1 sizes1) (fun s => Res.nx s) ()) fun j_5 =>
   bif (((decide (gapx1 < 0)) || (decide (1000 < gapx1))) || (decide (gapy1 < 0))) || (decide (1000 < gapy1)) then (
    some (([] : (List Point)), 3))
   else (
    Option.bind (slices_Clone_Link l1) fun l2 =>
    Option.bind (layer_turned n1 l2) fun r1 =>
    Option.bind (α := (List Link)) (
     rfor (r1.length : Int) (layer_Draw_L2 r1) l2) fun j_15 =>
    Option.bind (layer_ranks n1 j_15) fun r2 =>
    Option.bind (slices_Max_int r2) fun r3 =>
    bnd (W (r3 + 1)) fun v3 =>
    need (0 ≤ v3 ∧ v3 ≤ v3 ∧ v3 ≤ 1073741824) <|
    bnd (List.replicate v3.toNat ([] : (List Int))) fun rows1 =>
    Option.bind (α := (List (List Int))) (
     rfor n1 (layer_Draw_L3 r2) rows1) fun j_30 =>
    Option.bind (slices_Clone_Link j_15) fun r4 =>
    Option.bind (slices_DeleteFunc_Link r4 (fun x0 => layer_Draw_1 x0 r2)) fun steps1 =>
    Option.bind (layer_sweep j_30 steps1 4) fun r5 =>
    need (0 ≤ n1 ∧ n1 ≤ n1 ∧ n1 ≤ 1073741824) <|
    bnd (List.replicate n1.toNat (⟨(0 : Int), (0 : Int)⟩ : Point)) fun out1 =>
    Option.bind (α := (Int × (List Point))) (
     rfor (r5.1.length : Int) (layer_Draw_L4 r2 r5 j_15 gapx1 gapy1 sizes1) (0, out1)) fun j_45 =>
    need (inR j_45.2 0) <|
    bnd ((gx j_45.2 0).X) fun left1 =>
    Option.bind (α := Int) (
     rfor (j_45.2.length : Int) (layer_Draw_L7 j_45) left1) fun j_81 =>
    Option.bind (α := (List Point)) (
     rfor (j_45.2.length : Int) (layer_Draw_L8 j_81) j_45.2) fun j_87 =>
    some (j_87, 0))))

/-- layer.Turned -/
noncomputable def layer_Turned (n1 : Int) (l1 : (List Link)) : Option ((List Int) × Int) :=
 Option.bind (layer_Check n1 l1) fun e1 =>
 bif !decide (e1 = 0) then (
  some (([] : (List Int)), e1))
 else (
  Option.bind (layer_turned n1 l1) fun r1 =>
  some (r1, 0))

noncomputable def slices_Index_int_L1 (s1 : (List Int)) (v1 : Int) (i : Int) (s : Unit) : Option (Res Unit (Res Unit Int)) :=
 need (inR s1 i) <|
 bif decide (v1 = (gx s1 i)) then (
  some (Res.ab (Res.ab i)))
 else (
  some (Res.nx ()))

/-- slices.Index[[]int,int] -/
noncomputable def slices_Index_int (s1 : (List Int)) (v1 : Int) : Option Int :=
 bindR (σ := Unit) (ρ := Int) (
  rforE (s1.length : Int) (slices_Index_int_L1 s1 v1) (fun s => Res.nx s) ()) fun j_1 =>
 some (-1)

noncomputable def layer_Total_L1 (ranks1 : (List Int)) (i : Int) (s : Unit) : Option (Res Unit (Res Unit (Int × Int))) :=
 need (inR ranks1 i) <|
 bnd (gx ranks1 i) fun r1 =>
 bif (decide (r1 < 0)) || (decide (1000 < r1)) then (
  some (Res.ab (Res.ab (0, 3))))
 else (
  some (Res.nx ()))

noncomputable def layer_Total_L2 (l1 : (List Link)) (ranks1 : (List Int)) (i : Int) (s : Int) : Option (Res Int (Res Int (Int × Int))) :=
 need (inR l1 i) <|
 bnd (gx l1 i) fun v1 =>
 need (inR ranks1 v1.To) <|
 need (inR ranks1 v1.From) <|
 bnd (W ((gx ranks1 v1.To) - (gx ranks1 v1.From))) fun d1 =>
 bif decide (d1 < 1) then (
  some (Res.ab (Res.ab (0, 7))))
 else (
  bnd (W (s + d1)) fun sum1 =>
  some (Res.nx sum1))

/-- layer.Total -/
noncomputable def layer_Total (n1 : Int) (l1 : (List Link)) (ranks1 : (List Int)) : Option (Int × Int) :=
 Option.bind (layer_Check n1 l1) fun e1 =>
 bif !decide (e1 = 0) then (
  some (0, e1))
 else (
  bif !decide ((ranks1.length : Int) = n1) then (
   some (0, 2))
  else (
   bindR (σ := Unit) (ρ := (Int × Int)) (
    rforE (ranks1.length : Int) (layer_Total_L1 ranks1) (fun s => Res.nx s) ()) fun j_4 =>
   bindR (σ := Int) (ρ := (Int × Int)) (
    rforE (l1.length : Int) (layer_Total_L2 l1 ranks1) (fun s => Res.nx s) 0) fun j_11 =>
   some (j_11, 0)))

/-- layer.Ranks -/
noncomputable def layer_Ranks (n1 : Int) (l1 : (List Link)) : Option ((List Int) × Int) :=
 Option.bind (layer_Check n1 l1) fun e1 =>
 bif !decide (e1 = 0) then (
  some (([] : (List Int)), e1))
 else (
  Option.bind (layer_turned n1 l1) fun r1 =>
  bif decide (0 < (r1.length : Int)) then (
   some (([] : (List Int)), 13))
  else (
   Option.bind (layer_ranks n1 l1) fun r2 =>
   some (r2, 0)))

noncomputable def top_TopLayersAreLeast_L1 (l1 : (List Link)) (r2 : ((List Int) × Int)) (i : Int) (s : (List Link)) : Option (List Link) :=
 need (inR r2.1 i) <|
 bnd (gx r2.1 i) fun i1 =>
 need (inR l1 i1) <|
 need (inR l1 i1) <|
 bnd ((⟨(gx l1 i1).To, (gx l1 i1).From⟩ : Link)) fun v1 =>
 need (inR s i1) <|
 some (s.set i1.toNat v1)

noncomputable def top_TopLayersAreLeast_L2 (r1 : ((List Point) × Int)) (i : Int) (s : (List Int)) : Option (List Int) :=
 need (inR r1.1 i) <|
 bnd (gx r1.1 i) fun v2 =>
 need (room (s.length + [v2.Y].length)) <|
 some (s ++ [v2.Y])

noncomputable def top_TopLayersAreLeast_L3 (r1 : ((List Point) × Int)) (ys1 : (List Int)) (i : Int) (s : (List Int)) : Option (List Int) :=
 need (inR r1.1 i) <|
 bnd (gx r1.1 i) fun v3 =>
 Option.bind (slices_Index_int ys1 v3.Y) fun r5 =>
 need (inR s i) <|
 some (s.set i.toNat r5)

noncomputable def top_TopLayersAreLeast_L4 (r1 : ((List Point) × Int)) (j_7 : (List Link)) (gapy1 : Int) (sizes1 : (List Point)) (i : Int) (s : Unit) : Option (Res Unit (Res Unit Bool)) :=
 need (inR j_7 i) <|
 bnd (gx j_7 i) fun v4 =>
 need (inR r1.1 v4.To) <|
 need (inR r1.1 v4.From) <|
 need (inR sizes1 v4.From) <|
 bif decide (((gx r1.1 v4.To).Y) < (W ((W (((gx r1.1 v4.From).Y) + ((gx sizes1 v4.From).Y))) + gapy1))) then (
  some (Res.ab (Res.ab false)))
 else (
  some (Res.nx ()))

/-- drawtop.TopLayersAreLeast -/
noncomputable def top_TopLayersAreLeast (sizes1 : (List Point)) (l1 : (List Link)) (gapx1 : Int) (gapy1 : Int) (other1 : (List Int)) : Option Bool :=
 bnd ((sizes1.length : Int)) fun n1 =>
 Option.bind (layer_Draw sizes1 l1 gapx1 gapy1) fun r1 =>
 bif (!decide (r1.2 = 0)) || (decide (n1 = 0)) then (
  some (decide ((r1.1.length : Int) = 0)))
 else (
  Option.bind (layer_Turned n1 l1) fun r2 =>
  bif (!decide (r2.2 = 0)) || (!decide ((r1.1.length : Int) = n1)) then (
   some false)
  else (
   Option.bind (slices_Clone_Link l1) fun s1 =>
   Option.bind (α := (List Link)) (
    rfor (r2.1.length : Int) (top_TopLayersAreLeast_L1 l1 r2) s1) fun j_7 =>
   Option.bind (α := (List Int)) (
    rfor (r1.1.length : Int) (top_TopLayersAreLeast_L2 r1) ([] : List Int)) fun j_17 =>
   Option.bind (slices_Values_int j_17) fun r3 =>
   Option.bind (slices_Sorted_int r3) fun r4 =>
   Option.bind (slices_Compact_int r4) fun ys1 =>
   need (0 ≤ n1 ∧ n1 ≤ n1 ∧ n1 ≤ 1073741824) <|
   bnd (List.replicate n1.toNat (0 : Int)) fun ranks1 =>
   Option.bind (α := (List Int)) (
    rfor (r1.1.length : Int) (top_TopLayersAreLeast_L3 r1 ys1) ranks1) fun j_29 =>
   bindR (σ := Unit) (ρ := Bool) (
    rforE (j_7.length : Int) (top_TopLayersAreLeast_L4 r1 j_7 gapy1 sizes1) (fun s => Res.nx s) ()) fun j_37 =>
   Option.bind (layer_Total n1 j_7 j_29) fun r6 =>
   Option.bind (layer_Total n1 j_7 other1) fun r7 =>
   Option.bind (layer_Ranks n1 j_7) fun r8 =>
   Option.bind (layer_Total n1 j_7 r8.1) fun r9 =>
   some (((((decide (r6.2 = 0)) && (decide (r8.2 = 0))) && (decide (r9.2 = 0))) && (decide (r9.1 = r6.1))) && ((!decide (r7.2 = 0)) || (decide (r6.1 ≤ r7.1))))))


end Go.DB
