/-
  What the functions compute, as plain functions (printed by a program of one's own).
-/
import Derived.Test.YtjkfpjpepjjhlaaTnbTy
set_option maxRecDepth 100000
set_option linter.unusedSimpArgs false
set_option linter.unusedVariables false
namespace Go.DB
open Go Go.RowKit

/-- slices.Compact[[]int,int] -/
noncomputable def slices_Compact_int (l : List Int) : Option (List Int) := need ((l.length : Int) < 4611686018427387904) (some (compactI l))

/-- slices.Sort[[]int,int] -/
noncomputable def slices_Sort_int (l : List Int) : Option (List Int) := need ((l.length : Int) < 4611686018427387904) (some (sortI l))

/-- geom.out -/
noncomputable def geom_out (n1 : Int) : Option Bool :=
 some ((decide (n1 < (-1000000))) || (decide (1000000 < n1)))

/-- geom.CheckPoint -/
noncomputable def geom_CheckPoint (p1 : Point) : Option Int :=
 Option.bind (geom_out p1.X) fun r1 =>
 Option.bind (gd (!r1) (geom_out p1.Y)) fun r2 =>
 bif r1 || r2 then (
  some 3)
 else (
  some 0)

/-- route.isSide -/
noncomputable def route_isSide (side1 : Int) : Option Bool :=
 some ((decide (1 ≤ side1)) && (decide (side1 ≤ 4)))

/-- geom.CheckBox -/
noncomputable def geom_CheckBox (b1 : Box) : Option Int :=
 Option.bind (geom_out b1.X) fun r1 =>
 Option.bind (gd (!r1) (geom_out b1.Y)) fun r2 =>
 bif ((((r1 || r2) || (decide (b1.W_ < 1))) || (decide (20000 < b1.W_))) || (decide (b1.H < 1))) || (decide (20000 < b1.H)) then (
  some 3)
 else (
  some 0)

/-- route.toward -/
noncomputable def route_toward (side1 : Int) : Option Point :=
 bnd ((⟨(0 : Int), (0 : Int)⟩ : Point)) fun v1 =>
 need (0 ≤ side1 ∧ side1 < (4 + 1 : Nat)) <|
 bnd (gx (⟨[(⟨(0 : Int), (0 : Int)⟩ : Point), (⟨(0 : Int), (-1)⟩ : Point), (⟨1, (0 : Int)⟩ : Point), (⟨(0 : Int), 1⟩ : Point), (⟨(-1), (0 : Int)⟩ : Point)]⟩ : (Arr 4 Point)).l side1) fun v2 =>
 some v2

/-- route.away -/
noncomputable def route_away (p1 : Point) (d1 : Point) (n1 : Int) : Option Point :=
 bnd ((⟨(0 : Int), (0 : Int)⟩ : Point)) fun v1 =>
 bnd ((⟨W (p1.X + (W (n1 * d1.X))), W (p1.Y + (W (n1 * d1.Y)))⟩ : Point)) fun v2 =>
 some v2

/-- route.ends -/
noncomputable def route_ends (t1 : Task) : Option (Point × Point) :=
 bnd ((⟨(0 : Int), (0 : Int)⟩ : Point)) fun start1 =>
 bnd ((⟨(0 : Int), (0 : Int)⟩ : Point)) fun end1 =>
 Option.bind (route_toward t1.FromSide) fun r1 =>
 Option.bind (route_away t1.From r1 t1.Clear) fun r2 =>
 Option.bind (route_toward t1.ToSide) fun r3 =>
 Option.bind (route_away t1.To r3 t1.Clear) fun r4 =>
 some (r2, r4)

noncomputable def route_Check_L1 (v1 : (List Anon_p_side)) (i : Int) (s : Unit) : Option (Res Unit (Res Unit Int)) :=
 need (inR v1 i) <|
 bnd (gx v1 i) fun v2 =>
 Option.bind (geom_CheckPoint v2.p) fun e1 =>
 bif !decide (e1 = 0) then (
  some (Res.ab (Res.ab e1)))
 else (
  Option.bind (route_isSide v2.side) fun r1 =>
  bif !r1 then (
   some (Res.ab (Res.ab 3)))
  else (
   some (Res.nx ())))

noncomputable def route_Check_L2 (t1 : Task) (i : Int) (s : Unit) : Option (Res Unit (Res Unit Int)) :=
 need (inR t1.Walls i) <|
 bnd (gx t1.Walls i) fun v3 =>
 Option.bind (geom_CheckBox v3) fun e2 =>
 bif !decide (e2 = 0) then (
  some (Res.ab (Res.ab e2)))
 else (
  some (Res.nx ()))

/-- route.Check -/
noncomputable def route_Check (t1 : Task) : Option Int :=
 bnd ([(⟨t1.From, t1.FromSide⟩ : Anon_p_side), (⟨t1.To, t1.ToSide⟩ : Anon_p_side)]) fun v1 =>
 bindR (σ := Unit) (ρ := Int) (
  rforE (v1.length : Int) (route_Check_L1 v1) (fun s => Res.nx s) ()) fun j_2 =>
 bif decide (100 < (t1.Walls.length : Int)) then (
  some 4)
 else (
  bindR (σ := Unit) (ρ := Int) (
   rforE (t1.Walls.length : Int) (route_Check_L2 t1) (fun s => Res.nx s) ()) fun j_13 =>
  bif (decide (t1.Clear < 1)) || (decide (200 < t1.Clear)) then (
   some 3)
  else (
   Option.bind (route_ends t1) fun r2 =>
   Option.bind (geom_CheckPoint r2.1) fun e3 =>
   bif !decide (e3 = 0) then (
    some e3)
   else (
    Option.bind (geom_CheckPoint r2.2) fun r3 =>
    some r3)))

noncomputable def route_zones_L1 (t1 : Task) (i : Int) (s : (List Route_zone)) : Option (List Route_zone) :=
 need (inR t1.Walls i) <|
 bnd (gx t1.Walls i) fun v1 =>
 need (room (s.length + [(⟨W (v1.X - t1.Clear), W (v1.Y - t1.Clear), W ((W (v1.X + v1.W_)) + t1.Clear), W ((W (v1.Y + v1.H)) + t1.Clear)⟩ : Route_zone)].length)) <|
 some (s ++ [(⟨W (v1.X - t1.Clear), W (v1.Y - t1.Clear), W ((W (v1.X + v1.W_)) + t1.Clear), W ((W (v1.Y + v1.H)) + t1.Clear)⟩ : Route_zone)])

/-- route.zones -/
noncomputable def route_zones (t1 : Task) : Option (List Route_zone) :=
 Option.bind (α := (List Route_zone)) (
  rfor (t1.Walls.length : Int) (route_zones_L1 t1) ([] : List Route_zone)) fun j_1 =>
 some j_1

/-- route.free$1 -/
noncomputable def route_free_1 (z1 : Route_zone) (c0_1 : Point) (c1_1 : Point) : Option Bool :=
 some ((((decide (z1.left < (max c0_1.X c1_1.X))) && (decide ((min c0_1.X c1_1.X) < z1.right))) && (decide (z1.top < (max c0_1.Y c1_1.Y)))) && (decide ((min c0_1.Y c1_1.Y) < z1.bottom)))

noncomputable def slices_IndexFunc_zone_L1 (f1 : (Route_zone → Option Bool)) (s1 : (List Route_zone)) (i : Int) (s : Unit) : Option (Res Unit (Res Unit Int)) :=
 need (inR s1 i) <|
 Option.bind (f1 (gx s1 i)) fun r1 =>
 bif r1 then (
  some (Res.ab (Res.ab i)))
 else (
  some (Res.nx ()))

/-- slices.IndexFunc[[]route.zone,route.zone] -/
noncomputable def slices_IndexFunc_zone (s1 : (List Route_zone)) (f1 : (Route_zone → Option Bool)) : Option Int :=
 bindR (σ := Unit) (ρ := Int) (
  rforE (s1.length : Int) (slices_IndexFunc_zone_L1 f1 s1) (fun s => Res.nx s) ()) fun j_1 =>
 some (-1)

/-- slices.ContainsFunc[[]route.zone,route.zone] -/
noncomputable def slices_ContainsFunc_zone (s1 : (List Route_zone)) (f1 : (Route_zone → Option Bool)) : Option Bool :=
 Option.bind (slices_IndexFunc_zone s1 f1) fun r1 =>
 some (decide (0 ≤ r1))

/-- route.free -/
noncomputable def route_free (l1 : (List Route_zone)) (a1 : Point) (b1 : Point) : Option Bool :=
 Option.bind (slices_ContainsFunc_zone l1 (fun x0 => route_free_1 x0 a1 b1)) fun r1 =>
 some (!r1)

noncomputable def route_lines_1_L2 (n1 : Int) (s8_ : ((List Int) × Int)) : Option (Step ((List Int) × Int) (List Int)) :=
 bif decide (s8_.2 ≤ (W (n1 + 1))) then (
  Option.bind (α := (List Int)) (
   bif (decide ((-1000000) ≤ s8_.2)) && (decide (s8_.2 ≤ 1000000)) then (
    need (room (s8_.1.length + [s8_.2].length)) <|
    some (s8_.1 ++ [s8_.2]))
   else (
    some s8_.1)) fun j_10 =>
  bnd (W (s8_.2 + 1)) fun k2 =>
  some (Step.again (j_10, k2)))
 else (
  some (Step.done s8_.1))

noncomputable def route_lines_1_L1 (at1 : (List Int)) (i : Int) (s : (List Int)) : Option (List Int) :=
 need (inR at1 i) <|
 bnd (gx at1 i) fun n1 =>
 bnd (W (n1 - 1)) fun k1 =>
 loop (route_lines_1_L2 n1) (s, k1)

/-- route.lines$1 -/
noncomputable def route_lines_1 (l1 : (List Int)) (at1 : (List Int)) : Option (List Int) :=
 Option.bind (α := (List Int)) (
  rfor (at1.length : Int) (route_lines_1_L1 at1) l1) fun j_1 =>
 some j_1

noncomputable def route_lines_L1 (r2 : (List Route_zone)) (i : Int) (s : ((List Int) × (List Int))) : Option ((List Int) × (List Int)) :=
 need (inR r2 i) <|
 bnd (gx r2 i) fun v1 =>
 Option.bind (route_lines_1 s.1 [v1.left, v1.right]) fun xs2 =>
 Option.bind (route_lines_1 s.2 [v1.top, v1.bottom]) fun ys2 =>
 some (xs2, ys2)

/-- route.lines -/
noncomputable def route_lines (t1 : Task) : Option ((List Int) × (List Int)) :=
 Option.bind (route_ends t1) fun r1 =>
 Option.bind (route_lines_1 ([] : List Int) [r1.1.X, r1.2.X]) fun xs1 =>
 Option.bind (route_lines_1 ([] : List Int) [r1.1.Y, r1.2.Y]) fun ys1 =>
 Option.bind (route_zones t1) fun r2 =>
 Option.bind (α := ((List Int) × (List Int))) (
  rfor (r2.length : Int) (route_lines_L1 r2) (xs1, ys1)) fun j_5 =>
 Option.bind (slices_Sort_int j_5.1) fun r3 =>
 Option.bind (slices_Sort_int j_5.2) fun r4 =>
 Option.bind (slices_Compact_int r3) fun xs3 =>
 Option.bind (slices_Compact_int r4) fun ys3 =>
 some (xs3, ys3)

/-- cmp.isNaN[int] -/
noncomputable def cmp_isNaN_int (x1 : Int) : Option Bool :=
 some (!decide (x1 = x1))

/-- cmp.Less[int] -/
noncomputable def cmp_Less_int (x1 : Int) (y1 : Int) : Option Bool :=
 Option.bind (cmp_isNaN_int x1) fun r1 =>
 Option.bind (gd (r1) (cmp_isNaN_int y1)) fun r2 =>
 some ((r1 && (!r2)) || (decide (x1 < y1)))

/-- slices.isNaN[int] -/
noncomputable def slices_isNaN_int (x1 : Int) : Option Bool :=
 some (!decide (x1 = x1))

noncomputable def slices_BinarySearch_int_L1 (x1 : (List Int)) (target1 : Int) (s3_ : (Int × Int)) : Option (Step (Int × Int) Int) :=
 bif decide (s3_.1 < s3_.2) then (
  bnd (W ((KI.of .u64 (W (s3_.1 + s3_.2))).shr 1).n) fun h1 =>
  need (inR x1 h1) <|
  Option.bind (cmp_Less_int (gx x1 h1) target1) fun r1 =>
  bif r1 then (
   bnd (W (h1 + 1)) fun i1 =>
   some (Step.again (i1, s3_.2)))
  else (
   some (Step.again (s3_.1, h1))))
 else (
  some (Step.done s3_.1))

/-- slices.BinarySearch[[]int,int] -/
noncomputable def slices_BinarySearch_int (x1 : (List Int)) (target1 : Int) : Option (Int × Bool) :=
 bnd ((x1.length : Int)) fun n1 =>
 Option.bind (α := Int) (
  loop (slices_BinarySearch_int_L1 x1 target1) (0, n1)) fun j_2 =>
 need ((decide (j_2 < n1)) = true → inR x1 j_2) <|
 need ((decide (j_2 < n1)) = true → (decide ((gx x1 j_2) = target1)) = false → inR x1 j_2) <|
 Option.bind (gd ((decide (j_2 < n1)) && !(decide ((gx x1 j_2) = target1))) (slices_isNaN_int (gx x1 j_2))) fun r2 =>
 Option.bind (gd ((decide (j_2 < n1)) && !(decide ((gx x1 j_2) = target1)) && r2) (slices_isNaN_int target1)) fun r3 =>
 some (j_2, (decide (j_2 < n1)) && ((decide ((gx x1 j_2) = target1)) || (r2 && r3)))

/-- route.newSearch$1 -/
noncomputable def route_newSearch_1 (l1 : (List Int)) (low1 : Int) (high1 : Int) : Option ((Arr 1 Int) × (Arr 1 Int)) :=
 bnd ((⟨List.replicate 2 (0 : Int)⟩ : (Arr 1 Int))) fun lines1 =>
 bnd ((⟨List.replicate 2 (0 : Int)⟩ : (Arr 1 Int))) fun stretches1 =>
 Option.bind (slices_BinarySearch_int l1 (W (low1 + 1))) fun r1 =>
 Option.bind (slices_BinarySearch_int l1 high1) fun r2 =>
 bnd ((⟨[r1.1, r2.1]⟩ : (Arr 1 Int))) fun v1 =>
 bnd ((⟨[max (W (r1.1 - 1)) 0, r2.1]⟩ : (Arr 1 Int))) fun v2 =>
 some (v1, v2)

noncomputable def route_newSearch_L1 (h1 : Int) (w1 : Int) (i : Int) (s : ((List Bool) × (List Bool))) : Option ((List Bool) × (List Bool)) :=
 need (0 < w1) <|
 bnd (decide ((i.tmod w1) < (W (w1 - 1)))) fun v4 =>
 need (0 < w1) <|
 bnd (decide ((i.tdiv w1) < (W (h1 - 1)))) fun v5 =>
 need (inR s.2 i) <|
 need (inR s.1 i) <|
 some (s.1.set i.toNat v5, s.2.set i.toNat v4)

noncomputable def route_newSearch_L4 (r4 : ((Arr 1 Int) × (Arr 1 Int))) (w1 : Int) (s33_ : (Int × (List Bool))) (s37_ : (Int × (List Bool))) : Option (Step (Int × (List Bool)) (List Bool)) :=
 bif decide (s37_.1 < (gx r4.2.l 1)) then (
  need (inR s37_.2 (W ((W (s33_.1 * w1)) + s37_.1))) <|
  bnd (s37_.2.set (W ((W (s33_.1 * w1)) + s37_.1)).toNat false) fun c3 =>
  bnd (W (s37_.1 + 1)) fun x2 =>
  some (Step.again (x2, c3)))
 else (
  some (Step.done s37_.2))

noncomputable def route_newSearch_L3 (r3 : ((Arr 1 Int) × (Arr 1 Int))) (r4 : ((Arr 1 Int) × (Arr 1 Int))) (w1 : Int) (s33_ : (Int × (List Bool))) : Option (Step (Int × (List Bool)) (List Bool)) :=
 bif decide (s33_.1 < (gx r3.1.l 1)) then (
  Option.bind (α := (List Bool)) (
   bnd (gx r4.2.l 0) fun x1 =>
   loop (route_newSearch_L4 r4 w1 s33_) (x1, s33_.2)) fun j_35 =>
  bnd (W (s33_.1 + 1)) fun y2 =>
  some (Step.again (y2, j_35)))
 else (
  some (Step.done s33_.2))

noncomputable def route_newSearch_L6 (r3 : ((Arr 1 Int) × (Arr 1 Int))) (w1 : Int) (s44_ : (Int × (List Bool))) (s48_ : (Int × (List Bool))) : Option (Step (Int × (List Bool)) (List Bool)) :=
 bif decide (s48_.1 < (gx r3.2.l 1)) then (
  need (inR s48_.2 (W ((W (s48_.1 * w1)) + s44_.1))) <|
  bnd (s48_.2.set (W ((W (s48_.1 * w1)) + s44_.1)).toNat false) fun c4 =>
  bnd (W (s48_.1 + 1)) fun y4 =>
  some (Step.again (y4, c4)))
 else (
  some (Step.done s48_.2))

noncomputable def route_newSearch_L5 (r3 : ((Arr 1 Int) × (Arr 1 Int))) (r4 : ((Arr 1 Int) × (Arr 1 Int))) (w1 : Int) (j_32 : (List Bool)) (s44_ : (Int × (List Bool))) : Option (Step (Int × (List Bool)) ((List Bool) × (List Bool))) :=
 bif decide (s44_.1 < (gx r4.1.l 1)) then (
  Option.bind (α := (List Bool)) (
   bnd (gx r3.2.l 0) fun y3 =>
   loop (route_newSearch_L6 r3 w1 s44_) (y3, s44_.2)) fun j_46 =>
  bnd (W (s44_.1 + 1)) fun x4 =>
  some (Step.again (x4, j_46)))
 else (
  some (Step.done (s44_.2, j_32)))

noncomputable def route_newSearch_L2 (r2 : (List Route_zone)) (s1 : Route_search) (w1 : Int) (i : Int) (s : ((List Bool) × (List Bool))) : Option ((List Bool) × (List Bool)) :=
 need (inR r2 i) <|
 bnd (gx r2 i) fun v6 =>
 Option.bind (route_newSearch_1 s1.ys v6.top v6.bottom) fun r3 =>
 Option.bind (route_newSearch_1 s1.xs v6.left v6.right) fun r4 =>
 bnd (gx r3.1.l 0) fun y1 =>
 Option.bind (α := (List Bool)) (
  loop (route_newSearch_L3 r3 r4 w1) (y1, s.2)) fun j_32 =>
 bnd (gx r4.1.l 0) fun x3 =>
 loop (route_newSearch_L5 r3 r4 w1 j_32) (x3, s.1)

/-- route.newSearch -/
noncomputable def route_newSearch (t1 : Task) : Option (Option Route_search) :=
 bnd ((⟨([] : (List Int)), ([] : (List Int)), ([] : (List Bool)), ([] : (List Bool))⟩ : Route_search)) fun v1 =>
 Option.bind (route_lines t1) fun r1 =>
 bnd ({ { v1 with xs := r1.1 } with ys := r1.2 }) fun s1 =>
 bnd ((s1.xs.length : Int)) fun w1 =>
 bnd ((s1.ys.length : Int)) fun h1 =>
 bnd (W (w1 * h1)) fun v2 =>
 need (0 ≤ v2 ∧ v2 ≤ v2 ∧ v2 ≤ 1073741824) <|
 bnd (W (w1 * h1)) fun v3 =>
 need (0 ≤ v3 ∧ v3 ≤ v3 ∧ v3 ≤ 1073741824) <|
 bnd (List.replicate v3.toNat false) fun c1 =>
 bnd (List.replicate v2.toNat false) fun c2 =>
 Option.bind (α := ((List Bool) × (List Bool))) (
  rfor ((List.replicate v2.toNat false).length : Int) (route_newSearch_L1 h1 w1) (c1, c2)) fun j_12 =>
 Option.bind (route_zones t1) fun r2 =>
 Option.bind (α := ((List Bool) × (List Bool))) (
  rfor (r2.length : Int) (route_newSearch_L2 r2 s1 w1) (j_12.1, j_12.2)) fun j_23 =>
 some (some ({ s1 with across := j_23.2, down := j_23.1 }))

/-- (*route.search).spotAt -/
noncomputable def route_search_spotAt (s1 : Route_search) (p1 : Point) (side1 : Int) : Option Route_spot :=
 bnd ((⟨(0 : Int), (0 : Int), (0 : Int)⟩ : Route_spot)) fun v1 =>
 Option.bind (slices_BinarySearch_int s1.xs p1.X) fun r1 =>
 Option.bind (slices_BinarySearch_int s1.ys p1.Y) fun r2 =>
 bnd ((⟨r1.1, r2.1, side1⟩ : Route_spot)) fun v2 =>
 some v2

/-- route.back -/
noncomputable def route_back (side1 : Int) : Option Int :=
 some (W (((W (side1 + 1)).tmod 4) + 1))

/-- (*route.search).key -/
noncomputable def route_search_key (s1 : Route_search) (p1 : Route_spot) : Option Int :=
 some (W ((W ((W ((W ((W (p1.y * (s1.xs.length : Int))) + p1.x)) * 4)) + p1.side)) - 1))

/-- (*route.queue).Push -/
noncomputable def route_queue_Push (q1 : (List Route_reached)) (x1 : Route_reached) : Option (List Route_reached) :=
 need (room (q1.length + [x1].length)) <|
 some (q1 ++ [x1])

/-- (route.queue).Len -/
noncomputable def route_queue_Len (q1 : (List Route_reached)) : Option Int :=
 some (q1.length : Int)

/-- (route.queue).Less -/
noncomputable def route_queue_Less (q1 : (List Route_reached)) (i1 : Int) (j1 : Int) : Option Bool :=
 need (inR q1 i1) <|
 need (inR q1 j1) <|
 bif !decide (((gx q1 i1).bends) = ((gx q1 j1).bends)) then (
  need (inR q1 i1) <|
  need (inR q1 j1) <|
  some (decide (((gx q1 i1).bends) < ((gx q1 j1).bends))))
 else (
  need (inR q1 i1) <|
  need (inR q1 j1) <|
  some (decide (((gx q1 i1).long) < ((gx q1 j1).long))))

/-- (route.queue).Swap -/
noncomputable def route_queue_Swap (q1 : (List Route_reached)) (i1 : Int) (j1 : Int) : Option (List Route_reached) :=
 need (inR q1 j1) <|
 bnd (gx q1 j1) fun v1 =>
 need (inR q1 i1) <|
 bnd (gx q1 i1) fun v2 =>
 need (inR q1 i1) <|
 need (inR (q1.set i1.toNat v1) j1) <|
 some ((q1.set i1.toNat v1).set j1.toNat v2)

noncomputable def heap_up_L1  (s1_ : (Int × (List Route_reached))) : Option (Step (Int × (List Route_reached)) (List Route_reached)) :=
 bnd ((W (s1_.1 - 1)).tdiv 2) fun i1 =>
 Option.bind (gd (!(decide (i1 = s1_.1))) (route_queue_Less s1_.2 s1_.1 i1)) fun r1 =>
 bif (decide (i1 = s1_.1)) || (!r1) then (
  some (Step.done s1_.2))
 else (
  Option.bind (route_queue_Swap s1_.2 i1 s1_.1) fun r2 =>
  some (Step.again (i1, r2)))

/-- container/heap.up -/
noncomputable def heap_up (h1 : (List Route_reached)) (j1 : Int) : Option (List Route_reached) :=
 loop heap_up_L1 (j1, h1)

/-- container/heap.Push -/
noncomputable def heap_Push (h1 : (List Route_reached)) (x1 : Route_reached) : Option (List Route_reached) :=
 Option.bind (route_queue_Push h1 x1) fun r1 =>
 Option.bind (route_queue_Len r1) fun r2 =>
 Option.bind (heap_up r1 (W (r2 - 1))) fun r3 =>
 some r3

/-- (*route.search).find$1 -/
noncomputable def route_search_find_1 (r1 : Route_reached) (by1 : Int) (c0_1 : (Option Route_search)) (c1_1 : (List Bool)) (c2_1 : (List Route_reached)) (c3_1 : (List Int)) (c4_1 : (List Route_reached)) : Option ((List Bool) × (List Route_reached) × (List Int) × (List Route_reached)) :=
 Option.bind c0_1 fun p1 =>
 Option.bind (route_search_key p1 r1.spot) fun k1 =>
 need (inR c1_1 k1) <|
 need ((gx c1_1 k1) = true → inR c2_1 k1) <|
 need ((gx c1_1 k1) = true → (decide (((gx c2_1 k1).bends) < r1.bends)) = false → inR c2_1 k1) <|
 need ((gx c1_1 k1) = true → (decide (((gx c2_1 k1).bends) < r1.bends)) = false → (decide (((gx c2_1 k1).bends) = r1.bends)) = true → inR c2_1 k1) <|
 bif (gx c1_1 k1) && ((decide (((gx c2_1 k1).bends) < r1.bends)) || ((decide (((gx c2_1 k1).bends) = r1.bends)) && (decide (((gx c2_1 k1).long) ≤ r1.long)))) then (
  some (c1_1, c2_1, c3_1, c4_1))
 else (
  need (inR c2_1 k1) <|
  need (inR c3_1 k1) <|
  need (inR c1_1 k1) <|
  bnd (c1_1.set k1.toNat true) fun c1 =>
  bnd (c2_1.set k1.toNat r1) fun c2 =>
  bnd (c3_1.set k1.toNat by1) fun c3 =>
  Option.bind (heap_Push c4_1 r1) fun r2 =>
  some (c1, c2, c3, r2))

noncomputable def heap_down_L1 (n1 : Int) (s2_ : (Int × (List Route_reached))) : Option (Step (Int × (List Route_reached)) (Int × (List Route_reached))) :=
 bnd (W ((W (2 * s2_.1)) + 1)) fun j1_1 =>
 bif (decide (n1 ≤ j1_1)) || (decide (j1_1 < 0)) then (
  some (Step.done (s2_.1, s2_.2)))
 else (
  bnd (W (j1_1 + 1)) fun j2_1 =>
  Option.bind (gd ((decide (j2_1 < n1))) (route_queue_Less s2_.2 j2_1 j1_1)) fun r1 =>
  Option.bind (α := Int) (
   bif (decide (j2_1 < n1)) && r1 then (
    some j2_1)
   else (
    some j1_1)) fun j_7 =>
  Option.bind (route_queue_Less s2_.2 j_7 s2_.1) fun r2 =>
  bif !r2 then (
   some (Step.done (s2_.1, s2_.2)))
  else (
   Option.bind (route_queue_Swap s2_.2 s2_.1 j_7) fun r3 =>
   some (Step.again (j_7, r3))))

/-- container/heap.down -/
noncomputable def heap_down (h1 : (List Route_reached)) (i0_1 : Int) (n1 : Int) : Option (Bool × (List Route_reached)) :=
 Option.bind (α := (Int × (List Route_reached))) (
  loop (heap_down_L1 n1) (i0_1, h1)) fun j_1 =>
 some (decide (i0_1 < j_1.1), j_1.2)

/-- (*route.queue).Pop -/
noncomputable def route_queue_Pop (q1 : (List Route_reached)) : Option (Route_reached × (List Route_reached)) :=
 need (inR q1 (W ((q1.length : Int) - 1))) <|
 bnd (gx q1 (W ((q1.length : Int) - 1))) fun v1 =>
 need (segR q1.length 0 (W ((q1.length : Int) - 1))) <|
 bnd (seg q1 0 (W ((q1.length : Int) - 1))) fun c1 =>
 some (v1, c1)

/-- container/heap.Pop -/
noncomputable def heap_Pop (h1 : (List Route_reached)) : Option (Route_reached × (List Route_reached)) :=
 Option.bind (route_queue_Len h1) fun r1 =>
 bnd (W (r1 - 1)) fun n1 =>
 Option.bind (route_queue_Swap h1 0 n1) fun r2 =>
 Option.bind (heap_down r2 0 n1) fun r3 =>
 Option.bind (route_queue_Pop r3.2) fun r4 =>
 some (r4.1, r4.2)

noncomputable def slices_Reverse_spot_L1  (s2_ : (Int × Int × (List Route_spot))) : Option (Step (Int × Int × (List Route_spot)) (List Route_spot)) :=
 bif decide (s2_.1 < s2_.2.1) then (
  need (inR s2_.2.2 s2_.2.1) <|
  bnd (gx s2_.2.2 s2_.2.1) fun v1 =>
  need (inR s2_.2.2 s2_.1) <|
  bnd (gx s2_.2.2 s2_.1) fun v2 =>
  need (inR s2_.2.2 s2_.1) <|
  need (inR (s2_.2.2.set s2_.1.toNat v1) s2_.2.1) <|
  bnd ((s2_.2.2.set s2_.1.toNat v1).set s2_.2.1.toNat v2) fun s2 =>
  bnd (W (s2_.1 + 1)) fun i1 =>
  bnd (W (s2_.2.1 - 1)) fun j2 =>
  some (Step.again (i1, j2, s2)))
 else (
  some (Step.done s2_.2.2))

/-- slices.Reverse[[]route.spot,route.spot] -/
noncomputable def slices_Reverse_spot (s1 : (List Route_spot)) : Option (List Route_spot) :=
 bnd (W ((s1.length : Int) - 1)) fun j1 =>
 loop slices_Reverse_spot_L1 (0, j1, s1)

/-- (*route.search).next -/
noncomputable def route_search_next (s1 : Route_search) (p1 : Route_spot) (side1 : Int) : Option (Route_spot × Int × Bool) :=
 bnd ((⟨(0 : Int), (0 : Int), (0 : Int)⟩ : Route_spot)) fun q1 =>
 Option.bind (route_toward side1) fun r1 =>
 bnd ((⟨W (p1.x + r1.X), W (p1.y + r1.Y), side1⟩ : Route_spot)) fun v1 =>
 bif (((decide (v1.x < 0)) || (decide ((s1.xs.length : Int) ≤ v1.x))) || (decide (v1.y < 0))) || (decide ((s1.ys.length : Int) ≤ v1.y)) then (
  some (v1, 0, false))
 else (
  bnd (W ((W ((min p1.y v1.y) * (s1.xs.length : Int))) + (min p1.x v1.x))) fun at1 =>
  bif !decide (r1.X = 0) then (
   need (inR s1.xs v1.x) <|
   need (inR s1.xs p1.x) <|
   need (inR s1.xs p1.x) <|
   need (inR s1.xs v1.x) <|
   need (inR s1.across at1) <|
   some (v1, max (W ((gx s1.xs v1.x) - (gx s1.xs p1.x))) (W ((gx s1.xs p1.x) - (gx s1.xs v1.x))), gx s1.across at1))
  else (
   need (inR s1.ys v1.y) <|
   need (inR s1.ys p1.y) <|
   need (inR s1.ys p1.y) <|
   need (inR s1.ys v1.y) <|
   need (inR s1.down at1) <|
   some (v1, max (W ((gx s1.ys v1.y) - (gx s1.ys p1.y))) (W ((gx s1.ys p1.y) - (gx s1.ys v1.y))), gx s1.down at1)))

noncomputable def route_search_find_L2 (s16_ : ((List Route_reached) × (List Int) × (List Bool) × (List Route_reached) × (List Bool))) (s28_ : (Int × (List Route_spot))) : Option (Step (Int × (List Route_spot)) (List Route_spot)) :=
 bif decide (0 ≤ s28_.1) then (
  need (inR s16_.1 s28_.1) <|
  need (room (s28_.2.length + [(gx s16_.1 s28_.1).spot].length)) <|
  bnd (s28_.2 ++ [(gx s16_.1 s28_.1).spot]) fun way1 =>
  need (inR s16_.2.1 s28_.1) <|
  bnd (gx s16_.2.1 s28_.1) fun k2 =>
  some (Step.again (k2, way1)))
 else (
  some (Step.done s28_.2))

noncomputable def route_search_find_L3 (k1 : Int) (r3 : (Route_reached × (List Route_reached))) (s1 : Route_search) (done2 : (List Bool)) (s40_ : (Int × (List Route_reached) × (List Int) × (List Bool) × (List Route_reached))) : Option (Step (Int × (List Route_reached) × (List Int) × (List Bool) × (List Route_reached)) (Step ((List Route_reached) × (List Int) × (List Bool) × (List Route_reached) × (List Bool)) (Res Unit ((List Route_spot) × Bool)))) :=
 bif decide (s40_.1 ≤ 4) then (
  Option.bind (α := ((List Route_reached) × (List Int) × (List Bool) × (List Route_reached))) (
   Option.bind (route_back r3.1.spot.side) fun r7 =>
   bif decide (s40_.1 = r7) then (
    some (s40_.2.1, s40_.2.2.1, s40_.2.2.2.1, s40_.2.2.2.2))
   else (
    Option.bind (route_search_next s1 r3.1.spot s40_.1) fun r8 =>
    bif !r8.2.2 then (
     some (s40_.2.1, s40_.2.2.1, s40_.2.2.2.1, s40_.2.2.2.2))
    else (
     Option.bind (α := Int) (
      bif !decide (s40_.1 = r3.1.spot.side) then (
       bnd (W (r3.1.bends + 1)) fun bends1 =>
       some bends1)
      else (
       some r3.1.bends)) fun j_47 =>
     Option.bind (route_search_find_1 (⟨r8.1, j_47, W (r3.1.long + r8.2.1)⟩ : Route_reached) k1 (some s1) s40_.2.2.2.1 s40_.2.1 s40_.2.2.1 s40_.2.2.2.2) fun r9 =>
     some (r9.2.1, r9.2.2.1, r9.1, r9.2.2.2)))) fun j_42 =>
  bnd (W (s40_.1 + 1)) fun side1 =>
  some (Step.again (side1, j_42.1, j_42.2.1, j_42.2.2.1, j_42.2.2.2)))
 else (
  some (Step.done (Step.again (s40_.2.1, s40_.2.2.1, s40_.2.2.2.1, s40_.2.2.2.2, done2))))

noncomputable def route_search_find_L1 (s1 : Route_search) (to1 : Route_spot) (s16_ : ((List Route_reached) × (List Int) × (List Bool) × (List Route_reached) × (List Bool))) : Option (Step ((List Route_reached) × (List Int) × (List Bool) × (List Route_reached) × (List Bool)) (Res Unit ((List Route_spot) × Bool))) :=
 Option.bind (route_queue_Len s16_.2.2.2.1) fun r2 =>
 bif decide (0 < r2) then (
  Option.bind (heap_Pop s16_.2.2.2.1) fun r3 =>
  Option.bind (route_search_key s1 r3.1.spot) fun k1 =>
  need (inR s16_.2.2.2.2 k1) <|
  bif gx s16_.2.2.2.2 k1 then (
   some (Step.again (s16_.1, s16_.2.1, s16_.2.2.1, r3.2, s16_.2.2.2.2)))
  else (
   need (inR s16_.2.2.2.2 k1) <|
   bnd (s16_.2.2.2.2.set k1.toNat true) fun done2 =>
   bindR (σ := Unit) (ρ := (Step ((List Route_reached) × (List Int) × (List Bool) × (List Route_reached) × (List Bool)) (Res Unit ((List Route_spot) × Bool)))) (
    bif decide (r3.1.spot = to1) then (
     Option.bind (α := (List Route_spot)) (
      loop (route_search_find_L2 s16_) (k1, ([] : List Route_spot))) fun j_27 =>
     Option.bind (slices_Reverse_spot j_27) fun r4 =>
     some (Res.ab (Step.done (Res.ab (r4, true)))))
    else (
     some (Res.nx ()))) fun j_25 =>
   Option.bind (gd (((decide (r3.1.spot.x = to1.x)) && (decide (r3.1.spot.y = to1.y)))) (route_back to1.side)) fun r5 =>
   Option.bind (α := ((List Route_reached) × (List Int) × (List Bool) × (List Route_reached))) (
    bif ((decide (r3.1.spot.x = to1.x)) && (decide (r3.1.spot.y = to1.y))) && (!decide (r3.1.spot.side = r5)) then (
     Option.bind (route_search_find_1 (⟨to1, W (r3.1.bends + 1), r3.1.long⟩ : Route_reached) k1 (some s1) s16_.2.2.1 s16_.1 s16_.2.1 r3.2) fun r6 =>
     some (r6.2.1, r6.2.2.1, r6.1, r6.2.2.2))
    else (
     some (s16_.1, s16_.2.1, s16_.2.2.1, r3.2))) fun j_37 =>
   loop (route_search_find_L3 k1 r3 s1 done2) (1, j_37.1, j_37.2.1, j_37.2.2.1, j_37.2.2.2)))
 else (
  some (Step.done (Res.nx ())))

/-- (*route.search).find -/
noncomputable def route_search_find (s1 : Route_search) (from1 : Route_spot) (to1 : Route_spot) : Option ((List Route_spot) × Bool) :=
 bnd (W ((W ((s1.xs.length : Int) * (s1.ys.length : Int))) * 4)) fun v1 =>
 need (0 ≤ v1 ∧ v1 ≤ v1 ∧ v1 ≤ 1073741824) <|
 bnd (((List.replicate v1.toNat (⟨(⟨(0 : Int), (0 : Int), (0 : Int)⟩ : Route_spot), (0 : Int), (0 : Int)⟩ : Route_reached)).length : Int)) fun v2 =>
 need (0 ≤ v2 ∧ v2 ≤ v2 ∧ v2 ≤ 1073741824) <|
 bnd (List.replicate v1.toNat (⟨(⟨(0 : Int), (0 : Int), (0 : Int)⟩ : Route_spot), (0 : Int), (0 : Int)⟩ : Route_reached)) fun c1 =>
 bnd ((c1.length : Int)) fun v3 =>
 need (0 ≤ v3 ∧ v3 ≤ v3 ∧ v3 ≤ 1073741824) <|
 bnd (List.replicate v2.toNat (0 : Int)) fun c2 =>
 bnd ((c1.length : Int)) fun v4 =>
 need (0 ≤ v4 ∧ v4 ≤ v4 ∧ v4 ≤ 1073741824) <|
 bnd (List.replicate v4.toNat false) fun done1 =>
 bnd (List.replicate v3.toNat false) fun c3 =>
 Option.bind (route_search_find_1 (⟨from1, (0 : Int), (0 : Int)⟩ : Route_reached) (-1) (some s1) c3 c1 c2 ([] : (List Route_reached))) fun r1 =>
 bindR (σ := Unit) (ρ := ((List Route_spot) × Bool)) (
  loop (route_search_find_L1 s1 to1) (r1.2.1, r1.2.2.1, r1.1, r1.2.2.2, done1)) fun j_15 =>
 some (([] : (List Route_spot)), false)

noncomputable def route_Route_L1 (p1 : Route_search) (r7 : ((List Route_spot) × Bool)) (s17_ : ((List Point) × Int)) : Option (Step ((List Point) × Int) (List Point)) :=
 bif decide (s17_.2 < (r7.1.length : Int)) then (
  Option.bind (α := (List Point)) (
   need (inR r7.1 s17_.2) <|
   need (inR r7.1 (W (s17_.2 - 1))) <|
   bif !decide (((gx r7.1 s17_.2).side) = ((gx r7.1 (W (s17_.2 - 1))).side)) then (
    need (inR r7.1 (W (s17_.2 - 1))) <|
    need (inR p1.xs ((gx r7.1 (W (s17_.2 - 1))).x)) <|
    need (inR r7.1 (W (s17_.2 - 1))) <|
    need (inR p1.ys ((gx r7.1 (W (s17_.2 - 1))).y)) <|
    need (room (s17_.1.length + [(⟨gx p1.xs ((gx r7.1 (W (s17_.2 - 1))).x), gx p1.ys ((gx r7.1 (W (s17_.2 - 1))).y)⟩ : Point)].length)) <|
    some (s17_.1 ++ [(⟨gx p1.xs ((gx r7.1 (W (s17_.2 - 1))).x), gx p1.ys ((gx r7.1 (W (s17_.2 - 1))).y)⟩ : Point)]))
   else (
    some s17_.1)) fun j_19 =>
  bnd (W (s17_.2 + 1)) fun i1 =>
  some (Step.again (j_19, i1)))
 else (
  some (Step.done s17_.1))

/-- route.Route -/
noncomputable def route_Route (t1 : Task) : Option ((List Point) × Int) :=
 Option.bind (route_Check t1) fun e1 =>
 bif !decide (e1 = 0) then (
  some (([] : (List Point)), e1))
 else (
  Option.bind (route_ends t1) fun r1 =>
  Option.bind (route_zones t1) fun walls1 =>
  Option.bind (route_free walls1 r1.1 r1.1) fun r2 =>
  Option.bind (gd (!(!r2)) (route_free walls1 r1.2 r1.2)) fun r3 =>
  bif (!r2) || (!r3) then (
   some (([] : (List Point)), 10))
  else (
   Option.bind (route_newSearch t1) fun s1 =>
   Option.bind s1 fun p1 =>
   Option.bind (route_search_spotAt p1 r1.1 t1.FromSide) fun r4 =>
   Option.bind (route_back t1.ToSide) fun r5 =>
   Option.bind (route_search_spotAt p1 r1.2 r5) fun r6 =>
   Option.bind (route_search_find p1 r4 r6) fun r7 =>
   bif !r7.2 then (
    some (([] : (List Point)), 10))
   else (
    bnd ([t1.From]) fun l1 =>
    Option.bind (α := (List Point)) (
     loop (route_Route_L1 p1 r7) (l1, 1)) fun j_16 =>
    need (room (j_16.length + [t1.To].length)) <|
    some (j_16 ++ [t1.To], 0))))

noncomputable def geom_points_L1 (l1 : (List Point)) (i : Int) (s : Unit) : Option (Res Unit (Res Unit Int)) :=
 need (inR l1 i) <|
 bnd (gx l1 i) fun v1 =>
 Option.bind (geom_CheckPoint v1) fun e1 =>
 bif !decide (e1 = 0) then (
  some (Res.ab (Res.ab e1)))
 else (
  some (Res.nx ()))

/-- geom.points -/
noncomputable def geom_points (l1 : (List Point)) : Option Int :=
 bindR (σ := Unit) (ρ := Int) (
  rforE (l1.length : Int) (geom_points_L1 l1) (fun s => Res.nx s) ()) fun j_1 =>
 some 0

/-- geom.CheckPoints -/
noncomputable def geom_CheckPoints (l1 : (List Point)) : Option Int :=
 bif decide (1000 < (l1.length : Int)) then (
  some 4)
 else (
  Option.bind (geom_points l1) fun r1 =>
  some r1)

noncomputable def geom_CheckPath_L1 (l1 : (List Point)) (s5_ : Int) : Option (Step Int (Res Unit Int)) :=
 bif decide (s5_ < (l1.length : Int)) then (
  need (inR l1 s5_) <|
  need (inR l1 (W (s5_ - 1))) <|
  need (inR l1 s5_) <|
  need (inR l1 (W (s5_ - 1))) <|
  bif decide ((decide (((gx l1 s5_).X) = ((gx l1 (W (s5_ - 1))).X))) = (decide (((gx l1 s5_).Y) = ((gx l1 (W (s5_ - 1))).Y)))) then (
   some (Step.done (Res.ab 2)))
  else (
   bnd (W (s5_ + 1)) fun i1 =>
   some (Step.again i1)))
 else (
  some (Step.done (Res.nx ())))

/-- geom.CheckPath -/
noncomputable def geom_CheckPath (l1 : (List Point)) : Option Int :=
 Option.bind (geom_CheckPoints l1) fun e1 =>
 bif !decide (e1 = 0) then (
  some e1)
 else (
  bif decide ((l1.length : Int) < 2) then (
   some 2)
  else (
   bindR (σ := Unit) (ρ := Int) (
    loop (geom_CheckPath_L1 l1) 1) fun j_4 =>
   some 0))

/-- route.heading$1 -/
noncomputable def route_heading_1 (n1 : Int) : Option Int :=
 some (min (max n1 (-1)) 1)

/-- route.heading -/
noncomputable def route_heading (a1 : Point) (b1 : Point) : Option Point :=
 bnd ((⟨(0 : Int), (0 : Int)⟩ : Point)) fun v1 =>
 Option.bind (route_heading_1 (W (b1.X - a1.X))) fun r1 =>
 Option.bind (route_heading_1 (W (b1.Y - a1.Y))) fun r2 =>
 bnd ((⟨r1, r2⟩ : Point)) fun v2 =>
 some v2

/-- route.opposite -/
noncomputable def route_opposite (d1 : Point) : Option Point :=
 bnd ((⟨(0 : Int), (0 : Int)⟩ : Point)) fun v1 =>
 bnd ((⟨W (-d1.X), W (-d1.Y)⟩ : Point)) fun v2 =>
 some v2

/-- geom.apart -/
noncomputable def geom_apart (a1 : Point) (b1 : Point) : Option Int :=
 bnd (W (a1.X - b1.X)) fun x1 =>
 bnd (W (a1.Y - b1.Y)) fun y1 =>
 some (W ((max x1 (W (-x1))) + (max y1 (W (-y1)))))

noncomputable def geom_length_L1 (l1 : (List Point)) (s2_ : (Int × Int)) : Option (Step (Int × Int) Int) :=
 bif decide (s2_.2 < (l1.length : Int)) then (
  need (inR l1 (W (s2_.2 - 1))) <|
  need (inR l1 s2_.2) <|
  Option.bind (geom_apart (gx l1 (W (s2_.2 - 1))) (gx l1 s2_.2)) fun r1 =>
  bnd (W (s2_.1 + r1)) fun n1 =>
  bnd (W (s2_.2 + 1)) fun i1 =>
  some (Step.again (n1, i1)))
 else (
  some (Step.done s2_.1))

/-- geom.length -/
noncomputable def geom_length (l1 : (List Point)) : Option Int :=
 Option.bind (α := Int) (
  loop (geom_length_L1 l1) (0, 1)) fun j_1 =>
 some j_1

/-- geom.Length -/
noncomputable def geom_Length (l1 : (List Point)) : Option (Int × Int) :=
 Option.bind (geom_CheckPath l1) fun e1 =>
 bif !decide (e1 = 0) then (
  some (0, e1))
 else (
  Option.bind (geom_length l1) fun r1 =>
  some (r1, 0))

/-- slices.Clone[[]api.Point,api.Point] -/
noncomputable def slices_Clone_Point (s1 : (List Point)) : Option (List Point) :=
 nilc s1 (
  some ([] : List Point)) (
  need (room (([] : (List Point)).length + s1.length)) <|
  bnd (([] : (List Point)) ++ s1) fun v1 =>
  some v1)

noncomputable def route_right_L1 (l1 : (List Point)) (n1 : Int) (s7_ : Int) : Option (Step Int (Res Unit Bool)) :=
 bif decide (s7_ < n1) then (
  need (inR l1 (W (s7_ - 2))) <|
  need (inR l1 (W (s7_ - 1))) <|
  Option.bind (route_heading (gx l1 (W (s7_ - 2))) (gx l1 (W (s7_ - 1)))) fun r2 =>
  need (inR l1 (W (s7_ - 1))) <|
  need (inR l1 s7_) <|
  Option.bind (route_heading (gx l1 (W (s7_ - 1))) (gx l1 s7_)) fun r3 =>
  Option.bind (gd (!(decide (r2 = r3))) (route_opposite r3)) fun r4 =>
  bif (decide (r2 = r3)) || (decide (r2 = r4)) then (
   some (Step.done (Res.ab false)))
  else (
   bnd (W (s7_ + 1)) fun i1 =>
   some (Step.again i1)))
 else (
  some (Step.done (Res.nx ())))

noncomputable def route_right_L2 (n1 : Int) (r5 : (Point × Point)) (way1 : (List Point)) (walls1 : (List Route_zone)) (s39_ : Int) : Option (Step Int (Res Unit Bool)) :=
 bif decide (s39_ < n1) then (
  need (inR ((way1.set (0 : Int).toNat r5.1).set (W (n1 - 1)).toNat r5.2) (W (s39_ - 1))) <|
  need (inR ((way1.set (0 : Int).toNat r5.1).set (W (n1 - 1)).toNat r5.2) s39_) <|
  Option.bind (route_free walls1 (gx ((way1.set (0 : Int).toNat r5.1).set (W (n1 - 1)).toNat r5.2) (W (s39_ - 1))) (gx ((way1.set (0 : Int).toNat r5.1).set (W (n1 - 1)).toNat r5.2) s39_)) fun r13 =>
  bif !r13 then (
   some (Step.done (Res.ab false)))
  else (
   bnd (W (s39_ + 1)) fun i2 =>
   some (Step.again i2)))
 else (
  some (Step.done (Res.nx ())))

noncomputable def route_right_L3 (v1 : (List Point)) (r14 : ((List Int) × (List Int))) (i : Int) (s : Unit) : Option (Res Unit (Res Unit Bool)) :=
 need (inR v1 i) <|
 bnd (gx v1 i) fun v2 =>
 Option.bind (slices_BinarySearch_int r14.1 v2.X) fun r15 =>
 Option.bind (slices_BinarySearch_int r14.2 v2.Y) fun r16 =>
 bif (!r15.2) || (!r16.2) then (
  some (Res.ab (Res.ab false)))
 else (
  some (Res.nx ()))

/-- route.right -/
noncomputable def route_right (t1 : Task) (l1 : (List Point)) : Option Bool :=
 Option.bind (geom_CheckPath l1) fun r1 =>
 need ((!decide (r1 = 0)) = false → inR l1 0) <|
 need (((!decide (r1 = 0)) || (!decide ((gx l1 0) = t1.From))) = false → inR l1 (W ((l1.length : Int) - 1))) <|
 bif ((!decide (r1 = 0)) || (!decide ((gx l1 0) = t1.From))) || (!decide ((gx l1 (W ((l1.length : Int) - 1))) = t1.To)) then (
  some false)
 else (
  bnd ((l1.length : Int)) fun n1 =>
  bindR (σ := Unit) (ρ := Bool) (
   loop (route_right_L1 l1 n1) 2) fun j_6 =>
  Option.bind (route_ends t1) fun r5 =>
  Option.bind (route_toward t1.FromSide) fun r6 =>
  Option.bind (route_toward t1.ToSide) fun r7 =>
  Option.bind (route_opposite r7) fun r8 =>
  need (inR l1 0) <|
  need (inR l1 1) <|
  Option.bind (route_heading (gx l1 0) (gx l1 1)) fun r9 =>
  need ((!decide (r9 = r6)) = false → inR l1 (W (n1 - 2))) <|
  need ((!decide (r9 = r6)) = false → inR l1 (W (n1 - 1))) <|
  Option.bind (gd (!(!decide (r9 = r6))) (route_heading (gx l1 (W (n1 - 2))) (gx l1 (W (n1 - 1))))) fun r10 =>
  bif (!decide (r9 = r6)) || (!decide (r10 = r8)) then (
   some false)
  else (
   need (segR l1.length 0 2) <|
   Option.bind (geom_Length (seg l1 0 2)) fun r11 =>
   need (segR l1.length (W (n1 - 2)) (l1.length : Int)) <|
   Option.bind (geom_Length (seg l1 (W (n1 - 2)) (l1.length : Int))) fun r12 =>
   bif ((decide (r11.1 < t1.Clear)) || (decide (r12.1 < t1.Clear))) || ((decide (n1 = 2)) && (decide (r11.1 < (W (2 * t1.Clear))))) then (
    some false)
   else (
    Option.bind (route_zones t1) fun walls1 =>
    Option.bind (slices_Clone_Point l1) fun way1 =>
    need (inR way1 0) <|
    need (inR (way1.set (0 : Int).toNat r5.1) (W (n1 - 1))) <|
    bindR (σ := Unit) (ρ := Bool) (
     loop (route_right_L2 n1 r5 way1 walls1) 1) fun j_38 =>
    Option.bind (route_lines t1) fun r14 =>
    need (segR l1.length 1 (W (n1 - 1))) <|
    bnd (seg l1 1 (W (n1 - 1))) fun v1 =>
    bindR (σ := Unit) (ρ := Bool) (
     rforE (v1.length : Int) (route_right_L3 v1 r14) (fun s => Res.nx s) ()) fun j_49 =>
    some true)))

/-- route.Right -/
noncomputable def route_Right (t1 : Task) (l1 : (List Point)) : Option (Bool × Int) :=
 Option.bind (route_Check t1) fun e1 =>
 bif !decide (e1 = 0) then (
  some (false, e1))
 else (
  Option.bind (geom_CheckPoints l1) fun e2 =>
  bif !decide (e2 = 0) then (
   some (false, e2))
  else (
   Option.bind (route_right t1 l1) fun r1 =>
   some (r1, 0)))

noncomputable def geom_Bends_L1 (l1 : (List Point)) (s4_ : (Int × Int)) : Option (Step (Int × Int) Int) :=
 bif decide (s4_.2 < (l1.length : Int)) then (
  Option.bind (α := Int) (
   need (inR l1 (W (s4_.2 - 2))) <|
   need (inR l1 (W (s4_.2 - 1))) <|
   need (inR l1 (W (s4_.2 - 1))) <|
   need (inR l1 s4_.2) <|
   bif !decide ((decide (((gx l1 (W (s4_.2 - 2))).X) = ((gx l1 (W (s4_.2 - 1))).X))) = (decide (((gx l1 (W (s4_.2 - 1))).X) = ((gx l1 s4_.2).X)))) then (
    bnd (W (s4_.1 + 1)) fun n1 =>
    some n1)
   else (
    some s4_.1)) fun j_6 =>
  bnd (W (s4_.2 + 1)) fun i1 =>
  some (Step.again (j_6, i1)))
 else (
  some (Step.done s4_.1))

/-- geom.Bends -/
noncomputable def geom_Bends (l1 : (List Point)) : Option (Int × Int) :=
 Option.bind (geom_CheckPath l1) fun e1 =>
 bif !decide (e1 = 0) then (
  some (0, e1))
 else (
  Option.bind (α := Int) (
   loop (geom_Bends_L1 l1) (0, 2)) fun j_3 =>
  some (j_3, 0))

/-- drawtop.TopNoBetterWay -/
noncomputable def top_TopNoBetterWay (t1 : Task) (other1 : (List Point)) : Option Bool :=
 Option.bind (route_Route t1) fun r1 =>
 Option.bind (route_Right t1 other1) fun r2 =>
 Option.bind (route_Check t1) fun r3 =>
 bif !decide (r3 = 0) then (
  some ((!decide (r1.2 = 0)) && (decide ((r1.1.length : Int) = 0))))
 else (
  bif !decide (r1.2 = 0) then (
   some ((decide (r1.2 = 10)) && (!r2.1)))
  else (
   Option.bind (route_Right t1 r1.1) fun r4 =>
   Option.bind (geom_Length r1.1) fun r5 =>
   Option.bind (geom_Bends r1.1) fun r6 =>
   bif (((!r4.1) || (!decide (r4.2 = 0))) || (!decide (r5.2 = 0))) || (!decide (r6.2 = 0)) then (
    some false)
   else (
    bindR (σ := Unit) (ρ := Bool) (
     bif r2.1 && (decide (r2.2 = 0)) then (
      Option.bind (geom_Length other1) fun r7 =>
      Option.bind (geom_Bends other1) fun r8 =>
      bif (((!decide (r7.2 = 0)) || (!decide (r8.2 = 0))) || (decide (r8.1 < r6.1))) || ((decide (r8.1 = r6.1)) && (decide (r7.1 < r5.1))) then (
       some (Res.ab false))
      else (
       some (Res.nx ())))
     else (
      some (Res.nx ()))) fun j_10 =>
    Option.bind (route_Route ({ { { { t1 with From := t1.To } with FromSide := t1.ToSide } with To := t1.From } with ToSide := t1.FromSide })) fun r9 =>
    Option.bind (geom_Length r9.1) fun r10 =>
    Option.bind (geom_Bends r9.1) fun r11 =>
    some (((((decide (r9.2 = 0)) && (decide (r10.2 = 0))) && (decide (r11.2 = 0))) && (decide (r10.1 = r5.1))) && (decide (r11.1 = r6.1))))))


end Go.DB
