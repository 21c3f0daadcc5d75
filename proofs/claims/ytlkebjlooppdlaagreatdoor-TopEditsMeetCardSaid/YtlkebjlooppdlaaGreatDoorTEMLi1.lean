/-
  What the functions compute, as plain functions (printed by a program of one's own).
-/
import Derived.Test.YtlkebjlooppdlaaGreatDoorTEMTy
set_option maxRecDepth 100000
set_option linter.unusedSimpArgs false
set_option linter.unusedVariables false
namespace Go.DB
open Go Go.RowKit

/-- unicode/utf8.ValidString -/
noncomputable def utf8_ValidString (s : Str) : Option Bool := some (validS s)

/-- strings.Trim -/
noncomputable def strings_Trim (s cs : Str) : Option Str := need ((cs.b.length : Int) < 4294967281 ∧ cs.b.all (fun b => decide (b.toNat < 128)) = true) (some (trimS s cs))

/-- strings.Compare -/
noncomputable def strings_Compare (s sep : Str) : Option Int := some (compareS s sep)

/-- slices.Insert[[]drawboard/api.Op,drawboard/api.Op] -/
noncomputable def slices_Insert_Op (l : List DOp) (i : Int) (v : List DOp) : Option (List DOp) := need (0 ≤ i ∧ i ≤ l.length ∧ (l.length : Int) + v.length ≤ 1073741824) (some (l.take i.toNat ++ v ++ l.drop i.toNat))

/-- slices.Grow[[]drawboard/api.Op,drawboard/api.Op] (of nil) -/
noncomputable def slices_Grow_Op (n : Int) : Option (List DOp) := need (0 ≤ n ∧ n ≤ 1073741824) (some [])

/-- edit.isName -/
noncomputable def edit_isName (s1 : Str) : Option Bool :=
 need (((!decide (s1 = Str.nil)) && (decide ((s1.b.length : Int) ≤ 40))) = true → inR s1.b 0) <|
 need ((((!decide (s1 = Str.nil)) && (decide ((s1.b.length : Int) ≤ 40))) && (decide ((⟨97⟩ : KI .u8).n ≤ (⟨((gx s1.b 0).toNat : Int)⟩ : KI .u8).n))) = true → inR s1.b 0) <|
 Option.bind (gd (((((!decide (s1 = Str.nil)) && (decide ((s1.b.length : Int) ≤ 40))) && (decide ((⟨97⟩ : KI .u8).n ≤ (⟨((gx s1.b 0).toNat : Int)⟩ : KI .u8).n))) && (decide ((⟨((gx s1.b 0).toNat : Int)⟩ : KI .u8).n ≤ (⟨122⟩ : KI .u8).n)))) (strings_Trim s1 (⟨[97, 98, 99, 100, 101, 102, 103, 104, 105, 106, 107, 108, 109, 110, 111, 112, 113, 114, 115, 116, 117, 118, 119, 120, 121, 122, 48, 49, 50, 51, 52, 53, 54, 55, 56, 57, 45]⟩ : Str))) fun r1 =>
 some (((((!decide (s1 = Str.nil)) && (decide ((s1.b.length : Int) ≤ 40))) && (decide ((⟨97⟩ : KI .u8).n ≤ (⟨((gx s1.b 0).toNat : Int)⟩ : KI .u8).n))) && (decide ((⟨((gx s1.b 0).toNat : Int)⟩ : KI .u8).n ≤ (⟨122⟩ : KI .u8).n))) && (decide (r1 = Str.nil)))

/-- cmp.isNaN[int] -/
noncomputable def cmp_isNaN_int (x1 : Int) : Option Bool :=
 some (!decide (x1 = x1))

/-- cmp.Compare[int] -/
noncomputable def cmp_Compare_int (x1 : Int) (y1 : Int) : Option Int :=
 Option.bind (cmp_isNaN_int x1) fun xNaN1 =>
 Option.bind (cmp_isNaN_int y1) fun yNaN1 =>
 bif xNaN1 then (
  bif yNaN1 then (
   some 0)
  else (
   some (-1)))
 else (
  bif yNaN1 then (
   some 1)
  else (
   bif decide (x1 < y1) then (
    some (-1))
   else (
    bif decide (y1 < x1) then (
     some 1)
    else (
     some 0))))

noncomputable def cmp_Or_int_L1 (vals1 : (List Int)) (i : Int) (s : Unit) : Option (Res Unit (Res Unit Int)) :=
 need (inR vals1 i) <|
 bnd (gx vals1 i) fun val1 =>
 bif !decide (val1 = 0) then (
  some (Res.ab (Res.ab val1)))
 else (
  some (Res.nx ()))

/-- cmp.Or[int] -/
noncomputable def cmp_Or_int (vals1 : (List Int)) : Option Int :=
 bindR (σ := Unit) (ρ := Int) (
  rforE (vals1.length : Int) (cmp_Or_int_L1 vals1) (fun s => Res.nx s) ()) fun j_1 =>
 some 0

/-- edit.order -/
noncomputable def edit_order (a1 : DOp) (b1 : DOp) : Option Int :=
 Option.bind (strings_Compare a1.Stamp.Site b1.Stamp.Site) fun r1 =>
 Option.bind (cmp_Compare_int a1.Stamp.No b1.Stamp.No) fun r2 =>
 Option.bind (cmp_Or_int [r1, r2]) fun r3 =>
 some r3

noncomputable def shape_CheckText_L1 (s1 : Str) (i : Int) (s : Unit) : Option (Res Unit (Res Unit Int)) :=
 need (inR s1.b i) <|
 need ((decide ((⟨((gx s1.b i).toNat : Int)⟩ : KI .u8).n < (⟨32⟩ : KI .u8).n)) = true → inR s1.b i) <|
 need (((decide ((⟨((gx s1.b i).toNat : Int)⟩ : KI .u8).n < (⟨32⟩ : KI .u8).n)) && (!decide ((⟨((gx s1.b i).toNat : Int)⟩ : KI .u8).n = (⟨10⟩ : KI .u8).n))) = false → inR s1.b i) <|
 bif ((decide ((⟨((gx s1.b i).toNat : Int)⟩ : KI .u8).n < (⟨32⟩ : KI .u8).n)) && (!decide ((⟨((gx s1.b i).toNat : Int)⟩ : KI .u8).n = (⟨10⟩ : KI .u8).n))) || (decide ((⟨((gx s1.b i).toNat : Int)⟩ : KI .u8).n = (⟨127⟩ : KI .u8).n)) then (
  some (Res.ab (Res.ab 2)))
 else (
  some (Res.nx ()))

/-- shape.CheckText -/
noncomputable def shape_CheckText (s1 : Str) : Option Int :=
 bif decide (1000 < (s1.b.length : Int)) then (
  some 4)
 else (
  Option.bind (utf8_ValidString s1) fun r1 =>
  bif !r1 then (
   some 2)
  else (
   bindR (σ := Unit) (ρ := Int) (
    rforE (s1.b.length : Int) (shape_CheckText_L1 s1) (fun s => Res.nx s) ()) fun j_4 =>
   some 0))

/-- edit.checkBody -/
noncomputable def edit_checkBody (x1 : DOp) : Option Int :=
 bif (decide (x1.Kind < 1)) || (decide (3 < x1.Kind)) then (
  some 1)
 else (
  bnd (decide (x1.Kind = 1)) fun set1 =>
  bnd (decide (x1.Kind = 3)) fun undo1 =>
  bnd ((!decide (x1.Of = 0)) && (!undo1)) fun v1 =>
  Option.bind (α := Bool) (
   bif v1 then (
    some v1)
   else (
    bnd ((!decide (x1.Id = Str.nil)) && undo1) fun v2 =>
    bif v2 then (
     some v2)
    else (
     bnd (((!decide (x1.Field = Str.nil)) || (!decide (x1.Value = Str.nil))) && (!set1)) fun v3 =>
     some v3))) fun j_5 =>
  bif j_5 then (
   some 2)
  else (
   Option.bind (gd ((!undo1)) (edit_isName x1.Id)) fun r1 =>
   bnd ((!undo1) && (!r1)) fun v4 =>
   Option.bind (α := Bool) (
    bif v4 then (
     some v4)
    else (
     Option.bind (gd (set1) (edit_isName x1.Field)) fun r2 =>
     bnd (set1 && (!r2)) fun v5 =>
     some v5)) fun j_13 =>
   bif j_13 then (
    some 5)
   else (
    bindR (σ := Unit) (ρ := Int) (
     bif set1 then (
      Option.bind (shape_CheckText x1.Value) fun e1 =>
      bif !decide (e1 = 0) then (
       some (Res.ab e1))
      else (
       some (Res.nx ())))
     else (
      some (Res.nx ()))) fun j_18 =>
    bif undo1 && ((decide (x1.Of < 1)) || (decide ((W (x1.Stamp.No - 1)) < x1.Of))) then (
     some 10)
    else (
     some 0))))

noncomputable def edit_Check_L1 (l1 : (List DOp)) (i : Int) (s : Unit) : Option (Res Unit (Res Unit Int)) :=
 need (inR l1 i) <|
 bnd (gx l1 i) fun v1 =>
 bnd ((⟨(⟨(0 : Int), Str.nil, (0 : Int)⟩ : Stamp), (0 : Int), Str.nil, Str.nil, Str.nil, (0 : Int)⟩ : DOp)) fun v2 =>
 need ((decide (0 < i)) = true → inR l1 (W (i - 1))) <|
 Option.bind (α := DOp) (
  bif (decide (0 < i)) && (decide ((((gx l1 (W (i - 1))).Stamp).Site) = v1.Stamp.Site)) then (
   need (inR l1 (W (i - 1))) <|
   bnd (gx l1 (W (i - 1))) fun v3 =>
   some v3)
  else (
   some v2)) fun j_10 =>
 Option.bind (edit_isName v1.Stamp.Site) fun r1 =>
 bif !r1 then (
  some (Res.ab (Res.ab 5)))
 else (
  need ((decide (0 < i)) = true → inR l1 (W (i - 1))) <|
  Option.bind (gd ((decide (0 < i))) (edit_order (gx l1 (W (i - 1))) v1)) fun r2 =>
  bif (decide (0 < i)) && (decide (0 ≤ r2)) then (
   some (Res.ab (Res.ab 7)))
  else (
   bnd (!decide (v1.Stamp.No = (W (j_10.Stamp.No + 1)))) fun v4 =>
   Option.bind (α := Bool) (
    bif v4 then (
     some v4)
    else (
     bnd ((decide (v1.Stamp.Time < 1)) || (decide (1000000000 < v1.Stamp.Time))) fun v5 =>
     some v5)) fun j_20 =>
   bif j_20 then (
    some (Res.ab (Res.ab 3)))
   else (
    bif decide (v1.Stamp.Time ≤ j_10.Stamp.Time) then (
     some (Res.ab (Res.ab 7)))
    else (
     Option.bind (edit_checkBody v1) fun e1 =>
     bif !decide (e1 = 0) then (
      some (Res.ab (Res.ab e1)))
     else (
      some (Res.nx ()))))))

/-- edit.Check -/
noncomputable def edit_Check (l1 : (List DOp)) : Option Int :=
 bif decide (2000 < (l1.length : Int)) then (
  some 4)
 else (
  bindR (σ := Unit) (ρ := Int) (
   rforE (l1.length : Int) (edit_Check_L1 l1) (fun s => Res.nx s) ()) fun j_2 =>
  some 0)

noncomputable def slices_Concat_Op_L1 (slices1 : (List (List DOp))) (i : Int) (s : Int) : Option Int :=
 need (inR slices1 i) <|
 bnd (W (s + ((gx slices1 i).length : Int))) fun size1 =>
 bif decide (size1 < 0) then (
  none)
 else (
  some size1)

noncomputable def slices_Concat_Op_L2 (slices1 : (List (List DOp))) (i : Int) (s : (List DOp)) : Option (List DOp) :=
 need (inR slices1 i) <|
 need (room (s.length + (gx slices1 i).length)) <|
 some (s ++ (gx slices1 i))

/-- slices.Concat[[]api.Op,api.Op] -/
noncomputable def slices_Concat_Op (slices1 : (List (List DOp))) : Option (List DOp) :=
 Option.bind (α := Int) (
  rfor (slices1.length : Int) (slices_Concat_Op_L1 slices1) 0) fun j_1 =>
 Option.bind (slices_Grow_Op j_1) fun newslice1 =>
 Option.bind (α := (List DOp)) (
  rfor (slices1.length : Int) (slices_Concat_Op_L2 slices1) newslice1) fun j_9 =>
 some j_9

noncomputable def slices_insertionSortCmpFunc_Op_L2 (a1 : Int) (cmp1 : (DOp → DOp → Option Int)) (s5_ : (Int × (List DOp))) : Option (Step (Int × (List DOp)) (List DOp)) :=
 need ((decide (a1 < s5_.1)) = true → inR s5_.2 s5_.1) <|
 need ((decide (a1 < s5_.1)) = true → inR s5_.2 (W (s5_.1 - 1))) <|
 Option.bind (gd ((decide (a1 < s5_.1))) (cmp1 (gx s5_.2 s5_.1) (gx s5_.2 (W (s5_.1 - 1))))) fun r1 =>
 bif (decide (a1 < s5_.1)) && (decide (r1 < 0)) then (
  need (inR s5_.2 (W (s5_.1 - 1))) <|
  bnd (gx s5_.2 (W (s5_.1 - 1))) fun v1 =>
  need (inR s5_.2 s5_.1) <|
  bnd (gx s5_.2 s5_.1) fun v2 =>
  need (inR s5_.2 s5_.1) <|
  need (inR (s5_.2.set s5_.1.toNat v1) (W (s5_.1 - 1))) <|
  bnd ((s5_.2.set s5_.1.toNat v1).set (W (s5_.1 - 1)).toNat v2) fun data2 =>
  bnd (W (s5_.1 - 1)) fun j1 =>
  some (Step.again (j1, data2)))
 else (
  some (Step.done s5_.2))

noncomputable def slices_insertionSortCmpFunc_Op_L1 (a1 : Int) (b1 : Int) (cmp1 : (DOp → DOp → Option Int)) (s2_ : (Int × (List DOp))) : Option (Step (Int × (List DOp)) (List DOp)) :=
 bif decide (s2_.1 < b1) then (
  Option.bind (α := (List DOp)) (
   loop (slices_insertionSortCmpFunc_Op_L2 a1 cmp1) (s2_.1, s2_.2)) fun j_4 =>
  bnd (W (s2_.1 + 1)) fun i2 =>
  some (Step.again (i2, j_4)))
 else (
  some (Step.done s2_.2))

/-- slices.insertionSortCmpFunc[api.Op] -/
noncomputable def slices_insertionSortCmpFunc_Op (data1 : (List DOp)) (a1 : Int) (b1 : Int) (cmp1 : (DOp → DOp → Option Int)) : Option (List DOp) :=
 bnd (W (a1 + 1)) fun i1 =>
 loop (slices_insertionSortCmpFunc_Op_L1 a1 b1 cmp1) (i1, data1)

noncomputable def slices_swapRangeCmpFunc_Op_L1 (a1 : Int) (b1 : Int) (n1 : Int) (s1_ : (Int × (List DOp))) : Option (Step (Int × (List DOp)) (List DOp)) :=
 bif decide (s1_.1 < n1) then (
  need (inR s1_.2 (W (b1 + s1_.1))) <|
  bnd (gx s1_.2 (W (b1 + s1_.1))) fun v1 =>
  need (inR s1_.2 (W (a1 + s1_.1))) <|
  bnd (gx s1_.2 (W (a1 + s1_.1))) fun v2 =>
  need (inR s1_.2 (W (a1 + s1_.1))) <|
  need (inR (s1_.2.set (W (a1 + s1_.1)).toNat v1) (W (b1 + s1_.1))) <|
  bnd ((s1_.2.set (W (a1 + s1_.1)).toNat v1).set (W (b1 + s1_.1)).toNat v2) fun data2 =>
  bnd (W (s1_.1 + 1)) fun i1 =>
  some (Step.again (i1, data2)))
 else (
  some (Step.done s1_.2))

/-- slices.swapRangeCmpFunc[api.Op] -/
noncomputable def slices_swapRangeCmpFunc_Op (data1 : (List DOp)) (a1 : Int) (b1 : Int) (n1 : Int) (cmp1 : (DOp → DOp → Option Int)) : Option (List DOp) :=
 loop (slices_swapRangeCmpFunc_Op_L1 a1 b1 n1) (0, data1)

noncomputable def slices_rotateCmpFunc_Op_L1 (m1 : Int) (cmp1 : (DOp → DOp → Option Int)) (s4_ : (Int × Int × (List DOp))) : Option (Step (Int × Int × (List DOp)) (Int × (List DOp))) :=
 bif !decide (s4_.1 = s4_.2.1) then (
  bif decide (s4_.2.1 < s4_.1) then (
   Option.bind (slices_swapRangeCmpFunc_Op s4_.2.2 (W (m1 - s4_.1)) m1 s4_.2.1 cmp1) fun r1 =>
   bnd (W (s4_.1 - s4_.2.1)) fun i2 =>
   some (Step.again (i2, s4_.2.1, r1)))
  else (
   Option.bind (slices_swapRangeCmpFunc_Op s4_.2.2 (W (m1 - s4_.1)) (W ((W (m1 + s4_.2.1)) - s4_.1)) s4_.1 cmp1) fun r2 =>
   bnd (W (s4_.2.1 - s4_.1)) fun j2 =>
   some (Step.again (s4_.1, j2, r2))))
 else (
  some (Step.done (s4_.1, s4_.2.2)))

/-- slices.rotateCmpFunc[api.Op] -/
noncomputable def slices_rotateCmpFunc_Op (data1 : (List DOp)) (a1 : Int) (m1 : Int) (b1 : Int) (cmp1 : (DOp → DOp → Option Int)) : Option (List DOp) :=
 bnd (W (m1 - a1)) fun i1 =>
 bnd (W (b1 - m1)) fun j1 =>
 Option.bind (α := (Int × (List DOp))) (
  loop (slices_rotateCmpFunc_Op_L1 m1 cmp1) (i1, j1, data1)) fun j_3 =>
 Option.bind (slices_swapRangeCmpFunc_Op j_3.2 (W (m1 - j_3.1)) m1 j_3.1 cmp1) fun r3 =>
 some r3

noncomputable def slices_symMergeCmpFunc_Op_L1 (x : ((List DOp) × Int × Int × Int × (DOp → DOp → Option Int))) (s4_ : (Int × Int)) : Option (Step (Int × Int) Int) :=
 bif decide (s4_.1 < s4_.2) then (
  bnd (W ((KI.of .u64 (W (s4_.1 + s4_.2))).shr 1).n) fun h1 =>
  need (inR x.1 h1) <|
  need (inR x.1 x.2.1) <|
  Option.bind (x.2.2.2.2 (gx x.1 h1) (gx x.1 x.2.1)) fun r1 =>
  bif decide (r1 < 0) then (
   bnd (W (h1 + 1)) fun i1 =>
   some (Step.again (i1, s4_.2)))
  else (
   some (Step.again (s4_.1, h1))))
 else (
  some (Step.done s4_.1))

noncomputable def slices_symMergeCmpFunc_Op_L2 (j_3 : Int) (s13_ : (Int × (List DOp))) : Option (Step (Int × (List DOp)) (List DOp)) :=
 bif decide (s13_.1 < (W (j_3 - 1))) then (
  need (inR s13_.2 (W (s13_.1 + 1))) <|
  bnd (gx s13_.2 (W (s13_.1 + 1))) fun v1 =>
  need (inR s13_.2 s13_.1) <|
  bnd (gx s13_.2 s13_.1) fun v2 =>
  need (inR s13_.2 s13_.1) <|
  need (inR (s13_.2.set s13_.1.toNat v1) (W (s13_.1 + 1))) <|
  bnd ((s13_.2.set s13_.1.toNat v1).set (W (s13_.1 + 1)).toNat v2) fun data2 =>
  bnd (W (s13_.1 + 1)) fun k1 =>
  some (Step.again (k1, data2)))
 else (
  some (Step.done s13_.2))

noncomputable def slices_symMergeCmpFunc_Op_L3 (x : ((List DOp) × Int × Int × Int × (DOp → DOp → Option Int))) (s26_ : (Int × Int)) : Option (Step (Int × Int) Int) :=
 bif decide (s26_.1 < s26_.2) then (
  bnd (W ((KI.of .u64 (W (s26_.1 + s26_.2))).shr 1).n) fun h2 =>
  need (inR x.1 x.2.2.1) <|
  need (inR x.1 h2) <|
  Option.bind (x.2.2.2.2 (gx x.1 x.2.2.1) (gx x.1 h2)) fun r2 =>
  bif !(decide (r2 < 0)) then (
   bnd (W (h2 + 1)) fun i2 =>
   some (Step.again (i2, s26_.2)))
  else (
   some (Step.again (s26_.1, h2))))
 else (
  some (Step.done s26_.1))

noncomputable def slices_symMergeCmpFunc_Op_L4 (j_25 : Int) (s35_ : (Int × (List DOp))) : Option (Step (Int × (List DOp)) (List DOp)) :=
 bif decide (j_25 < s35_.1) then (
  need (inR s35_.2 (W (s35_.1 - 1))) <|
  bnd (gx s35_.2 (W (s35_.1 - 1))) fun v3 =>
  need (inR s35_.2 s35_.1) <|
  bnd (gx s35_.2 s35_.1) fun v4 =>
  need (inR s35_.2 s35_.1) <|
  need (inR (s35_.2.set s35_.1.toNat v3) (W (s35_.1 - 1))) <|
  bnd ((s35_.2.set s35_.1.toNat v3).set (W (s35_.1 - 1)).toNat v4) fun data3 =>
  bnd (W (s35_.1 - 1)) fun k2 =>
  some (Step.again (k2, data3)))
 else (
  some (Step.done s35_.2))

noncomputable def slices_symMergeCmpFunc_Op_L5 (x : ((List DOp) × Int × Int × Int × (DOp → DOp → Option Int))) (n1 : Int) (s51_ : (Int × Int)) : Option (Step (Int × Int) Int) :=
 bif decide (s51_.1 < s51_.2) then (
  bnd (W ((KI.of .u64 (W (s51_.1 + s51_.2))).shr 1).n) fun c1 =>
  need (inR x.1 (W ((W (n1 - 1)) - c1))) <|
  need (inR x.1 c1) <|
  Option.bind (x.2.2.2.2 (gx x.1 (W ((W (n1 - 1)) - c1))) (gx x.1 c1)) fun r3 =>
  bif !(decide (r3 < 0)) then (
   bnd (W (c1 + 1)) fun start2 =>
   some (Step.again (start2, s51_.2)))
  else (
   some (Step.again (s51_.1, c1))))
 else (
  some (Step.done s51_.1))

/-- slices.symMergeCmpFunc[api.Op] -/
noncomputable def slices_symMergeCmpFunc_Op_body (self : ((List DOp) × Int × Int × Int × (DOp → DOp → Option Int)) → Option (List DOp)) (x : ((List DOp) × Int × Int × Int × (DOp → DOp → Option Int))) : Option (List DOp) :=
 bindR (σ := Unit) (ρ := (List DOp)) (
  bif decide ((W (x.2.2.1 - x.2.1)) = 1) then (
   Option.bind (α := Int) (
    loop (slices_symMergeCmpFunc_Op_L1 x) (x.2.2.1, x.2.2.2.1)) fun j_3 =>
   Option.bind (α := (List DOp)) (
    loop (slices_symMergeCmpFunc_Op_L2 j_3) (x.2.1, x.1)) fun j_12 =>
   some (Res.ab j_12))
  else (
   some (Res.nx ()))) fun j_1 =>
 bindR (σ := Unit) (ρ := (List DOp)) (
  bif decide ((W (x.2.2.2.1 - x.2.2.1)) = 1) then (
   Option.bind (α := Int) (
    loop (slices_symMergeCmpFunc_Op_L3 x) (x.2.1, x.2.2.1)) fun j_25 =>
   Option.bind (α := (List DOp)) (
    loop (slices_symMergeCmpFunc_Op_L4 j_25) (x.2.2.1, x.1)) fun j_34 =>
   some (Res.ab j_34))
  else (
   some (Res.nx ()))) fun j_23 =>
 bnd (W ((KI.of .u64 (W (x.2.1 + x.2.2.2.1))).shr 1).n) fun mid1 =>
 bnd (W (mid1 + x.2.2.1)) fun n1 =>
 Option.bind (α := (Int × Int)) (
  bif decide (mid1 < x.2.2.1) then (
   bnd (W (n1 - x.2.2.2.1)) fun start1 =>
   some (start1, mid1))
  else (
   some (x.2.1, x.2.2.1))) fun j_47 =>
 Option.bind (α := Int) (
  loop (slices_symMergeCmpFunc_Op_L5 x n1) (j_47.1, j_47.2)) fun j_50 =>
 bnd (W (n1 - j_50)) fun end1 =>
 Option.bind (α := (List DOp)) (
  bif (decide (j_50 < x.2.2.1)) && (decide (x.2.2.1 < end1)) then (
   Option.bind (slices_rotateCmpFunc_Op x.1 j_50 x.2.2.1 end1 x.2.2.2.2) fun r4 =>
   some r4)
  else (
   some x.1)) fun j_60 =>
 Option.bind (α := (List DOp)) (
  bif (decide (x.2.1 < j_50)) && (decide (j_50 < mid1)) then (
   Option.bind (self (j_60, x.2.1, j_50, mid1, x.2.2.2.2)) fun r5 =>
   some r5)
  else (
   some j_60)) fun j_63 =>
 bif (decide (mid1 < end1)) && (decide (end1 < x.2.2.2.1)) then (
  Option.bind (self (j_63, mid1, end1, x.2.2.2.1, x.2.2.2.2)) fun r6 =>
  some r6)
 else (
  some j_63)

noncomputable def slices_symMergeCmpFunc_Op (data1 : (List DOp)) (a1 : Int) (m1 : Int) (b1 : Int) (cmp1 : (DOp → DOp → Option Int)) : Option (List DOp) := fixp slices_symMergeCmpFunc_Op_body (data1, a1, m1, b1, cmp1)

noncomputable def slices_stableCmpFunc_Op_L1 (n1 : Int) (cmp1 : (DOp → DOp → Option Int)) (s2_ : (Int × Int × (List DOp))) : Option (Step (Int × Int × (List DOp)) (Int × (List DOp))) :=
 bif decide (s2_.2.1 ≤ n1) then (
  Option.bind (slices_insertionSortCmpFunc_Op s2_.2.2 s2_.1 s2_.2.1 cmp1) fun r1 =>
  bnd (W (s2_.2.1 + 20)) fun b1 =>
  some (Step.again (s2_.2.1, b1, r1)))
 else (
  some (Step.done (s2_.1, s2_.2.2)))

noncomputable def slices_stableCmpFunc_Op_L3 (n1 : Int) (s7_ : (Int × (List DOp))) (cmp1 : (DOp → DOp → Option Int)) (s11_ : (Int × Int × (List DOp))) : Option (Step (Int × Int × (List DOp)) (Int × (List DOp))) :=
 bif decide (s11_.2.1 ≤ n1) then (
  Option.bind (slices_symMergeCmpFunc_Op s11_.2.2 s11_.1 (W (s11_.1 + s7_.1)) s11_.2.1 cmp1) fun r3 =>
  bnd (W (s11_.2.1 + (W (2 * s7_.1)))) fun b3 =>
  some (Step.again (s11_.2.1, b3, r3)))
 else (
  some (Step.done (s11_.1, s11_.2.2)))

noncomputable def slices_stableCmpFunc_Op_L2 (n1 : Int) (cmp1 : (DOp → DOp → Option Int)) (s7_ : (Int × (List DOp))) : Option (Step (Int × (List DOp)) (List DOp)) :=
 bif decide (s7_.1 < n1) then (
  bnd (W (2 * s7_.1)) fun b2 =>
  Option.bind (α := (Int × (List DOp))) (
   loop (slices_stableCmpFunc_Op_L3 n1 s7_ cmp1) (0, b2, s7_.2)) fun j_10 =>
  bnd (W (j_10.1 + s7_.1)) fun m1 =>
  Option.bind (α := (List DOp)) (
   bif decide (m1 < n1) then (
    Option.bind (slices_symMergeCmpFunc_Op j_10.2 j_10.1 m1 n1 cmp1) fun r4 =>
    some r4)
   else (
    some j_10.2)) fun j_16 =>
  bnd (W (s7_.1 * 2)) fun blockSize1 =>
  some (Step.again (blockSize1, j_16)))
 else (
  some (Step.done s7_.2))

/-- slices.stableCmpFunc[api.Op] -/
noncomputable def slices_stableCmpFunc_Op (data1 : (List DOp)) (n1 : Int) (cmp1 : (DOp → DOp → Option Int)) : Option (List DOp) :=
 Option.bind (α := (Int × (List DOp))) (
  loop (slices_stableCmpFunc_Op_L1 n1 cmp1) (0, 20, data1)) fun j_1 =>
 Option.bind (slices_insertionSortCmpFunc_Op j_1.2 j_1.1 n1 cmp1) fun r2 =>
 loop (slices_stableCmpFunc_Op_L2 n1 cmp1) (20, r2)

/-- slices.SortStableFunc[[]api.Op,api.Op] -/
noncomputable def slices_SortStableFunc_Op (x1 : (List DOp)) (cmp1 : (DOp → DOp → Option Int)) : Option (List DOp) :=
 Option.bind (slices_stableCmpFunc_Op x1 (x1.length : Int) cmp1) fun r1 =>
 some r1

noncomputable def slices_Compact_Op_L2 (s1 : (List DOp)) (s3_ : Int) (s11_ : (Int × Int × (List DOp))) : Option (Step (Int × Int × (List DOp)) (Int × (List DOp))) :=
 need (segR s11_.2.2.length s3_ (s1.length : Int)) <|
 bif decide (s11_.2.1 < ((s1.length : Int) - s3_)) then (
  Option.bind (α := (Int × (List DOp))) (
   need (segR s11_.2.2.length s3_ (s1.length : Int)) <|
   need (0 ≤ s11_.2.1 ∧ s11_.2.1 < (s1.length : Int) - s3_) <|
   need (inR s11_.2.2 (s3_ + s11_.2.1)) <|
   need (segR s11_.2.2.length s3_ (s1.length : Int)) <|
   need (0 ≤ (W (s11_.2.1 - 1)) ∧ (W (s11_.2.1 - 1)) < (s1.length : Int) - s3_) <|
   need (inR s11_.2.2 (s3_ + (W (s11_.2.1 - 1)))) <|
   bif !decide ((gx s11_.2.2 (s3_ + s11_.2.1)) = (gx s11_.2.2 (s3_ + (W (s11_.2.1 - 1))))) then (
    need (segR s11_.2.2.length s3_ (s1.length : Int)) <|
    need (0 ≤ s11_.2.1 ∧ s11_.2.1 < (s1.length : Int) - s3_) <|
    need (inR s11_.2.2 (s3_ + s11_.2.1)) <|
    bnd (gx s11_.2.2 (s3_ + s11_.2.1)) fun v1 =>
    need (inR s11_.2.2 s11_.1) <|
    bnd (s11_.2.2.set s11_.1.toNat v1) fun s2 =>
    bnd (W (s11_.1 + 1)) fun k1 =>
    some (k1, s2))
   else (
    some (s11_.1, s11_.2.2))) fun j_14 =>
  bnd (W (s11_.2.1 + 1)) fun k2_1 =>
  some (Step.again (j_14.1, k2_1, j_14.2)))
 else (
  some (Step.done (s11_.1, s11_.2.2)))

noncomputable def slices_Compact_Op_L1 (s1 : (List DOp)) (s3_ : Int) : Option (Step Int (Res Unit (List DOp))) :=
 bif decide (s3_ < (s1.length : Int)) then (
  bindR (σ := Unit) (ρ := (Step Int (Res Unit (List DOp)))) (
   need (inR s1 s3_) <|
   need (inR s1 (W (s3_ - 1))) <|
   bif decide ((gx s1 s3_) = (gx s1 (W (s3_ - 1)))) then (
    need (segR s1.length s3_ (s1.length : Int)) <|
    Option.bind (α := (Int × (List DOp))) (
     loop (slices_Compact_Op_L2 s1 s3_) (s3_, 1, s1)) fun j_10 =>
    need (segR j_10.2.length j_10.1 (j_10.2.length : Int)) <|
    bnd (j_10.2.take j_10.1.toNat ++ List.replicate (j_10.2.length - j_10.1.toNat) (⟨(⟨(0 : Int), Str.nil, (0 : Int)⟩ : Stamp), (0 : Int), Str.nil, Str.nil, Str.nil, (0 : Int)⟩ : DOp)) fun s3 =>
    need (segR s3.length 0 j_10.1) <|
    bnd (seg s3 0 j_10.1) fun v2 =>
    some (Res.ab (Step.done (Res.ab v2))))
   else (
    some (Res.nx ()))) fun j_5 =>
  bnd (W (s3_ + 1)) fun k2 =>
  some (Step.again k2))
 else (
  some (Step.done (Res.nx ())))

/-- slices.Compact[[]api.Op,api.Op] -/
noncomputable def slices_Compact_Op (s1 : (List DOp)) : Option (List DOp) :=
 bif decide ((s1.length : Int) < 2) then (
  some s1)
 else (
  bindR (σ := Unit) (ρ := (List DOp)) (
   loop (slices_Compact_Op_L1 s1) 1) fun j_2 =>
  some s1)

noncomputable def edit_Merge_L1 (r1 : (List DOp)) (s7_ : Int) : Option (Step Int (Res Unit ((List DOp) × Int))) :=
 bif decide (s7_ < (r1.length : Int)) then (
  need (inR r1 (W (s7_ - 1))) <|
  need (inR r1 s7_) <|
  Option.bind (edit_order (gx r1 (W (s7_ - 1))) (gx r1 s7_)) fun r2 =>
  need ((decide (r2 = 0)) = true → inR r1 (W (s7_ - 1))) <|
  need ((decide (r2 = 0)) = true → inR r1 s7_) <|
  bif (decide (r2 = 0)) && (!decide ((gx r1 (W (s7_ - 1))) = (gx r1 s7_))) then (
   some (Step.done (Res.ab (([] : (List DOp)), 11))))
  else (
   bnd (W (s7_ + 1)) fun i1 =>
   some (Step.again i1)))
 else (
  some (Step.done (Res.nx ())))

/-- edit.Merge -/
noncomputable def edit_Merge (a1 : (List DOp)) (b1 : (List DOp)) : Option ((List DOp) × Int) :=
 Option.bind (edit_Check a1) fun e1 =>
 bif !decide (e1 = 0) then (
  some (([] : (List DOp)), e1))
 else (
  bif decide (2000 < (b1.length : Int)) then (
   some (([] : (List DOp)), 4))
  else (
   Option.bind (slices_Concat_Op [a1, b1]) fun all1 =>
   Option.bind (slices_SortStableFunc_Op all1 edit_order) fun r1 =>
   bindR (σ := Unit) (ρ := ((List DOp) × Int)) (
    loop (edit_Merge_L1 r1) 1) fun j_6 =>
   Option.bind (slices_Compact_Op r1) fun all2 =>
   Option.bind (edit_Check all2) fun e2 =>
   bif !decide (e2 = 0) then (
    some (([] : (List DOp)), e2))
   else (
    some (all2, 0))))

noncomputable def slices_Equal_Op_L1 (s1_1 : (List DOp)) (s2_1 : (List DOp)) (i : Int) (s : Unit) : Option (Res Unit (Res Unit Bool)) :=
 need (inR s1_1 i) <|
 need (inR s2_1 i) <|
 bif !decide ((gx s1_1 i) = (gx s2_1 i)) then (
  some (Res.ab (Res.ab false)))
 else (
  some (Res.nx ()))

/-- slices.Equal[[]api.Op,api.Op] -/
noncomputable def slices_Equal_Op (s1_1 : (List DOp)) (s2_1 : (List DOp)) : Option Bool :=
 bif !decide ((s1_1.length : Int) = (s2_1.length : Int)) then (
  some false)
 else (
  bindR (σ := Unit) (ρ := Bool) (
   rforE (s1_1.length : Int) (slices_Equal_Op_L1 s1_1 s2_1) (fun s => Res.nx s) ()) fun j_2 =>
  some true)

noncomputable def edit_Seen_L1 (l1 : (List DOp)) (i : Int) (s : (List Stamp)) : Option (List Stamp) :=
 need (inR l1 i) <|
 bnd (gx l1 i) fun v1 =>
 need ((decide ((W (i + 1)) = (l1.length : Int))) = false → inR l1 (W (i + 1))) <|
 bif (decide ((W (i + 1)) = (l1.length : Int))) || (!decide ((((gx l1 (W (i + 1))).Stamp).Site) = v1.Stamp.Site)) then (
  need (room (s.length + [v1.Stamp].length)) <|
  some (s ++ [v1.Stamp]))
 else (
  some s)

/-- edit.Seen -/
noncomputable def edit_Seen (l1 : (List DOp)) : Option ((List Stamp) × Int) :=
 Option.bind (edit_Check l1) fun e1 =>
 bif !decide (e1 = 0) then (
  some (([] : (List Stamp)), e1))
 else (
  Option.bind (α := (List Stamp)) (
   rfor (l1.length : Int) (edit_Seen_L1 l1) ([] : List Stamp)) fun j_3 =>
  some (j_3, 0))

noncomputable def edit_Since_L1 (seen1 : (List Stamp)) (i : Int) (s : (GMap Str Int)) : Option (Res (GMap Str Int) (Res (GMap Str Int) ((List DOp) × Int))) :=
 need (inR seen1 i) <|
 bnd (gx seen1 i) fun v1 =>
 Option.bind (edit_isName v1.Site) fun r1 =>
 bif !r1 then (
  some (Res.ab (Res.ab (([] : (List DOp)), 5))))
 else (
  need ((decide (0 < i)) = true → inR seen1 (W (i - 1))) <|
  bif (decide (0 < i)) && (Op.bytesLess v1.Site.b ((gx seen1 (W (i - 1))).Site).b || v1.Site.b == ((gx seen1 (W (i - 1))).Site).b) then (
   some (Res.ab (Res.ab (([] : (List DOp)), 7))))
  else (
   bif decide (v1.No < 0) then (
    some (Res.ab (Res.ab (([] : (List DOp)), 3))))
   else (
    some (Res.nx (s.set v1.Site v1.No)))))

noncomputable def edit_Since_L2 (l1 : (List DOp)) (j_4 : (GMap Str Int)) (i : Int) (s : (List DOp)) : Option (List DOp) :=
 need (inR l1 i) <|
 bnd (gx l1 i) fun v2 =>
 bif decide ((j_4.getD v2.Stamp.Site (0 : Int)) < v2.Stamp.No) then (
  need (room (s.length + [v2].length)) <|
  some (s ++ [v2]))
 else (
  some s)

/-- edit.Since -/
noncomputable def edit_Since (l1 : (List DOp)) (seen1 : (List Stamp)) : Option ((List DOp) × Int) :=
 Option.bind (edit_Check l1) fun e1 =>
 bif !decide (e1 = 0) then (
  some (([] : (List DOp)), e1))
 else (
  bnd ((GMap.nil : (GMap Str Int))) fun last1 =>
  bindR (σ := (GMap Str Int)) (ρ := ((List DOp) × Int)) (
   rforE (seen1.length : Int) (edit_Since_L1 seen1) (fun s => Res.nx s) last1) fun j_4 =>
  Option.bind (α := (List DOp)) (
   rfor (l1.length : Int) (edit_Since_L2 l1 j_4) ([] : List DOp)) fun j_15 =>
  some (j_15, 0))

noncomputable def edit_Undo_1_L1 (l1 : (List DOp)) (c0_1 : Str) (counts1 : (List Bool)) (i : Int) (s : Int) : Option Int :=
 need (inR l1 i) <|
 bnd (gx l1 i) fun v1 =>
 need ((decide (v1.Stamp.Site = c0_1)) = true → inR counts1 i) <|
 bif ((decide (v1.Stamp.Site = c0_1)) && (gx counts1 i)) && (!decide (v1.Kind = 3)) then (
  some i)
 else (
  some s)

/-- edit.Undo$1 -/
noncomputable def edit_Undo_1 (l1 : (List DOp)) (counts1 : (List Bool)) (c0_1 : Str) : Option Int :=
 Option.bind (α := Int) (
  rfor (l1.length : Int) (edit_Undo_1_L1 l1 c0_1 counts1) (-1)) fun j_1 =>
 some j_1

noncomputable def slices_BinarySearchFunc_Op_L1 (x1 : (List DOp)) (cmp1 : (DOp → DOp → Option Int)) (target1 : DOp) (s3_ : (Int × Int)) : Option (Step (Int × Int) Int) :=
 bif decide (s3_.1 < s3_.2) then (
  bnd (W ((KI.of .u64 (W (s3_.1 + s3_.2))).shr 1).n) fun h1 =>
  need (inR x1 h1) <|
  Option.bind (cmp1 (gx x1 h1) target1) fun r1 =>
  bif decide (r1 < 0) then (
   bnd (W (h1 + 1)) fun i1 =>
   some (Step.again (i1, s3_.2)))
  else (
   some (Step.again (s3_.1, h1))))
 else (
  some (Step.done s3_.1))

/-- slices.BinarySearchFunc[[]api.Op,api.Op,api.Op] -/
noncomputable def slices_BinarySearchFunc_Op (x1 : (List DOp)) (target1 : DOp) (cmp1 : (DOp → DOp → Option Int)) : Option (Int × Bool) :=
 bnd ((x1.length : Int)) fun n1 =>
 Option.bind (α := Int) (
  loop (slices_BinarySearchFunc_Op_L1 x1 cmp1 target1) (0, n1)) fun j_2 =>
 need ((decide (j_2 < n1)) = true → inR x1 j_2) <|
 Option.bind (gd ((decide (j_2 < n1))) (cmp1 (gx x1 j_2) target1)) fun r2 =>
 some (j_2, (decide (j_2 < n1)) && (decide (r2 = 0)))

/-- slices.Clone[[]api.Op,api.Op] -/
noncomputable def slices_Clone_Op (s1 : (List DOp)) : Option (List DOp) :=
 nilc s1 (
  some ([] : List DOp)) (
  need (room (([] : (List DOp)).length + s1.length)) <|
  bnd (([] : (List DOp)) ++ s1) fun v1 =>
  some v1)

noncomputable def edit_further_L1 (l1 : (List DOp)) (i : Int) (s : DOp) : Option DOp :=
 need (inR l1 i) <|
 bnd (gx l1 i) fun v1 =>
 bnd (max s.Stamp.Time v1.Stamp.Time) fun v2 =>
 bnd ({ s with Stamp := { s.Stamp with Time := v2 } }) fun c2 =>
 bif decide (v1.Stamp.Site = c2.Stamp.Site) then (
  bnd (W (v1.Stamp.No + 1)) fun v3 =>
  some ({ c2 with Stamp := { c2.Stamp with No := v3 } }))
 else (
  some c2)

/-- edit.further -/
noncomputable def edit_further (l1 : (List DOp)) (x1 : DOp) : Option ((List DOp) × Int) :=
 bif decide (2000 ≤ (l1.length : Int)) then (
  some (([] : List DOp), 14))
 else (
  bnd ({ x1 with Stamp := { x1.Stamp with No := 1 } }) fun c1 =>
  Option.bind (α := DOp) (
   rfor (l1.length : Int) (edit_further_L1 l1) c1) fun j_3 =>
  bnd (W (j_3.Stamp.Time + 1)) fun v4 =>
  bif decide (1000000000 < ((({ j_3 with Stamp := { j_3.Stamp with Time := v4 } }).Stamp).Time)) then (
   some (([] : List DOp), 3))
  else (
   Option.bind (slices_BinarySearchFunc_Op l1 ({ j_3 with Stamp := { j_3.Stamp with Time := v4 } }) edit_order) fun r1 =>
   Option.bind (slices_Clone_Op l1) fun r2 =>
   Option.bind (slices_Insert_Op r2 r1.1 [{ j_3 with Stamp := { j_3.Stamp with Time := v4 } }]) fun r3 =>
   some (r3, 0)))

noncomputable def edit_counting_L1  (i : Int) (s : (List Bool)) : Option (List Bool) :=
 need (inR s i) <|
 some (s.set i.toNat true)

noncomputable def edit_counting_L2 (l1 : (List DOp)) (s11_ : (Int × (List Bool))) : Option (Step (Int × (List Bool)) (List Bool)) :=
 bif decide (0 ≤ s11_.1) then (
  Option.bind (α := (List Bool)) (
   need (inR l1 s11_.1) <|
   bnd (gx l1 s11_.1) fun v2 =>
   need ((decide (v2.Kind = 3)) = true → inR s11_.2 s11_.1) <|
   bif (decide (v2.Kind = 3)) && (gx s11_.2 s11_.1) then (
    need (inR s11_.2 (W ((W (s11_.1 - v2.Stamp.No)) + v2.Of))) <|
    some (s11_.2.set (W ((W (s11_.1 - v2.Stamp.No)) + v2.Of)).toNat false))
   else (
    some s11_.2)) fun j_13 =>
  bnd (W (s11_.1 - 1)) fun i2 =>
  some (Step.again (i2, j_13)))
 else (
  some (Step.done s11_.2))

/-- edit.counting -/
noncomputable def edit_counting (l1 : (List DOp)) : Option (List Bool) :=
 bnd ((l1.length : Int)) fun v1 =>
 need (0 ≤ v1 ∧ v1 ≤ v1 ∧ v1 ≤ 1073741824) <|
 bnd (List.replicate v1.toNat false) fun out1 =>
 Option.bind (α := (List Bool)) (
  rfor (out1.length : Int) edit_counting_L1 out1) fun j_4 =>
 bnd (W ((l1.length : Int) - 1)) fun i1 =>
 Option.bind (α := (List Bool)) (
  loop (edit_counting_L2 l1) (i1, j_4)) fun j_10 =>
 some j_10

/-- edit.undone$1 -/
noncomputable def edit_undone_1 (x1 : DOp) (c0_1 : Str) : Option Bool :=
 some (((decide (x1.Stamp.Site = c0_1)) && (decide (x1.Kind = 3))) && (decide (x1.Of = 0)))

noncomputable def slices_IndexFunc_Op_L1 (f1 : (DOp → Option Bool)) (s1 : (List DOp)) (i : Int) (s : Unit) : Option (Res Unit (Res Unit Int)) :=
 need (inR s1 i) <|
 Option.bind (f1 (gx s1 i)) fun r1 =>
 bif r1 then (
  some (Res.ab (Res.ab i)))
 else (
  some (Res.nx ()))

/-- slices.IndexFunc[[]api.Op,api.Op] -/
noncomputable def slices_IndexFunc_Op (s1 : (List DOp)) (f1 : (DOp → Option Bool)) : Option Int :=
 bindR (σ := Unit) (ρ := Int) (
  rforE (s1.length : Int) (slices_IndexFunc_Op_L1 f1 s1) (fun s => Res.nx s) ()) fun j_1 =>
 some (-1)

/-- edit.undone -/
noncomputable def edit_undone (l1 : (List DOp)) (site1 : Str) (find1 : ((List DOp) → (List Bool) → Option Int)) : Option ((List DOp) × Int) :=
 Option.bind (edit_Check l1) fun e1 =>
 bif !decide (e1 = 0) then (
  some (([] : (List DOp)), e1))
 else (
  Option.bind (edit_isName site1) fun r1 =>
  bif !r1 then (
   some (([] : (List DOp)), 5))
  else (
   Option.bind (edit_further l1 (⟨(⟨(0 : Int), site1, (0 : Int)⟩ : Stamp), 3, Str.nil, Str.nil, Str.nil, (0 : Int)⟩ : DOp)) fun r2 =>
   bif !decide (r2.2 = 0) then (
    some (([] : (List DOp)), r2.2))
   else (
    Option.bind (edit_counting l1) fun r3 =>
    Option.bind (find1 l1 r3) fun k1 =>
    bif decide (k1 < 0) then (
     some (([] : (List DOp)), 12))
    else (
     Option.bind (slices_IndexFunc_Op r2.1 (fun x0 => edit_undone_1 x0 site1)) fun at1 =>
     need (inR l1 k1) <|
     bnd (((gx l1 k1).Stamp).No) fun v1 =>
     need (inR r2.1 at1) <|
     some (r2.1.set at1.toNat { gx r2.1 at1 with Of := v1 }, 0)))))

/-- edit.Undo -/
noncomputable def edit_Undo (l1 : (List DOp)) (site1 : Str) : Option ((List DOp) × Int) :=
 Option.bind (edit_undone l1 site1 (fun x0 x1 => edit_Undo_1 x0 x1 site1)) fun r1 =>
 some (r1.1, r1.2)

noncomputable def edit_Redo_1_L1 (l1 : (List DOp)) (c0_1 : Str) (counts1 : (List Bool)) (i : Int) (s : Int) : Option Int :=
 need (inR l1 i) <|
 bnd (gx l1 i) fun v1 =>
 bif !decide (v1.Stamp.Site = c0_1) then (
  some s)
 else (
  bif !decide (v1.Kind = 3) then (
   some (-1))
  else (
   need (inR counts1 i) <|
   need ((gx counts1 i) = true → inR l1 (W ((W (i - v1.Stamp.No)) + v1.Of))) <|
   bif (gx counts1 i) && (!decide (((gx l1 (W ((W (i - v1.Stamp.No)) + v1.Of))).Kind) = 3)) then (
    some i)
   else (
    some s)))

/-- edit.Redo$1 -/
noncomputable def edit_Redo_1 (l1 : (List DOp)) (counts1 : (List Bool)) (c0_1 : Str) : Option Int :=
 Option.bind (α := Int) (
  rfor (l1.length : Int) (edit_Redo_1_L1 l1 c0_1 counts1) (-1)) fun j_1 =>
 some j_1

/-- edit.Redo -/
noncomputable def edit_Redo (l1 : (List DOp)) (site1 : Str) : Option ((List DOp) × Int) :=
 Option.bind (edit_undone l1 site1 (fun x0 x1 => edit_Redo_1 x0 x1 site1)) fun r1 =>
 some (r1.1, r1.2)

def sortQ_DOp (x : DOp) : Prop := True
instance : Inhabited { x : DOp // sortQ_DOp x } := ⟨⟨default, by unfold sortQ_DOp; decide⟩⟩
def sortC_DOp (x y : { x : DOp // sortQ_DOp x }) : Int := cmpL x.1.Stamp.Time x.1.Stamp.Site.b x.1.Stamp.No y.1.Stamp.Time y.1.Stamp.Site.b y.1.Stamp.No

/-- slices.SortFunc[[]drawboard/api.Op,drawboard/api.Op] -/
noncomputable def slices_SortFunc_Op (l : List DOp) : Option (List DOp) := need ((l.length : Int) < 4611686018427387904 ∧ ∀ x ∈ l, sortQ_DOp x) (some (sortF sortC_DOp l))

/-- (edit.things).do -/
noncomputable def edit_things_do (t1 : (GMap Str (GMap Str Str))) (x1 : DOp) : Option (GMap Str (GMap Str Str)) :=
 bif decide (x1.Kind = 2) then (
  bnd (t1.del x1.Id) fun c1 =>
  some c1)
 else (
  Option.bind (α := (GMap Str (GMap Str Str))) (
   bif !t1.has x1.Id then (
    some (t1.set x1.Id (GMap.nil : (GMap Str Str))))
   else (
    some t1)) fun j_3 =>
  need (j_3.has x1.Id = true) <|
  some (j_3.set x1.Id ((j_3.getD x1.Id GMap.nil).set x1.Field x1.Value)))

def sortQ_Attr (x : Attr) : Prop := True
instance : Inhabited { x : Attr // sortQ_Attr x } := ⟨⟨default, by unfold sortQ_Attr; decide⟩⟩
def sortC_Attr (x y : { x : Attr // sortQ_Attr x }) : Int := cmpB x.1.Field.b y.1.Field.b

/-- slices.SortFunc[[]drawboard/api.Attr,drawboard/api.Attr] -/
noncomputable def slices_SortFunc_Attr (l : List Attr) : Option (List Attr) := need ((l.length : Int) < 4611686018427387904 ∧ ∀ x ∈ l, sortQ_Attr x) (some (sortF sortC_Attr l))

/-- slices.SortFunc[[]drawboard/api.Thing,drawboard/api.Thing] -/
noncomputable def slices_SortFunc_Thing (l : List Thing) : Option (List Thing) := need ((l.length : Int) < 4611686018427387904 ∧ (l.map fun x => x.Id).Nodup) (some (usort (fun x => x.Id) l))

noncomputable def edit_things_listed_L2  (k : Str) (e : Str) (s : Thing) : Option Thing :=
 need (room (s.Attrs.length + [(⟨k, e⟩ : Attr)].length)) <|
 some ({ s with Attrs := s.Attrs ++ [(⟨k, e⟩ : Attr)] })

noncomputable def edit_things_listed_L1  (k : Str) (e : (GMap Str Str)) (s : (List Thing)) : Option (List Thing) :=
 mrangeK e edit_things_listed_L2 (⟨k, ([] : List Attr)⟩ : Thing) fun j_4 =>
 Option.bind (slices_SortFunc_Attr j_4.Attrs) fun r1 =>
 need (room (s.length + [{ j_4 with Attrs := r1 }].length)) <|
 some (s ++ [{ j_4 with Attrs := r1 }])

/-- (edit.things).listed -/
noncomputable def edit_things_listed (t1 : (GMap Str (GMap Str Str))) : Option (List Thing) :=
 mrangeK t1 edit_things_listed_L1 ([] : List Thing) fun j_1 =>
 Option.bind (slices_SortFunc_Thing j_1) fun r2 =>
 some r2

noncomputable def edit_State_L1 (l1 : (List DOp)) (r1 : (List Bool)) (i : Int) (s : (List DOp)) : Option (List DOp) :=
 need (inR r1 i) <|
 need ((gx r1 i) = true → inR l1 i) <|
 bif (gx r1 i) && (!decide (((gx l1 i).Kind) = 3)) then (
  need (inR l1 i) <|
  need (room (s.length + [gx l1 i].length)) <|
  some (s ++ [gx l1 i]))
 else (
  some s)

noncomputable def edit_State_L2 (r2 : (List DOp)) (i : Int) (s : (GMap Str (GMap Str Str))) : Option (GMap Str (GMap Str Str)) :=
 need (inR r2 i) <|
 bnd (gx r2 i) fun v1 =>
 Option.bind (edit_things_do s v1) fun r3 =>
 some r3

/-- edit.State -/
noncomputable def edit_State (l1 : (List DOp)) : Option ((List Thing) × Int) :=
 Option.bind (edit_Check l1) fun e1 =>
 bif !decide (e1 = 0) then (
  some (([] : (List Thing)), e1))
 else (
  Option.bind (edit_counting l1) fun r1 =>
  Option.bind (α := (List DOp)) (
   rfor (r1.length : Int) (edit_State_L1 l1 r1) ([] : List DOp)) fun j_4 =>
  Option.bind (slices_SortFunc_Op j_4) fun r2 =>
  bnd ((GMap.nil : (GMap Str (GMap Str Str)))) fun t1 =>
  Option.bind (α := (GMap Str (GMap Str Str))) (
   rfor (r2.length : Int) (edit_State_L2 r2) t1) fun j_15 =>
  Option.bind (edit_things_listed j_15) fun r4 =>
  some (r4, 0))

noncomputable def slices_EqualFunc_Thing_L1 (eq1 : (Thing → Thing → Option Bool)) (s1_1 : (List Thing)) (s2_1 : (List Thing)) (i : Int) (s : Unit) : Option (Res Unit (Res Unit Bool)) :=
 need (inR s1_1 i) <|
 bnd (gx s1_1 i) fun v1 =>
 need (inR s2_1 i) <|
 bnd (gx s2_1 i) fun v2 =>
 Option.bind (eq1 v1 v2) fun r1 =>
 bif !r1 then (
  some (Res.ab (Res.ab false)))
 else (
  some (Res.nx ()))

/-- slices.EqualFunc[[]api.Thing,[]api.Thing,api.Thing,api.Thing] -/
noncomputable def slices_EqualFunc_Thing (s1_1 : (List Thing)) (s2_1 : (List Thing)) (eq1 : (Thing → Thing → Option Bool)) : Option Bool :=
 bif !decide ((s1_1.length : Int) = (s2_1.length : Int)) then (
  some false)
 else (
  bindR (σ := Unit) (ρ := Bool) (
   rforE (s1_1.length : Int) (slices_EqualFunc_Thing_L1 eq1 s1_1 s2_1) (fun s => Res.nx s) ()) fun j_2 =>
  some true)

noncomputable def slices_Equal_Attr_L1 (s1_1 : (List Attr)) (s2_1 : (List Attr)) (i : Int) (s : Unit) : Option (Res Unit (Res Unit Bool)) :=
 need (inR s1_1 i) <|
 need (inR s2_1 i) <|
 bif !decide ((gx s1_1 i) = (gx s2_1 i)) then (
  some (Res.ab (Res.ab false)))
 else (
  some (Res.nx ()))

/-- slices.Equal[[]api.Attr,api.Attr] -/
noncomputable def slices_Equal_Attr (s1_1 : (List Attr)) (s2_1 : (List Attr)) : Option Bool :=
 bif !decide ((s1_1.length : Int) = (s2_1.length : Int)) then (
  some false)
 else (
  bindR (σ := Unit) (ρ := Bool) (
   rforE (s1_1.length : Int) (slices_Equal_Attr_L1 s1_1 s2_1) (fun s => Res.nx s) ()) fun j_2 =>
  some true)

/-- drawtop.same$1 -/
noncomputable def top_same_1 (x1 : Thing) (y1 : Thing) : Option Bool :=
 Option.bind (gd ((decide (x1.Id = y1.Id))) (slices_Equal_Attr x1.Attrs y1.Attrs)) fun r1 =>
 some ((decide (x1.Id = y1.Id)) && r1)

/-- drawtop.same -/
noncomputable def top_same (a1 : (List Thing)) (b1 : (List Thing)) : Option Bool :=
 Option.bind (slices_EqualFunc_Thing a1 b1 top_same_1) fun r1 =>
 some r1

noncomputable def top_TopEditsMeet_L1 (r2 : ((List DOp) × Int)) (cut1 : Int) (i : Int) (s : (List DOp)) : Option (List DOp) :=
 need (inR r2.1 i) <|
 bnd (gx r2.1 i) fun v1 =>
 bif decide (v1.Stamp.No ≤ cut1) then (
  need (room (s.length + [v1].length)) <|
  some (s ++ [v1]))
 else (
  some s)

/-- drawtop.TopEditsMeet -/
noncomputable def top_TopEditsMeet (a1 : (List DOp)) (b1 : (List DOp)) (c1 : (List DOp)) (cut1 : Int) (site1 : Str) : Option Bool :=
 Option.bind (edit_Check [(⟨(⟨(0 : Int), Str.nil, (0 : Int)⟩ : Stamp), (0 : Int), Str.nil, Str.nil, Str.nil, (0 : Int)⟩ : DOp)]) fun r1 =>
 bif !decide (r1 = 5) then (
  some false)
 else (
  Option.bind (edit_Merge a1 b1) fun r2 =>
  bif !decide (r2.2 = 0) then (
   some (decide ((r2.1.length : Int) = 0)))
  else (
   Option.bind (edit_Check b1) fun r3 =>
   bnd (decide (r3 = 0)) fun alone1 =>
   Option.bind (edit_Merge b1 a1) fun r4 =>
   Option.bind (gd (alone1 && !(!decide (r4.2 = 0))) (slices_Equal_Op r2.1 r4.1)) fun r5 =>
   bif alone1 && ((!decide (r4.2 = 0)) || (!r5)) then (
    some false)
   else (
    Option.bind (edit_Merge r2.1 c1) fun r6 =>
    Option.bind (gd (((decide (r6.2 = 0)) && alone1)) (edit_Check c1)) fun r7 =>
    bindR (σ := Unit) (ρ := Bool) (
     bif ((decide (r6.2 = 0)) && alone1) && (decide (r7 = 0)) then (
      Option.bind (edit_Merge b1 c1) fun r8 =>
      Option.bind (edit_Merge a1 r8.1) fun r9 =>
      Option.bind (gd (!((!decide (r8.2 = 0)) || (!decide (r9.2 = 0)))) (slices_Equal_Op r6.1 r9.1)) fun r10 =>
      bif ((!decide (r8.2 = 0)) || (!decide (r9.2 = 0))) || (!r10) then (
       some (Res.ab false))
      else (
       some (Res.nx ())))
     else (
      some (Res.nx ()))) fun j_12 =>
    Option.bind (α := (List DOp)) (
     rfor (r2.1.length : Int) (top_TopEditsMeet_L1 r2 cut1) ([] : List DOp)) fun j_18 =>
    Option.bind (edit_Seen j_18) fun r11 =>
    bif !decide (r11.2 = 0) then (
     some false)
    else (
     Option.bind (edit_Since r2.1 r11.1) fun r12 =>
     Option.bind (edit_Merge j_18 r12.1) fun r13 =>
     Option.bind (gd (!((!decide (r12.2 = 0)) || (!decide (r13.2 = 0)))) (slices_Equal_Op r13.1 r2.1)) fun r14 =>
     bif (((!decide (r12.2 = 0)) || (!decide (r13.2 = 0))) || (!r14)) || (!decide ((W ((j_18.length : Int) + (r12.1.length : Int))) = (r2.1.length : Int))) then (
      some false)
     else (
      Option.bind (edit_Undo r2.1 site1) fun r15 =>
      bif !decide (r15.2 = 0) then (
       some true)
      else (
       Option.bind (edit_Redo r15.1 site1) fun r16 =>
       bif (decide (r16.2 = 3)) || (decide (r16.2 = 14)) then (
        some (decide ((r16.1.length : Int) = 0)))
       else (
        Option.bind (edit_State r2.1) fun r17 =>
        Option.bind (edit_State r16.1) fun r18 =>
        Option.bind (gd ((((decide (r16.2 = 0)) && (decide (r17.2 = 0))) && (decide (r18.2 = 0)))) (top_same r17.1 r18.1)) fun r19 =>
        some ((((decide (r16.2 = 0)) && (decide (r17.2 = 0))) && (decide (r18.2 = 0))) && r19))))))))


end Go.DB
