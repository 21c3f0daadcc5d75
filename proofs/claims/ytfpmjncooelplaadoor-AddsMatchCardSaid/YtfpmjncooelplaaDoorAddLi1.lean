/-
  What the functions compute, as plain functions (printed by a program of one's own).
-/
import Derived.Test.YtfpmjncooelplaaDoorAddTy
set_option maxRecDepth 100000
set_option linter.unusedSimpArgs false
set_option linter.unusedVariables false
namespace Go.DB
open Go Go.RowKit

/-- unicode/utf8.ValidString -/
noncomputable def utf8_ValidString (s : Str) : Option Bool := some (validS s)

/-- strings.Trim -/
noncomputable def strings_Trim (s cs : Str) : Option Str := need ((cs.b.length : Int) < 4294967281 ∧ cs.b.all (fun b => decide (b.toNat < 128)) = true) (some (trimS s cs))

/-- strings.Compare -/
noncomputable def strings_Compare (s sep : Str) : Option Int := some (compareS s sep)

/-- slices.Insert[[]drawboard/api.Op,drawboard/api.Op] -/
noncomputable def slices_Insert_Op (l : List DOp) (i : Int) (v : List DOp) : Option (List DOp) := need (0 ≤ i ∧ i ≤ l.length ∧ (l.length : Int) + v.length ≤ 1073741824) (some (l.take i.toNat ++ v ++ l.drop i.toNat))

/-- cmp.isNaN[int] -/
noncomputable def cmp_isNaN_int (x1 : Int) : Option Bool :=
 some (!decide (x1 = x1))

/-- cmp.Compare[int] -/
noncomputable def cmp_Compare_int (x1 : Int) (y1 : Int) : Option Int :=
 Option.bind (cmp_isNaN_int x1) fun xNaN1 =>
 Option.bind (cmp_isNaN_int y1) fun yNaN1 =>
 bif xNaN1 then (
  bif yNaN1 then (
   some 0)
  else (
   some (-1)))
 else (
  bif yNaN1 then (
   some 1)
  else (
   bif decide (x1 < y1) then (
    some (-1))
   else (
    bif decide (y1 < x1) then (
     some 1)
    else (
     some 0))))

noncomputable def cmp_Or_int_L1 (vals1 : (List Int)) (i : Int) (s : Unit) : Option (Res Unit (Res Unit Int)) :=
 need (inR vals1 i) <|
 bnd (gx vals1 i) fun val1 =>
 bif !decide (val1 = 0) then (
  some (Res.ab (Res.ab val1)))
 else (
  some (Res.nx ()))

/-- cmp.Or[int] -/
noncomputable def cmp_Or_int (vals1 : (List Int)) : Option Int :=
 bindR (σ := Unit) (ρ := Int) (
  rforE (vals1.length : Int) (cmp_Or_int_L1 vals1) (fun s => Res.nx s) ()) fun j_1 =>
 some 0

/-- drawref1.byOp -/
noncomputable def ref_byOp (a1 : DOp) (b1 : DOp) : Option Int :=
 Option.bind (strings_Compare a1.Stamp.Site b1.Stamp.Site) fun r1 =>
 Option.bind (cmp_Compare_int a1.Stamp.No b1.Stamp.No) fun r2 =>
 Option.bind (cmp_Or_int [r1, r2]) fun r3 =>
 some r3

noncomputable def ref_NameOf_L1 (s1 : Str) (i : Int) (s : Unit) : Option (Res Unit (Res Unit Bool)) :=
 need (inR s1.b i) <|
 bnd ((⟨((gx s1.b i).toNat : Int)⟩ : KI .u8)) fun c1 =>
 bif (!((decide ((⟨97⟩ : KI .u8).n ≤ c1.n)) && (decide (c1.n ≤ (⟨122⟩ : KI .u8).n)))) && ((decide (i = 0)) || ((!((decide ((⟨48⟩ : KI .u8).n ≤ c1.n)) && (decide (c1.n ≤ (⟨57⟩ : KI .u8).n)))) && (!decide (c1.n = (⟨45⟩ : KI .u8).n)))) then (
  some (Res.ab (Res.ab false)))
 else (
  some (Res.nx ()))

/-- drawref1.NameOf -/
noncomputable def ref_NameOf (s1 : Str) : Option Bool :=
 bindR (σ := Unit) (ρ := Bool) (
  rforE (s1.b.length : Int) (ref_NameOf_L1 s1) (fun s => Res.nx s) ()) fun j_1 =>
 some ((!decide (s1 = Str.nil)) && (decide ((s1.b.length : Int) ≤ 40)))

/-- drawref1.When -/
noncomputable def ref_When (is1 : Bool) (e1 : Int) : Option Int :=
 bif is1 then (
  some e1)
 else (
  some 0)

/-- drawref1.In -/
noncomputable def ref_In (n1 : Int) (low1 : Int) (high1 : Int) : Option Bool :=
 some ((decide (low1 ≤ n1)) && (decide (n1 ≤ high1)))

noncomputable def ref_First_L1 (l1 : (List Int)) (i : Int) (s : Unit) : Option (Res Unit (Res Unit Int)) :=
 need (inR l1 i) <|
 bnd (gx l1 i) fun e1 =>
 bif !decide (e1 = 0) then (
  some (Res.ab (Res.ab e1)))
 else (
  some (Res.nx ()))

/-- drawref1.First -/
noncomputable def ref_First (l1 : (List Int)) : Option Int :=
 bindR (σ := Unit) (ρ := Int) (
  rforE (l1.length : Int) (ref_First_L1 l1) (fun s => Res.nx s) ()) fun j_1 =>
 some 0

noncomputable def ref_TextError_L1 (s1 : Str) (i : Int) (s : Bool) : Option Bool :=
 need (s = false → inR s1.b i) <|
 need (s = false → (decide ((⟨((gx s1.b i).toNat : Int)⟩ : KI .u8).n < (⟨32⟩ : KI .u8).n)) = true → inR s1.b i) <|
 need ((s || ((decide ((⟨((gx s1.b i).toNat : Int)⟩ : KI .u8).n < (⟨32⟩ : KI .u8).n)) && (!decide ((⟨((gx s1.b i).toNat : Int)⟩ : KI .u8).n = (⟨10⟩ : KI .u8).n)))) = false → inR s1.b i) <|
 bnd ((s || ((decide ((⟨((gx s1.b i).toNat : Int)⟩ : KI .u8).n < (⟨32⟩ : KI .u8).n)) && (!decide ((⟨((gx s1.b i).toNat : Int)⟩ : KI .u8).n = (⟨10⟩ : KI .u8).n)))) || (decide ((⟨((gx s1.b i).toNat : Int)⟩ : KI .u8).n = (⟨127⟩ : KI .u8).n))) fun bad2 =>
 some bad2

/-- drawref1.TextError -/
noncomputable def ref_TextError (s1 : Str) : Option Int :=
 Option.bind (utf8_ValidString s1) fun r1 =>
 bnd (!r1) fun bad1 =>
 Option.bind (α := Bool) (
  rfor (s1.b.length : Int) (ref_TextError_L1 s1) bad1) fun j_3 =>
 Option.bind (ref_When (decide (1000 < (s1.b.length : Int))) 4) fun r2 =>
 Option.bind (ref_When j_3 2) fun r3 =>
 Option.bind (ref_First [r2, r3]) fun r4 =>
 some r4

/-- drawref1.opError -/
noncomputable def ref_opError (x1 : DOp) : Option Int :=
 Option.bind (ref_In x1.Kind 1 3) fun r1 =>
 bif !r1 then (
  some 1)
 else (
  bif (((!decide (x1.Kind = 1)) && ((!decide (x1.Field = Str.nil)) || (!decide (x1.Value = Str.nil)))) || ((decide (x1.Kind = 3)) && (!decide (x1.Id = Str.nil)))) || ((!decide (x1.Kind = 3)) && (!decide (x1.Of = 0))) then (
   some 2)
  else (
   bif decide (x1.Kind = 3) then (
    Option.bind (ref_In x1.Of 1 (W (x1.Stamp.No - 1))) fun r2 =>
    Option.bind (ref_When (!r2) 10) fun r3 =>
    some r3)
   else (
    Option.bind (ref_NameOf x1.Id) fun r4 =>
    Option.bind (gd (!(!r4) && (decide (x1.Kind = 1))) (ref_NameOf x1.Field)) fun r5 =>
    Option.bind (ref_When ((!r4) || ((decide (x1.Kind = 1)) && (!r5))) 5) fun r6 =>
    Option.bind (ref_TextError x1.Value) fun r7 =>
    Option.bind (ref_First [r6, r7]) fun r8 =>
    some r8)))

noncomputable def ref_OpsError_L1 (l1 : (List DOp)) (i : Int) (s : DOp) : Option (Res DOp (Res DOp Int)) :=
 need (inR l1 i) <|
 bnd (gx l1 i) fun v2 =>
 Option.bind (α := DOp) (
  bif !decide (v2.Stamp.Site = s.Stamp.Site) then (
   some ({ { s with Stamp := { s.Stamp with No := 0 } } with Stamp := { ({ s with Stamp := { s.Stamp with No := 0 } }).Stamp with Time := 0 } }))
  else (
   some s)) fun j_9 =>
 Option.bind (gd ((decide (0 < i))) (ref_byOp v2 j_9)) fun r1 =>
 Option.bind (α := Bool) (
  bif (!decide (v2.Stamp.Site = j_9.Stamp.Site)) && (decide (0 < i)) then (
   need (inR l1 (W (i - 1))) <|
   some (Op.bytesLess v2.Stamp.Site.b (((gx l1 (W (i - 1))).Stamp).Site).b))
  else (
   some ((decide (0 < i)) && (decide (r1 ≤ 0))))) fun j_12 =>
 Option.bind (ref_NameOf v2.Stamp.Site) fun r2 =>
 Option.bind (ref_When (!r2) 5) fun r3 =>
 Option.bind (ref_When j_12 7) fun r4 =>
 Option.bind (gd (!(!decide (v2.Stamp.No = (W (j_9.Stamp.No + 1))))) (ref_In v2.Stamp.Time 1 1000000000)) fun r5 =>
 Option.bind (ref_When ((!decide (v2.Stamp.No = (W (j_9.Stamp.No + 1)))) || (!r5)) 3) fun r6 =>
 Option.bind (ref_When (decide (v2.Stamp.Time ≤ j_9.Stamp.Time)) 7) fun r7 =>
 Option.bind (ref_opError v2) fun r8 =>
 Option.bind (ref_First [r3, r4, r6, r7, r8]) fun e1 =>
 bif !decide (e1 = 0) then (
  some (Res.ab (Res.ab e1)))
 else (
  some (Res.nx v2))

/-- drawref1.OpsError -/
noncomputable def ref_OpsError (l1 : (List DOp)) : Option Int :=
 bif decide (2000 < (l1.length : Int)) then (
  some 4)
 else (
  bnd ((⟨(⟨(0 : Int), Str.nil, (0 : Int)⟩ : Stamp), (0 : Int), Str.nil, Str.nil, Str.nil, (0 : Int)⟩ : DOp)) fun v1 =>
  bindR (σ := DOp) (ρ := Int) (
   rforE (l1.length : Int) (ref_OpsError_L1 l1) (fun s => Res.nx s) v1) fun j_3 =>
  some 0)

/-- edit.isName -/
noncomputable def edit_isName (s1 : Str) : Option Bool :=
 need (((!decide (s1 = Str.nil)) && (decide ((s1.b.length : Int) ≤ 40))) = true → inR s1.b 0) <|
 need ((((!decide (s1 = Str.nil)) && (decide ((s1.b.length : Int) ≤ 40))) && (decide ((⟨97⟩ : KI .u8).n ≤ (⟨((gx s1.b 0).toNat : Int)⟩ : KI .u8).n))) = true → inR s1.b 0) <|
 Option.bind (gd (((((!decide (s1 = Str.nil)) && (decide ((s1.b.length : Int) ≤ 40))) && (decide ((⟨97⟩ : KI .u8).n ≤ (⟨((gx s1.b 0).toNat : Int)⟩ : KI .u8).n))) && (decide ((⟨((gx s1.b 0).toNat : Int)⟩ : KI .u8).n ≤ (⟨122⟩ : KI .u8).n)))) (strings_Trim s1 (⟨[97, 98, 99, 100, 101, 102, 103, 104, 105, 106, 107, 108, 109, 110, 111, 112, 113, 114, 115, 116, 117, 118, 119, 120, 121, 122, 48, 49, 50, 51, 52, 53, 54, 55, 56, 57, 45]⟩ : Str))) fun r1 =>
 some (((((!decide (s1 = Str.nil)) && (decide ((s1.b.length : Int) ≤ 40))) && (decide ((⟨97⟩ : KI .u8).n ≤ (⟨((gx s1.b 0).toNat : Int)⟩ : KI .u8).n))) && (decide ((⟨((gx s1.b 0).toNat : Int)⟩ : KI .u8).n ≤ (⟨122⟩ : KI .u8).n))) && (decide (r1 = Str.nil)))

/-- edit.order -/
noncomputable def edit_order (a1 : DOp) (b1 : DOp) : Option Int :=
 Option.bind (strings_Compare a1.Stamp.Site b1.Stamp.Site) fun r1 =>
 Option.bind (cmp_Compare_int a1.Stamp.No b1.Stamp.No) fun r2 =>
 Option.bind (cmp_Or_int [r1, r2]) fun r3 =>
 some r3

noncomputable def shape_CheckText_L1 (s1 : Str) (i : Int) (s : Unit) : Option (Res Unit (Res Unit Int)) :=
 need (inR s1.b i) <|
 need ((decide ((⟨((gx s1.b i).toNat : Int)⟩ : KI .u8).n < (⟨32⟩ : KI .u8).n)) = true → inR s1.b i) <|
 need (((decide ((⟨((gx s1.b i).toNat : Int)⟩ : KI .u8).n < (⟨32⟩ : KI .u8).n)) && (!decide ((⟨((gx s1.b i).toNat : Int)⟩ : KI .u8).n = (⟨10⟩ : KI .u8).n))) = false → inR s1.b i) <|
 bif ((decide ((⟨((gx s1.b i).toNat : Int)⟩ : KI .u8).n < (⟨32⟩ : KI .u8).n)) && (!decide ((⟨((gx s1.b i).toNat : Int)⟩ : KI .u8).n = (⟨10⟩ : KI .u8).n))) || (decide ((⟨((gx s1.b i).toNat : Int)⟩ : KI .u8).n = (⟨127⟩ : KI .u8).n)) then (
  some (Res.ab (Res.ab 2)))
 else (
  some (Res.nx ()))

/-- shape.CheckText -/
noncomputable def shape_CheckText (s1 : Str) : Option Int :=
 bif decide (1000 < (s1.b.length : Int)) then (
  some 4)
 else (
  Option.bind (utf8_ValidString s1) fun r1 =>
  bif !r1 then (
   some 2)
  else (
   bindR (σ := Unit) (ρ := Int) (
    rforE (s1.b.length : Int) (shape_CheckText_L1 s1) (fun s => Res.nx s) ()) fun j_4 =>
   some 0))

/-- edit.checkBody -/
noncomputable def edit_checkBody (x1 : DOp) : Option Int :=
 bif (decide (x1.Kind < 1)) || (decide (3 < x1.Kind)) then (
  some 1)
 else (
  bnd (decide (x1.Kind = 1)) fun set1 =>
  bnd (decide (x1.Kind = 3)) fun undo1 =>
  bnd ((!decide (x1.Of = 0)) && (!undo1)) fun v1 =>
  Option.bind (α := Bool) (
   bif v1 then (
    some v1)
   else (
    bnd ((!decide (x1.Id = Str.nil)) && undo1) fun v2 =>
    bif v2 then (
     some v2)
    else (
     bnd (((!decide (x1.Field = Str.nil)) || (!decide (x1.Value = Str.nil))) && (!set1)) fun v3 =>
     some v3))) fun j_5 =>
  bif j_5 then (
   some 2)
  else (
   Option.bind (gd ((!undo1)) (edit_isName x1.Id)) fun r1 =>
   bnd ((!undo1) && (!r1)) fun v4 =>
   Option.bind (α := Bool) (
    bif v4 then (
     some v4)
    else (
     Option.bind (gd (set1) (edit_isName x1.Field)) fun r2 =>
     bnd (set1 && (!r2)) fun v5 =>
     some v5)) fun j_13 =>
   bif j_13 then (
    some 5)
   else (
    bindR (σ := Unit) (ρ := Int) (
     bif set1 then (
      Option.bind (shape_CheckText x1.Value) fun e1 =>
      bif !decide (e1 = 0) then (
       some (Res.ab e1))
      else (
       some (Res.nx ())))
     else (
      some (Res.nx ()))) fun j_18 =>
    bif undo1 && ((decide (x1.Of < 1)) || (decide ((W (x1.Stamp.No - 1)) < x1.Of))) then (
     some 10)
    else (
     some 0))))

noncomputable def edit_Check_L1 (l1 : (List DOp)) (i : Int) (s : Unit) : Option (Res Unit (Res Unit Int)) :=
 need (inR l1 i) <|
 bnd (gx l1 i) fun v1 =>
 bnd ((⟨(⟨(0 : Int), Str.nil, (0 : Int)⟩ : Stamp), (0 : Int), Str.nil, Str.nil, Str.nil, (0 : Int)⟩ : DOp)) fun v2 =>
 need ((decide (0 < i)) = true → inR l1 (W (i - 1))) <|
 Option.bind (α := DOp) (
  bif (decide (0 < i)) && (decide ((((gx l1 (W (i - 1))).Stamp).Site) = v1.Stamp.Site)) then (
   need (inR l1 (W (i - 1))) <|
   bnd (gx l1 (W (i - 1))) fun v3 =>
   some v3)
  else (
   some v2)) fun j_10 =>
 Option.bind (edit_isName v1.Stamp.Site) fun r1 =>
 bif !r1 then (
  some (Res.ab (Res.ab 5)))
 else (
  need ((decide (0 < i)) = true → inR l1 (W (i - 1))) <|
  Option.bind (gd ((decide (0 < i))) (edit_order (gx l1 (W (i - 1))) v1)) fun r2 =>
  bif (decide (0 < i)) && (decide (0 ≤ r2)) then (
   some (Res.ab (Res.ab 7)))
  else (
   bnd (!decide (v1.Stamp.No = (W (j_10.Stamp.No + 1)))) fun v4 =>
   Option.bind (α := Bool) (
    bif v4 then (
     some v4)
    else (
     bnd ((decide (v1.Stamp.Time < 1)) || (decide (1000000000 < v1.Stamp.Time))) fun v5 =>
     some v5)) fun j_20 =>
   bif j_20 then (
    some (Res.ab (Res.ab 3)))
   else (
    bif decide (v1.Stamp.Time ≤ j_10.Stamp.Time) then (
     some (Res.ab (Res.ab 7)))
    else (
     Option.bind (edit_checkBody v1) fun e1 =>
     bif !decide (e1 = 0) then (
      some (Res.ab (Res.ab e1)))
     else (
      some (Res.nx ()))))))

/-- edit.Check -/
noncomputable def edit_Check (l1 : (List DOp)) : Option Int :=
 bif decide (2000 < (l1.length : Int)) then (
  some 4)
 else (
  bindR (σ := Unit) (ρ := Int) (
   rforE (l1.length : Int) (edit_Check_L1 l1) (fun s => Res.nx s) ()) fun j_2 =>
  some 0)

/-- drawlaw1.edits -/
noncomputable def law_edits  : Option Bool :=
 Option.bind (edit_Check ([] : (List DOp))) fun r1 =>
 Option.bind (gd ((decide (r1 = 0))) (edit_Check [(⟨(⟨(0 : Int), Str.nil, (0 : Int)⟩ : Stamp), (0 : Int), Str.nil, Str.nil, Str.nil, (0 : Int)⟩ : DOp)])) fun r2 =>
 some ((decide (r1 = 0)) && (decide (r2 = 5)))

noncomputable def slices_BinarySearchFunc_Op_L1 (x1 : (List DOp)) (cmp1 : (DOp → DOp → Option Int)) (target1 : DOp) (s3_ : (Int × Int)) : Option (Step (Int × Int) Int) :=
 bif decide (s3_.1 < s3_.2) then (
  bnd (W ((KI.of .u64 (W (s3_.1 + s3_.2))).shr 1).n) fun h1 =>
  need (inR x1 h1) <|
  Option.bind (cmp1 (gx x1 h1) target1) fun r1 =>
  bif decide (r1 < 0) then (
   bnd (W (h1 + 1)) fun i1 =>
   some (Step.again (i1, s3_.2)))
  else (
   some (Step.again (s3_.1, h1))))
 else (
  some (Step.done s3_.1))

/-- slices.BinarySearchFunc[[]api.Op,api.Op,api.Op] -/
noncomputable def slices_BinarySearchFunc_Op (x1 : (List DOp)) (target1 : DOp) (cmp1 : (DOp → DOp → Option Int)) : Option (Int × Bool) :=
 bnd ((x1.length : Int)) fun n1 =>
 Option.bind (α := Int) (
  loop (slices_BinarySearchFunc_Op_L1 x1 cmp1 target1) (0, n1)) fun j_2 =>
 need ((decide (j_2 < n1)) = true → inR x1 j_2) <|
 Option.bind (gd ((decide (j_2 < n1))) (cmp1 (gx x1 j_2) target1)) fun r2 =>
 some (j_2, (decide (j_2 < n1)) && (decide (r2 = 0)))

/-- slices.Clone[[]api.Op,api.Op] -/
noncomputable def slices_Clone_Op (s1 : (List DOp)) : Option (List DOp) :=
 nilc s1 (
  some ([] : List DOp)) (
  need (room (([] : (List DOp)).length + s1.length)) <|
  bnd (([] : (List DOp)) ++ s1) fun v1 =>
  some v1)

noncomputable def edit_further_L1 (l1 : (List DOp)) (i : Int) (s : DOp) : Option DOp :=
 need (inR l1 i) <|
 bnd (gx l1 i) fun v1 =>
 bnd (max s.Stamp.Time v1.Stamp.Time) fun v2 =>
 bnd ({ s with Stamp := { s.Stamp with Time := v2 } }) fun c2 =>
 bif decide (v1.Stamp.Site = c2.Stamp.Site) then (
  bnd (W (v1.Stamp.No + 1)) fun v3 =>
  some ({ c2 with Stamp := { c2.Stamp with No := v3 } }))
 else (
  some c2)

/-- edit.further -/
noncomputable def edit_further (l1 : (List DOp)) (x1 : DOp) : Option ((List DOp) × Int) :=
 bif decide (2000 ≤ (l1.length : Int)) then (
  some (([] : List DOp), 14))
 else (
  bnd ({ x1 with Stamp := { x1.Stamp with No := 1 } }) fun c1 =>
  Option.bind (α := DOp) (
   rfor (l1.length : Int) (edit_further_L1 l1) c1) fun j_3 =>
  bnd (W (j_3.Stamp.Time + 1)) fun v4 =>
  bif decide (1000000000 < ((({ j_3 with Stamp := { j_3.Stamp with Time := v4 } }).Stamp).Time)) then (
   some (([] : List DOp), 3))
  else (
   Option.bind (slices_BinarySearchFunc_Op l1 ({ j_3 with Stamp := { j_3.Stamp with Time := v4 } }) edit_order) fun r1 =>
   Option.bind (slices_Clone_Op l1) fun r2 =>
   Option.bind (slices_Insert_Op r2 r1.1 [{ j_3 with Stamp := { j_3.Stamp with Time := v4 } }]) fun r3 =>
   some (r3, 0)))

/-- edit.Add -/
noncomputable def edit_Add (l1 : (List DOp)) (site1 : Str) (kind1 : Int) (id1 : Str) (field1 : Str) (value1 : Str) : Option ((List DOp) × Int) :=
 Option.bind (edit_Check l1) fun e1 =>
 bif !decide (e1 = 0) then (
  some (([] : (List DOp)), e1))
 else (
  Option.bind (edit_isName site1) fun r1 =>
  bif !r1 then (
   some (([] : (List DOp)), 5))
  else (
   bif (!decide (kind1 = 1)) && (!decide (kind1 = 2)) then (
    some (([] : (List DOp)), 1))
   else (
    Option.bind (edit_further l1 (⟨(⟨(0 : Int), site1, (0 : Int)⟩ : Stamp), kind1, id1, field1, value1, (0 : Int)⟩ : DOp)) fun r2 =>
    bif !decide (r2.2 = 0) then (
     some (([] : (List DOp)), r2.2))
    else (
     Option.bind (edit_Check r2.1) fun e2 =>
     bif !decide (e2 = 0) then (
      some (([] : (List DOp)), e2))
     else (
      some (r2.1, 0))))))

noncomputable def edit_Undo_1_L1 (l1 : (List DOp)) (c0_1 : Str) (counts1 : (List Bool)) (i : Int) (s : Int) : Option Int :=
 need (inR l1 i) <|
 bnd (gx l1 i) fun v1 =>
 need ((decide (v1.Stamp.Site = c0_1)) = true → inR counts1 i) <|
 bif ((decide (v1.Stamp.Site = c0_1)) && (gx counts1 i)) && (!decide (v1.Kind = 3)) then (
  some i)
 else (
  some s)

/-- edit.Undo$1 -/
noncomputable def edit_Undo_1 (l1 : (List DOp)) (counts1 : (List Bool)) (c0_1 : Str) : Option Int :=
 Option.bind (α := Int) (
  rfor (l1.length : Int) (edit_Undo_1_L1 l1 c0_1 counts1) (-1)) fun j_1 =>
 some j_1

noncomputable def edit_counting_L1  (i : Int) (s : (List Bool)) : Option (List Bool) :=
 need (inR s i) <|
 some (s.set i.toNat true)

noncomputable def edit_counting_L2 (l1 : (List DOp)) (s11_ : (Int × (List Bool))) : Option (Step (Int × (List Bool)) (List Bool)) :=
 bif decide (0 ≤ s11_.1) then (
  Option.bind (α := (List Bool)) (
   need (inR l1 s11_.1) <|
   bnd (gx l1 s11_.1) fun v2 =>
   need ((decide (v2.Kind = 3)) = true → inR s11_.2 s11_.1) <|
   bif (decide (v2.Kind = 3)) && (gx s11_.2 s11_.1) then (
    need (inR s11_.2 (W ((W (s11_.1 - v2.Stamp.No)) + v2.Of))) <|
    some (s11_.2.set (W ((W (s11_.1 - v2.Stamp.No)) + v2.Of)).toNat false))
   else (
    some s11_.2)) fun j_13 =>
  bnd (W (s11_.1 - 1)) fun i2 =>
  some (Step.again (i2, j_13)))
 else (
  some (Step.done s11_.2))

/-- edit.counting -/
noncomputable def edit_counting (l1 : (List DOp)) : Option (List Bool) :=
 bnd ((l1.length : Int)) fun v1 =>
 need (0 ≤ v1 ∧ v1 ≤ v1 ∧ v1 ≤ 1073741824) <|
 bnd (List.replicate v1.toNat false) fun out1 =>
 Option.bind (α := (List Bool)) (
  rfor (out1.length : Int) edit_counting_L1 out1) fun j_4 =>
 bnd (W ((l1.length : Int) - 1)) fun i1 =>
 Option.bind (α := (List Bool)) (
  loop (edit_counting_L2 l1) (i1, j_4)) fun j_10 =>
 some j_10

/-- edit.undone$1 -/
noncomputable def edit_undone_1 (x1 : DOp) (c0_1 : Str) : Option Bool :=
 some (((decide (x1.Stamp.Site = c0_1)) && (decide (x1.Kind = 3))) && (decide (x1.Of = 0)))

noncomputable def slices_IndexFunc_Op_L1 (f1 : (DOp → Option Bool)) (s1 : (List DOp)) (i : Int) (s : Unit) : Option (Res Unit (Res Unit Int)) :=
 need (inR s1 i) <|
 Option.bind (f1 (gx s1 i)) fun r1 =>
 bif r1 then (
  some (Res.ab (Res.ab i)))
 else (
  some (Res.nx ()))

/-- slices.IndexFunc[[]api.Op,api.Op] -/
noncomputable def slices_IndexFunc_Op (s1 : (List DOp)) (f1 : (DOp → Option Bool)) : Option Int :=
 bindR (σ := Unit) (ρ := Int) (
  rforE (s1.length : Int) (slices_IndexFunc_Op_L1 f1 s1) (fun s => Res.nx s) ()) fun j_1 =>
 some (-1)

/-- edit.undone -/
noncomputable def edit_undone (l1 : (List DOp)) (site1 : Str) (find1 : ((List DOp) → (List Bool) → Option Int)) : Option ((List DOp) × Int) :=
 Option.bind (edit_Check l1) fun e1 =>
 bif !decide (e1 = 0) then (
  some (([] : (List DOp)), e1))
 else (
  Option.bind (edit_isName site1) fun r1 =>
  bif !r1 then (
   some (([] : (List DOp)), 5))
  else (
   Option.bind (edit_further l1 (⟨(⟨(0 : Int), site1, (0 : Int)⟩ : Stamp), 3, Str.nil, Str.nil, Str.nil, (0 : Int)⟩ : DOp)) fun r2 =>
   bif !decide (r2.2 = 0) then (
    some (([] : (List DOp)), r2.2))
   else (
    Option.bind (edit_counting l1) fun r3 =>
    Option.bind (find1 l1 r3) fun k1 =>
    bif decide (k1 < 0) then (
     some (([] : (List DOp)), 12))
    else (
     Option.bind (slices_IndexFunc_Op r2.1 (fun x0 => edit_undone_1 x0 site1)) fun at1 =>
     need (inR l1 k1) <|
     bnd (((gx l1 k1).Stamp).No) fun v1 =>
     need (inR r2.1 at1) <|
     some (r2.1.set at1.toNat { gx r2.1 at1 with Of := v1 }, 0)))))

/-- edit.Undo -/
noncomputable def edit_Undo (l1 : (List DOp)) (site1 : Str) : Option ((List DOp) × Int) :=
 Option.bind (edit_undone l1 site1 (fun x0 x1 => edit_Undo_1 x0 x1 site1)) fun r1 =>
 some (r1.1, r1.2)

noncomputable def edit_Redo_1_L1 (l1 : (List DOp)) (c0_1 : Str) (counts1 : (List Bool)) (i : Int) (s : Int) : Option Int :=
 need (inR l1 i) <|
 bnd (gx l1 i) fun v1 =>
 bif !decide (v1.Stamp.Site = c0_1) then (
  some s)
 else (
  bif !decide (v1.Kind = 3) then (
   some (-1))
  else (
   need (inR counts1 i) <|
   need ((gx counts1 i) = true → inR l1 (W ((W (i - v1.Stamp.No)) + v1.Of))) <|
   bif (gx counts1 i) && (!decide (((gx l1 (W ((W (i - v1.Stamp.No)) + v1.Of))).Kind) = 3)) then (
    some i)
   else (
    some s)))

/-- edit.Redo$1 -/
noncomputable def edit_Redo_1 (l1 : (List DOp)) (counts1 : (List Bool)) (c0_1 : Str) : Option Int :=
 Option.bind (α := Int) (
  rfor (l1.length : Int) (edit_Redo_1_L1 l1 c0_1 counts1) (-1)) fun j_1 =>
 some j_1

/-- edit.Redo -/
noncomputable def edit_Redo (l1 : (List DOp)) (site1 : Str) : Option ((List DOp) × Int) :=
 Option.bind (edit_undone l1 site1 (fun x0 x1 => edit_Redo_1 x0 x1 site1)) fun r1 =>
 some (r1.1, r1.2)

noncomputable def ref_next_L1 (l1 : (List DOp)) (site1 : Str) (i : Int) (s : Stamp) : Option Stamp :=
 need (inR l1 i) <|
 bnd (gx l1 i) fun v3 =>
 bnd (max s.Time (W (v3.Stamp.Time + 1))) fun v4 =>
 bnd ({ s with Time := v4 }) fun s1 =>
 bif decide (v3.Stamp.Site = site1) then (
  bnd (W (v3.Stamp.No + 1)) fun v5 =>
  some ({ s1 with No := v5 }))
 else (
  some s1)

/-- drawref1.next -/
noncomputable def ref_next (l1 : (List DOp)) (site1 : Str) : Option Stamp :=
 bnd ((⟨(0 : Int), Str.nil, (0 : Int)⟩ : Stamp)) fun v1 =>
 bnd ((⟨1, site1, 1⟩ : Stamp)) fun v2 =>
 Option.bind (α := Stamp) (
  rfor (l1.length : Int) (ref_next_L1 l1 site1) v2) fun j_3 =>
 some j_3

/-- drawref1.siteError -/
noncomputable def ref_siteError (l1 : (List DOp)) (site1 : Str) : Option Int :=
 Option.bind (ref_NameOf site1) fun r1 =>
 Option.bind (ref_When (!r1) 5) fun r2 =>
 Option.bind (ref_When (decide ((l1.length : Int) = 2000)) 14) fun r3 =>
 Option.bind (ref_next l1 site1) fun r4 =>
 Option.bind (ref_When (decide (1000000000 < r4.Time)) 3) fun r5 =>
 Option.bind (ref_First [r2, r3, r5]) fun r6 =>
 some r6

def sortQ_DOp (x : DOp) : Prop := True
instance : Inhabited { x : DOp // sortQ_DOp x } := ⟨⟨default, by unfold sortQ_DOp; decide⟩⟩
def sortC_DOp (x y : { x : DOp // sortQ_DOp x }) : Int := cmpO x.1.Stamp.Site.b x.1.Stamp.No y.1.Stamp.Site.b y.1.Stamp.No

/-- slices.SortFunc[[]drawboard/api.Op,drawboard/api.Op] -/
noncomputable def slices_SortFunc_Op (l : List DOp) : Option (List DOp) := need ((l.length : Int) < 4611686018427387904 ∧ ∀ x ∈ l, sortQ_DOp x) (some (sortF sortC_DOp l))

/-- drawref1.put -/
noncomputable def ref_put (l1 : (List DOp)) (x1 : DOp) : Option (List DOp) :=
 Option.bind (slices_Clone_Op l1) fun r1 =>
 need (room (r1.length + [x1].length)) <|
 bnd (r1 ++ [x1]) fun out1 =>
 Option.bind (slices_SortFunc_Op out1) fun r2 =>
 some r2

/-- drawref1.AddTo -/
noncomputable def ref_AddTo (l1 : (List DOp)) (site1 : Str) (kind1 : Int) (id1 : Str) (field1 : Str) (value1 : Str) : Option ((List DOp) × Int) :=
 Option.bind (ref_next l1 site1) fun r1 =>
 bnd ((⟨r1, kind1, id1, field1, value1, (0 : Int)⟩ : DOp)) fun v1 =>
 Option.bind (ref_NameOf site1) fun r2 =>
 Option.bind (ref_When (!r2) 5) fun r3 =>
 Option.bind (ref_When ((!decide (kind1 = 1)) && (!decide (kind1 = 2))) 1) fun r4 =>
 Option.bind (ref_siteError l1 site1) fun r5 =>
 Option.bind (ref_opError v1) fun r6 =>
 Option.bind (ref_First [r3, r4, r5, r6]) fun e1 =>
 bif !decide (e1 = 0) then (
  some (([] : (List DOp)), e1))
 else (
  Option.bind (ref_put l1 v1) fun r7 =>
  some (r7, 0))

noncomputable def ref_CountingOf_L2 (l1 : (List DOp)) (s6_ : (Int × (List Bool))) (s12_ : (Int × (List Bool))) : Option (Step (Int × (List Bool)) (List Bool)) :=
 bif decide (s12_.1 < (l1.length : Int)) then (
  Option.bind (α := (List Bool)) (
   need (inR s12_.2 s12_.1) <|
   need ((gx s12_.2 s12_.1) = true → inR l1 s12_.1) <|
   need (((gx s12_.2 s12_.1) && (decide (((gx l1 s12_.1).Kind) = 3))) = true → inR l1 s12_.1) <|
   need (((gx s12_.2 s12_.1) && (decide (((gx l1 s12_.1).Kind) = 3))) = true → inR l1 s6_.1) <|
   need ((((gx s12_.2 s12_.1) && (decide (((gx l1 s12_.1).Kind) = 3))) && (decide ((((gx l1 s12_.1).Stamp).Site) = (((gx l1 s6_.1).Stamp).Site)))) = true → inR l1 s12_.1) <|
   need ((((gx s12_.2 s12_.1) && (decide (((gx l1 s12_.1).Kind) = 3))) && (decide ((((gx l1 s12_.1).Stamp).Site) = (((gx l1 s6_.1).Stamp).Site)))) = true → inR l1 s6_.1) <|
   bif (((gx s12_.2 s12_.1) && (decide (((gx l1 s12_.1).Kind) = 3))) && (decide ((((gx l1 s12_.1).Stamp).Site) = (((gx l1 s6_.1).Stamp).Site)))) && (decide (((gx l1 s12_.1).Of) = (((gx l1 s6_.1).Stamp).No))) then (
    need (inR s12_.2 s6_.1) <|
    some (s12_.2.set s6_.1.toNat false))
   else (
    some s12_.2)) fun j_14 =>
  bnd (W (s12_.1 + 1)) fun j2 =>
  some (Step.again (j2, j_14)))
 else (
  some (Step.done s12_.2))

noncomputable def ref_CountingOf_L1 (l1 : (List DOp)) (s6_ : (Int × (List Bool))) : Option (Step (Int × (List Bool)) (List Bool)) :=
 bif decide (0 ≤ s6_.1) then (
  Option.bind (α := (List Bool)) (
   need (inR s6_.2 s6_.1) <|
   bnd (s6_.2.set s6_.1.toNat true) fun out2 =>
   bnd (W (s6_.1 + 1)) fun j1 =>
   loop (ref_CountingOf_L2 l1 s6_) (j1, out2)) fun j_8 =>
  bnd (W (s6_.1 - 1)) fun i2 =>
  some (Step.again (i2, j_8)))
 else (
  some (Step.done s6_.2))

/-- drawref1.CountingOf -/
noncomputable def ref_CountingOf (l1 : (List DOp)) : Option (List Bool) :=
 bnd ((l1.length : Int)) fun v1 =>
 need (0 ≤ v1 ∧ v1 ≤ v1 ∧ v1 ≤ 1073741824) <|
 bnd (List.replicate v1.toNat false) fun out1 =>
 bnd (W ((l1.length : Int) - 1)) fun i1 =>
 Option.bind (α := (List Bool)) (
  loop (ref_CountingOf_L1 l1) (i1, out1)) fun j_5 =>
 some j_5

noncomputable def ref_UndoIn_L1 (l1 : (List DOp)) (redo1 : Bool) (site1 : Str) (counts1 : (List Bool)) (i : Int) (s : (Int × (GMap Int Int))) : Option (Int × (GMap Int Int)) :=
 need (inR l1 i) <|
 bnd (gx l1 i) fun v1 =>
 bif !decide (v1.Stamp.Site = site1) then (
  some (s.1, s.2))
 else (
  bnd (s.2.set v1.Stamp.No v1.Kind) fun kind2 =>
  bif (!decide (v1.Kind = 3)) && redo1 then (
   some (0, kind2))
  else (
   need ((!decide (v1.Kind = 3)) = true → inR counts1 i) <|
   bif (!decide (v1.Kind = 3)) && (gx counts1 i) then (
    some (v1.Stamp.No, kind2))
   else (
    need (((decide (v1.Kind = 3)) && redo1) = true → inR counts1 i) <|
    bif (((decide (v1.Kind = 3)) && redo1) && (gx counts1 i)) && (!decide ((kind2.getD v1.Of (0 : Int)) = 3)) then (
     some (v1.Stamp.No, kind2))
    else (
     some (s.1, kind2)))))

/-- drawref1.UndoIn -/
noncomputable def ref_UndoIn (l1 : (List DOp)) (site1 : Str) (redo1 : Bool) : Option ((List DOp) × Int) :=
 Option.bind (ref_siteError l1 site1) fun e1 =>
 bif !decide (e1 = 0) then (
  some (([] : (List DOp)), e1))
 else (
  Option.bind (ref_CountingOf l1) fun counts1 =>
  bnd ((GMap.nil : (GMap Int Int))) fun kind1 =>
  Option.bind (α := (Int × (GMap Int Int))) (
   rfor (l1.length : Int) (ref_UndoIn_L1 l1 redo1 site1 counts1) (0, kind1)) fun j_5 =>
  bif decide (j_5.1 = 0) then (
   some (([] : (List DOp)), 12))
  else (
   Option.bind (ref_next l1 site1) fun r1 =>
   Option.bind (ref_put l1 (⟨r1, 3, Str.nil, Str.nil, Str.nil, j_5.1⟩ : DOp)) fun r2 =>
   some (r2, 0)))

noncomputable def slices_Equal_Op_L1 (s1_1 : (List DOp)) (s2_1 : (List DOp)) (i : Int) (s : Unit) : Option (Res Unit (Res Unit Bool)) :=
 need (inR s1_1 i) <|
 need (inR s2_1 i) <|
 bif !decide ((gx s1_1 i) = (gx s2_1 i)) then (
  some (Res.ab (Res.ab false)))
 else (
  some (Res.nx ()))

/-- slices.Equal[[]api.Op,api.Op] -/
noncomputable def slices_Equal_Op (s1_1 : (List DOp)) (s2_1 : (List DOp)) : Option Bool :=
 bif !decide ((s1_1.length : Int) = (s2_1.length : Int)) then (
  some false)
 else (
  bindR (σ := Unit) (ρ := Bool) (
   rforE (s1_1.length : Int) (slices_Equal_Op_L1 s1_1 s2_1) (fun s => Res.nx s) ()) fun j_2 =>
  some true)

/-- drawlaw1.AddsMatch -/
noncomputable def law_AddsMatch (l1 : (List DOp)) (site1 : Str) (kind1 : Int) (id1 : Str) (field1 : Str) (value1 : Str) : Option Bool :=
 Option.bind (ref_OpsError l1) fun own1 =>
 bif (decide (own1 = 0)) && (decide (200 < (l1.length : Int))) then (
  Option.bind (law_edits) fun r1 =>
  some r1)
 else (
  Option.bind (edit_Add l1 site1 kind1 id1 field1 value1) fun r2 =>
  Option.bind (edit_Undo l1 site1) fun r3 =>
  Option.bind (edit_Redo l1 site1) fun r4 =>
  Option.bind (law_edits) fun r5 =>
  bif (!r5) || (!decide (own1 = 0)) then (
   Option.bind (law_edits) fun r6 =>
   some ((((((r6 && (decide ((r2.1.length : Int) = 0))) && (decide (r2.2 = own1))) && (decide ((r3.1.length : Int) = 0))) && (decide (r3.2 = own1))) && (decide ((r4.1.length : Int) = 0))) && (decide (r4.2 = own1))))
  else (
   Option.bind (ref_AddTo l1 site1 kind1 id1 field1 value1) fun r7 =>
   Option.bind (ref_UndoIn l1 site1 false) fun r8 =>
   Option.bind (ref_UndoIn l1 site1 true) fun r9 =>
   Option.bind (gd ((decide (r2.2 = r7.2))) (slices_Equal_Op r2.1 r7.1)) fun r10 =>
   Option.bind (gd ((((decide (r2.2 = r7.2)) && r10) && (decide (r3.2 = r8.2)))) (slices_Equal_Op r3.1 r8.1)) fun r11 =>
   Option.bind (gd ((((((decide (r2.2 = r7.2)) && r10) && (decide (r3.2 = r8.2))) && r11) && (decide (r4.2 = r9.2)))) (slices_Equal_Op r4.1 r9.1)) fun r12 =>
   some ((((((decide (r2.2 = r7.2)) && r10) && (decide (r3.2 = r8.2))) && r11) && (decide (r4.2 = r9.2))) && r12)))


end Go.DB
