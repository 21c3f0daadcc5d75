/-
  What the functions compute, as plain functions (printed by a program of one's own).
-/
import Derived.Test.YtchnjieebkkhnaaGreatDoorDifTy
set_option maxRecDepth 100000
set_option linter.unusedSimpArgs false
set_option linter.unusedVariables false
namespace Go.DB
open Go Go.RowKit

/-- unicode/utf8.ValidString -/
noncomputable def utf8_ValidString (s : Str) : Option Bool := some (validS s)

/-- strings.Trim -/
noncomputable def strings_Trim (s cs : Str) : Option Str := need ((cs.b.length : Int) < 4294967281 ∧ cs.b.all (fun b => decide (b.toNat < 128)) = true) (some (trimS s cs))

/-- strings.Compare -/
noncomputable def strings_Compare (s sep : Str) : Option Int := some (compareS s sep)

/-- slices.Sort[[]string,string] -/
noncomputable def slices_Sort_string (l : List Str) : Option (List Str) := need ((l.length : Int) < 4611686018427387904) (some (sortS l))

/-- slices.Grow[[]drawboard/api.Thing,drawboard/api.Thing] (of nil) -/
noncomputable def slices_Grow_Thing (n : Int) : Option (List Thing) := need (0 ≤ n ∧ n ≤ 1073741824) (some [])

noncomputable def ref_NameOf_L1 (s1 : Str) (i : Int) (s : Unit) : Option (Res Unit (Res Unit Bool)) :=
 need (inR s1.b i) <|
 bnd ((⟨((gx s1.b i).toNat : Int)⟩ : KI .u8)) fun c1 =>
 bif (!((decide ((⟨97⟩ : KI .u8).n ≤ c1.n)) && (decide (c1.n ≤ (⟨122⟩ : KI .u8).n)))) && ((decide (i = 0)) || ((!((decide ((⟨48⟩ : KI .u8).n ≤ c1.n)) && (decide (c1.n ≤ (⟨57⟩ : KI .u8).n)))) && (!decide (c1.n = (⟨45⟩ : KI .u8).n)))) then (
  some (Res.ab (Res.ab false)))
 else (
  some (Res.nx ()))

/-- drawref1.NameOf -/
noncomputable def ref_NameOf (s1 : Str) : Option Bool :=
 bindR (σ := Unit) (ρ := Bool) (
  rforE (s1.b.length : Int) (ref_NameOf_L1 s1) (fun s => Res.nx s) ()) fun j_1 =>
 some ((!decide (s1 = Str.nil)) && (decide ((s1.b.length : Int) ≤ 40)))

/-- drawref1.When -/
noncomputable def ref_When (is1 : Bool) (e1 : Int) : Option Int :=
 bif is1 then (
  some e1)
 else (
  some 0)

noncomputable def ref_First_L1 (l1 : (List Int)) (i : Int) (s : Unit) : Option (Res Unit (Res Unit Int)) :=
 need (inR l1 i) <|
 bnd (gx l1 i) fun e1 =>
 bif !decide (e1 = 0) then (
  some (Res.ab (Res.ab e1)))
 else (
  some (Res.nx ()))

/-- drawref1.First -/
noncomputable def ref_First (l1 : (List Int)) : Option Int :=
 bindR (σ := Unit) (ρ := Int) (
  rforE (l1.length : Int) (ref_First_L1 l1) (fun s => Res.nx s) ()) fun j_1 =>
 some 0

noncomputable def ref_TextError_L1 (s1 : Str) (i : Int) (s : Bool) : Option Bool :=
 need (s = false → inR s1.b i) <|
 need (s = false → (decide ((⟨((gx s1.b i).toNat : Int)⟩ : KI .u8).n < (⟨32⟩ : KI .u8).n)) = true → inR s1.b i) <|
 need ((s || ((decide ((⟨((gx s1.b i).toNat : Int)⟩ : KI .u8).n < (⟨32⟩ : KI .u8).n)) && (!decide ((⟨((gx s1.b i).toNat : Int)⟩ : KI .u8).n = (⟨10⟩ : KI .u8).n)))) = false → inR s1.b i) <|
 bnd ((s || ((decide ((⟨((gx s1.b i).toNat : Int)⟩ : KI .u8).n < (⟨32⟩ : KI .u8).n)) && (!decide ((⟨((gx s1.b i).toNat : Int)⟩ : KI .u8).n = (⟨10⟩ : KI .u8).n)))) || (decide ((⟨((gx s1.b i).toNat : Int)⟩ : KI .u8).n = (⟨127⟩ : KI .u8).n))) fun bad2 =>
 some bad2

/-- drawref1.TextError -/
noncomputable def ref_TextError (s1 : Str) : Option Int :=
 Option.bind (utf8_ValidString s1) fun r1 =>
 bnd (!r1) fun bad1 =>
 Option.bind (α := Bool) (
  rfor (s1.b.length : Int) (ref_TextError_L1 s1) bad1) fun j_3 =>
 Option.bind (ref_When (decide (1000 < (s1.b.length : Int))) 4) fun r2 =>
 Option.bind (ref_When j_3 2) fun r3 =>
 Option.bind (ref_First [r2, r3]) fun r4 =>
 some r4

noncomputable def ref_ThingsError_L2 (v1 : Thing) (i : Int) (s : Unit) : Option (Res Unit (Res Unit (Res Unit Int))) :=
 need (inR v1.Attrs i) <|
 bnd (gx v1.Attrs i) fun v2 =>
 Option.bind (ref_NameOf v2.Field) fun r6 =>
 Option.bind (ref_When (!r6) 5) fun r7 =>
 need ((decide (0 < i)) = true → inR v1.Attrs (W ((max i 1) - 1))) <|
 Option.bind (ref_When ((decide (0 < i)) && (Op.bytesLess v2.Field.b ((gx v1.Attrs (W ((max i 1) - 1))).Field).b || v2.Field.b == ((gx v1.Attrs (W ((max i 1) - 1))).Field).b)) 7) fun r8 =>
 Option.bind (ref_TextError v2.Value) fun r9 =>
 Option.bind (ref_First [r7, r8, r9]) fun e2 =>
 bif !decide (e2 = 0) then (
  some (Res.ab (Res.ab (Res.ab e2))))
 else (
  some (Res.nx ()))

noncomputable def ref_ThingsError_L1 (l1 : (List Thing)) (i : Int) (s : Unit) : Option (Res Unit (Res Unit Int)) :=
 need (inR l1 i) <|
 bnd (gx l1 i) fun v1 =>
 Option.bind (ref_NameOf v1.Id) fun r1 =>
 Option.bind (ref_When (!r1) 5) fun r2 =>
 need ((decide (0 < i)) = true → inR l1 (W ((max i 1) - 1))) <|
 Option.bind (ref_When ((decide (0 < i)) && (Op.bytesLess v1.Id.b ((gx l1 (W ((max i 1) - 1))).Id).b || v1.Id.b == ((gx l1 (W ((max i 1) - 1))).Id).b)) 7) fun r3 =>
 Option.bind (ref_When (decide ((v1.Attrs.length : Int) = 0)) 9) fun r4 =>
 Option.bind (ref_When (decide (20 < (v1.Attrs.length : Int))) 4) fun r5 =>
 Option.bind (ref_First [r2, r3, r4, r5]) fun e1 =>
 bif !decide (e1 = 0) then (
  some (Res.ab (Res.ab e1)))
 else (
  rforE (v1.Attrs.length : Int) (ref_ThingsError_L2 v1) (fun s => Res.nx s) ())

/-- drawref1.ThingsError -/
noncomputable def ref_ThingsError (l1 : (List Thing)) : Option Int :=
 bif decide (2000 < (l1.length : Int)) then (
  some 4)
 else (
  bindR (σ := Unit) (ρ := Int) (
   rforE (l1.length : Int) (ref_ThingsError_L1 l1) (fun s => Res.nx s) ()) fun j_2 =>
  some 0)

/-- edit.isName -/
noncomputable def edit_isName (s1 : Str) : Option Bool :=
 need (((!decide (s1 = Str.nil)) && (decide ((s1.b.length : Int) ≤ 40))) = true → inR s1.b 0) <|
 need ((((!decide (s1 = Str.nil)) && (decide ((s1.b.length : Int) ≤ 40))) && (decide ((⟨97⟩ : KI .u8).n ≤ (⟨((gx s1.b 0).toNat : Int)⟩ : KI .u8).n))) = true → inR s1.b 0) <|
 Option.bind (gd (((((!decide (s1 = Str.nil)) && (decide ((s1.b.length : Int) ≤ 40))) && (decide ((⟨97⟩ : KI .u8).n ≤ (⟨((gx s1.b 0).toNat : Int)⟩ : KI .u8).n))) && (decide ((⟨((gx s1.b 0).toNat : Int)⟩ : KI .u8).n ≤ (⟨122⟩ : KI .u8).n)))) (strings_Trim s1 (⟨[97, 98, 99, 100, 101, 102, 103, 104, 105, 106, 107, 108, 109, 110, 111, 112, 113, 114, 115, 116, 117, 118, 119, 120, 121, 122, 48, 49, 50, 51, 52, 53, 54, 55, 56, 57, 45]⟩ : Str))) fun r1 =>
 some (((((!decide (s1 = Str.nil)) && (decide ((s1.b.length : Int) ≤ 40))) && (decide ((⟨97⟩ : KI .u8).n ≤ (⟨((gx s1.b 0).toNat : Int)⟩ : KI .u8).n))) && (decide ((⟨((gx s1.b 0).toNat : Int)⟩ : KI .u8).n ≤ (⟨122⟩ : KI .u8).n))) && (decide (r1 = Str.nil)))

noncomputable def shape_CheckText_L1 (s1 : Str) (i : Int) (s : Unit) : Option (Res Unit (Res Unit Int)) :=
 need (inR s1.b i) <|
 need ((decide ((⟨((gx s1.b i).toNat : Int)⟩ : KI .u8).n < (⟨32⟩ : KI .u8).n)) = true → inR s1.b i) <|
 need (((decide ((⟨((gx s1.b i).toNat : Int)⟩ : KI .u8).n < (⟨32⟩ : KI .u8).n)) && (!decide ((⟨((gx s1.b i).toNat : Int)⟩ : KI .u8).n = (⟨10⟩ : KI .u8).n))) = false → inR s1.b i) <|
 bif ((decide ((⟨((gx s1.b i).toNat : Int)⟩ : KI .u8).n < (⟨32⟩ : KI .u8).n)) && (!decide ((⟨((gx s1.b i).toNat : Int)⟩ : KI .u8).n = (⟨10⟩ : KI .u8).n))) || (decide ((⟨((gx s1.b i).toNat : Int)⟩ : KI .u8).n = (⟨127⟩ : KI .u8).n)) then (
  some (Res.ab (Res.ab 2)))
 else (
  some (Res.nx ()))

/-- shape.CheckText -/
noncomputable def shape_CheckText (s1 : Str) : Option Int :=
 bif decide (1000 < (s1.b.length : Int)) then (
  some 4)
 else (
  Option.bind (utf8_ValidString s1) fun r1 =>
  bif !r1 then (
   some 2)
  else (
   bindR (σ := Unit) (ρ := Int) (
    rforE (s1.b.length : Int) (shape_CheckText_L1 s1) (fun s => Res.nx s) ()) fun j_4 =>
   some 0))

noncomputable def edit_CheckThings_L2 (v1 : Thing) (i : Int) (s : Unit) : Option (Res Unit (Res Unit (Res Unit Int))) :=
 need (inR v1.Attrs i) <|
 bnd (gx v1.Attrs i) fun v2 =>
 Option.bind (edit_isName v2.Field) fun r2 =>
 bif !r2 then (
  some (Res.ab (Res.ab (Res.ab 5))))
 else (
  need ((decide (0 < i)) = true → inR v1.Attrs (W (i - 1))) <|
  bif (decide (0 < i)) && (Op.bytesLess v2.Field.b ((gx v1.Attrs (W (i - 1))).Field).b || v2.Field.b == ((gx v1.Attrs (W (i - 1))).Field).b) then (
   some (Res.ab (Res.ab (Res.ab 7))))
  else (
   Option.bind (shape_CheckText v2.Value) fun e1 =>
   bif !decide (e1 = 0) then (
    some (Res.ab (Res.ab (Res.ab e1))))
   else (
    some (Res.nx ()))))

noncomputable def edit_CheckThings_L1 (l1 : (List Thing)) (i : Int) (s : Unit) : Option (Res Unit (Res Unit Int)) :=
 need (inR l1 i) <|
 bnd (gx l1 i) fun v1 =>
 Option.bind (edit_isName v1.Id) fun r1 =>
 bif !r1 then (
  some (Res.ab (Res.ab 5)))
 else (
  need ((decide (0 < i)) = true → inR l1 (W (i - 1))) <|
  bif (decide (0 < i)) && (Op.bytesLess v1.Id.b ((gx l1 (W (i - 1))).Id).b || v1.Id.b == ((gx l1 (W (i - 1))).Id).b) then (
   some (Res.ab (Res.ab 7)))
  else (
   bif decide ((v1.Attrs.length : Int) = 0) then (
    some (Res.ab (Res.ab 9)))
   else (
    bif decide (20 < (v1.Attrs.length : Int)) then (
     some (Res.ab (Res.ab 4)))
    else (
     rforE (v1.Attrs.length : Int) (edit_CheckThings_L2 v1) (fun s => Res.nx s) ()))))

/-- edit.CheckThings -/
noncomputable def edit_CheckThings (l1 : (List Thing)) : Option Int :=
 bif decide (2000 < (l1.length : Int)) then (
  some 4)
 else (
  bindR (σ := Unit) (ρ := Int) (
   rforE (l1.length : Int) (edit_CheckThings_L1 l1) (fun s => Res.nx s) ()) fun j_2 =>
  some 0)

noncomputable def edit_thingsOf_L2 (v1 : Thing) (i : Int) (s : (GMap Str (GMap Str Str))) : Option (GMap Str (GMap Str Str)) :=
 need (inR v1.Attrs i) <|
 bnd (gx v1.Attrs i) fun v2 =>
 need (s.has v1.Id = true) <|
 some (s.set v1.Id ((s.getD v1.Id GMap.nil).set v2.Field v2.Value))

noncomputable def edit_thingsOf_L1 (l1 : (List Thing)) (i : Int) (s : (GMap Str (GMap Str Str))) : Option (GMap Str (GMap Str Str)) :=
 need (inR l1 i) <|
 bnd (gx l1 i) fun v1 =>
 bnd (s.set v1.Id (GMap.nil : (GMap Str Str))) fun t2 =>
 rfor (v1.Attrs.length : Int) (edit_thingsOf_L2 v1) t2

/-- edit.thingsOf -/
noncomputable def edit_thingsOf (l1 : (List Thing)) : Option (GMap Str (GMap Str Str)) :=
 bnd ((GMap.nil : (GMap Str (GMap Str Str)))) fun t1 =>
 Option.bind (α := (GMap Str (GMap Str Str))) (
  rfor (l1.length : Int) (edit_thingsOf_L1 l1) t1) fun j_2 =>
 some j_2

noncomputable def slices_Concat_Thing_L1 (slices1 : (List (List Thing))) (i : Int) (s : Int) : Option Int :=
 need (inR slices1 i) <|
 bnd (W (s + ((gx slices1 i).length : Int))) fun size1 =>
 bif decide (size1 < 0) then (
  none)
 else (
  some size1)

noncomputable def slices_Concat_Thing_L2 (slices1 : (List (List Thing))) (i : Int) (s : (List Thing)) : Option (List Thing) :=
 need (inR slices1 i) <|
 need (room (s.length + (gx slices1 i).length)) <|
 some (s ++ (gx slices1 i))

/-- slices.Concat[[]api.Thing,api.Thing] -/
noncomputable def slices_Concat_Thing (slices1 : (List (List Thing))) : Option (List Thing) :=
 Option.bind (α := Int) (
  rfor (slices1.length : Int) (slices_Concat_Thing_L1 slices1) 0) fun j_1 =>
 Option.bind (slices_Grow_Thing j_1) fun newslice1 =>
 Option.bind (α := (List Thing)) (
  rfor (slices1.length : Int) (slices_Concat_Thing_L2 slices1) newslice1) fun j_9 =>
 some j_9

noncomputable def slices_Compact_string_L2 (s1 : (List Str)) (s3_ : Int) (s11_ : (Int × Int × (List Str))) : Option (Step (Int × Int × (List Str)) (Int × (List Str))) :=
 need (segR s11_.2.2.length s3_ (s1.length : Int)) <|
 bif decide (s11_.2.1 < ((s1.length : Int) - s3_)) then (
  Option.bind (α := (Int × (List Str))) (
   need (segR s11_.2.2.length s3_ (s1.length : Int)) <|
   need (0 ≤ s11_.2.1 ∧ s11_.2.1 < (s1.length : Int) - s3_) <|
   need (inR s11_.2.2 (s3_ + s11_.2.1)) <|
   need (segR s11_.2.2.length s3_ (s1.length : Int)) <|
   need (0 ≤ (W (s11_.2.1 - 1)) ∧ (W (s11_.2.1 - 1)) < (s1.length : Int) - s3_) <|
   need (inR s11_.2.2 (s3_ + (W (s11_.2.1 - 1)))) <|
   bif !decide ((gx s11_.2.2 (s3_ + s11_.2.1)) = (gx s11_.2.2 (s3_ + (W (s11_.2.1 - 1))))) then (
    need (segR s11_.2.2.length s3_ (s1.length : Int)) <|
    need (0 ≤ s11_.2.1 ∧ s11_.2.1 < (s1.length : Int) - s3_) <|
    need (inR s11_.2.2 (s3_ + s11_.2.1)) <|
    bnd (gx s11_.2.2 (s3_ + s11_.2.1)) fun v1 =>
    need (inR s11_.2.2 s11_.1) <|
    bnd (s11_.2.2.set s11_.1.toNat v1) fun s2 =>
    bnd (W (s11_.1 + 1)) fun k1 =>
    some (k1, s2))
   else (
    some (s11_.1, s11_.2.2))) fun j_14 =>
  bnd (W (s11_.2.1 + 1)) fun k2_1 =>
  some (Step.again (j_14.1, k2_1, j_14.2)))
 else (
  some (Step.done (s11_.1, s11_.2.2)))

noncomputable def slices_Compact_string_L1 (s1 : (List Str)) (s3_ : Int) : Option (Step Int (Res Unit (List Str))) :=
 bif decide (s3_ < (s1.length : Int)) then (
  bindR (σ := Unit) (ρ := (Step Int (Res Unit (List Str)))) (
   need (inR s1 s3_) <|
   need (inR s1 (W (s3_ - 1))) <|
   bif decide ((gx s1 s3_) = (gx s1 (W (s3_ - 1)))) then (
    need (segR s1.length s3_ (s1.length : Int)) <|
    Option.bind (α := (Int × (List Str))) (
     loop (slices_Compact_string_L2 s1 s3_) (s3_, 1, s1)) fun j_10 =>
    need (segR j_10.2.length j_10.1 (j_10.2.length : Int)) <|
    bnd (j_10.2.take j_10.1.toNat ++ List.replicate (j_10.2.length - j_10.1.toNat) Str.nil) fun s3 =>
    need (segR s3.length 0 j_10.1) <|
    bnd (seg s3 0 j_10.1) fun v2 =>
    some (Res.ab (Step.done (Res.ab v2))))
   else (
    some (Res.nx ()))) fun j_5 =>
  bnd (W (s3_ + 1)) fun k2 =>
  some (Step.again k2))
 else (
  some (Step.done (Res.nx ())))

/-- slices.Compact[[]string,string] -/
noncomputable def slices_Compact_string (s1 : (List Str)) : Option (List Str) :=
 bif decide ((s1.length : Int) < 2) then (
  some s1)
 else (
  bindR (σ := Unit) (ρ := (List Str)) (
   loop (slices_Compact_string_L1 s1) 1) fun j_2 =>
  some s1)

noncomputable def slices_BinarySearchFunc_string_L1 (x1 : (List Thing)) (cmp1 : (Thing → Str → Option Int)) (target1 : Str) (s3_ : (Int × Int)) : Option (Step (Int × Int) Int) :=
 bif decide (s3_.1 < s3_.2) then (
  bnd (W ((KI.of .u64 (W (s3_.1 + s3_.2))).shr 1).n) fun h1 =>
  need (inR x1 h1) <|
  Option.bind (cmp1 (gx x1 h1) target1) fun r1 =>
  bif decide (r1 < 0) then (
   bnd (W (h1 + 1)) fun i1 =>
   some (Step.again (i1, s3_.2)))
  else (
   some (Step.again (s3_.1, h1))))
 else (
  some (Step.done s3_.1))

/-- slices.BinarySearchFunc[[]api.Thing,api.Thing,string] -/
noncomputable def slices_BinarySearchFunc_string (x1 : (List Thing)) (target1 : Str) (cmp1 : (Thing → Str → Option Int)) : Option (Int × Bool) :=
 bnd ((x1.length : Int)) fun n1 =>
 Option.bind (α := Int) (
  loop (slices_BinarySearchFunc_string_L1 x1 cmp1 target1) (0, n1)) fun j_2 =>
 need ((decide (j_2 < n1)) = true → inR x1 j_2) <|
 Option.bind (gd ((decide (j_2 < n1))) (cmp1 (gx x1 j_2) target1)) fun r2 =>
 some (j_2, (decide (j_2 < n1)) && (decide (r2 = 0)))

/-- edit.Diff$1 -/
noncomputable def edit_Diff_1 (x1 : Thing) (id1 : Str) : Option Int :=
 Option.bind (strings_Compare x1.Id id1) fun r1 =>
 some r1

noncomputable def edit_Diff_L1 (v1 : (List (List Thing))) (i : Int) (s : Unit) : Option (Res Unit (Res Unit ((List DOp) × Int))) :=
 need (inR v1 i) <|
 Option.bind (edit_CheckThings (gx v1 i)) fun e1 =>
 bif !decide (e1 = 0) then (
  some (Res.ab (Res.ab (([] : (List DOp)), e1))))
 else (
  some (Res.nx ()))

noncomputable def edit_Diff_L2 (r1 : (List Thing)) (i : Int) (s : (List Str)) : Option (List Str) :=
 need (inR r1 i) <|
 bnd (gx r1 i) fun v2 =>
 need (room (s.length + [v2.Id].length)) <|
 some (s ++ [v2.Id])

noncomputable def edit_Diff_L4 (id1 : Str) (now1 : (GMap Str (GMap Str Str))) (k : Str) (e : Str) (s : Bool) : Option Bool :=
 bif !((now1.getD id1 (GMap.nil : (GMap Str Str))).has k) then (
  some true)
 else (
  some s)

noncomputable def edit_Diff_L5 (v3 : (List Attr)) (id1 : Str) (j_32 : ((List DOp) × (GMap Str Str))) (i : Int) (s : (List DOp)) : Option (List DOp) :=
 need (inR v3 i) <|
 bnd (gx v3 i) fun v4 =>
 bif (!(j_32.2.has v4.Field)) || (!decide ((j_32.2.getD v4.Field Str.nil) = v4.Value)) then (
  need (room (s.length + [(⟨(⟨(0 : Int), Str.nil, (0 : Int)⟩ : Stamp), 1, id1, v4.Field, v4.Value, (0 : Int)⟩ : DOp)].length)) <|
  some (s ++ [(⟨(⟨(0 : Int), Str.nil, (0 : Int)⟩ : Stamp), 1, id1, v4.Field, v4.Value, (0 : Int)⟩ : DOp)]))
 else (
  some s)

noncomputable def edit_Diff_L3 (b1 : (List Thing)) (r3 : (List Str)) (now1 : (GMap Str (GMap Str Str))) (old1 : (GMap Str (GMap Str Str))) (i : Int) (s : (List DOp)) : Option (List DOp) :=
 need (inR r3 i) <|
 bnd (gx r3 i) fun id1 =>
 bnd (old1.getD id1 (GMap.nil : (GMap Str Str))) fun was1 =>
 Option.bind (α := Bool) (
  mrange was1 (edit_Diff_L4 id1 now1) false) fun j_28 =>
 Option.bind (α := ((List DOp) × (GMap Str Str))) (
  bif j_28 then (
   need (room (s.length + [(⟨(⟨(0 : Int), Str.nil, (0 : Int)⟩ : Stamp), 2, id1, Str.nil, Str.nil, (0 : Int)⟩ : DOp)].length)) <|
   bnd (s ++ [(⟨(⟨(0 : Int), Str.nil, (0 : Int)⟩ : Stamp), 2, id1, Str.nil, Str.nil, (0 : Int)⟩ : DOp)]) fun out1 =>
   bnd ((GMap.nil : (GMap Str Str))) fun was2 =>
   some (out1, was2))
  else (
   some (s, was1))) fun j_32 =>
 Option.bind (slices_BinarySearchFunc_string b1 id1 edit_Diff_1) fun r4 =>
 bif !r4.2 then (
  some j_32.1)
 else (
  need (inR b1 r4.1) <|
  bnd ((gx b1 r4.1).Attrs) fun v3 =>
  rfor (v3.length : Int) (edit_Diff_L5 v3 id1 j_32) j_32.1)

/-- edit.Diff -/
noncomputable def edit_Diff (a1 : (List Thing)) (b1 : (List Thing)) : Option ((List DOp) × Int) :=
 bnd ([a1, b1]) fun v1 =>
 bindR (σ := Unit) (ρ := ((List DOp) × Int)) (
  rforE (v1.length : Int) (edit_Diff_L1 v1) (fun s => Res.nx s) ()) fun j_2 =>
 Option.bind (edit_thingsOf a1) fun old1 =>
 Option.bind (edit_thingsOf b1) fun now1 =>
 Option.bind (slices_Concat_Thing [a1, b1]) fun r1 =>
 Option.bind (α := (List Str)) (
  rfor (r1.length : Int) (edit_Diff_L2 r1) ([] : List Str)) fun j_12 =>
 Option.bind (slices_Sort_string j_12) fun r2 =>
 Option.bind (slices_Compact_string r2) fun r3 =>
 Option.bind (α := (List DOp)) (
  rfor (r3.length : Int) (edit_Diff_L3 b1 r3 now1 old1) ([] : List DOp)) fun j_21 =>
 some (j_21, 0)

/-- cmp.isNaN[int] -/
noncomputable def cmp_isNaN_int (x1 : Int) : Option Bool :=
 some (!decide (x1 = x1))

/-- cmp.Compare[int] -/
noncomputable def cmp_Compare_int (x1 : Int) (y1 : Int) : Option Int :=
 Option.bind (cmp_isNaN_int x1) fun xNaN1 =>
 Option.bind (cmp_isNaN_int y1) fun yNaN1 =>
 bif xNaN1 then (
  bif yNaN1 then (
   some 0)
  else (
   some (-1)))
 else (
  bif yNaN1 then (
   some 1)
  else (
   bif decide (x1 < y1) then (
    some (-1))
   else (
    bif decide (y1 < x1) then (
     some 1)
    else (
     some 0))))

noncomputable def cmp_Or_int_L1 (vals1 : (List Int)) (i : Int) (s : Unit) : Option (Res Unit (Res Unit Int)) :=
 need (inR vals1 i) <|
 bnd (gx vals1 i) fun val1 =>
 bif !decide (val1 = 0) then (
  some (Res.ab (Res.ab val1)))
 else (
  some (Res.nx ()))

/-- cmp.Or[int] -/
noncomputable def cmp_Or_int (vals1 : (List Int)) : Option Int :=
 bindR (σ := Unit) (ρ := Int) (
  rforE (vals1.length : Int) (cmp_Or_int_L1 vals1) (fun s => Res.nx s) ()) fun j_1 =>
 some 0

/-- edit.order -/
noncomputable def edit_order (a1 : DOp) (b1 : DOp) : Option Int :=
 Option.bind (strings_Compare a1.Stamp.Site b1.Stamp.Site) fun r1 =>
 Option.bind (cmp_Compare_int a1.Stamp.No b1.Stamp.No) fun r2 =>
 Option.bind (cmp_Or_int [r1, r2]) fun r3 =>
 some r3

/-- edit.checkBody -/
noncomputable def edit_checkBody (x1 : DOp) : Option Int :=
 bif (decide (x1.Kind < 1)) || (decide (3 < x1.Kind)) then (
  some 1)
 else (
  bnd (decide (x1.Kind = 1)) fun set1 =>
  bnd (decide (x1.Kind = 3)) fun undo1 =>
  bnd ((!decide (x1.Of = 0)) && (!undo1)) fun v1 =>
  Option.bind (α := Bool) (
   bif v1 then (
    some v1)
   else (
    bnd ((!decide (x1.Id = Str.nil)) && undo1) fun v2 =>
    bif v2 then (
     some v2)
    else (
     bnd (((!decide (x1.Field = Str.nil)) || (!decide (x1.Value = Str.nil))) && (!set1)) fun v3 =>
     some v3))) fun j_5 =>
  bif j_5 then (
   some 2)
  else (
   Option.bind (gd ((!undo1)) (edit_isName x1.Id)) fun r1 =>
   bnd ((!undo1) && (!r1)) fun v4 =>
   Option.bind (α := Bool) (
    bif v4 then (
     some v4)
    else (
     Option.bind (gd (set1) (edit_isName x1.Field)) fun r2 =>
     bnd (set1 && (!r2)) fun v5 =>
     some v5)) fun j_13 =>
   bif j_13 then (
    some 5)
   else (
    bindR (σ := Unit) (ρ := Int) (
     bif set1 then (
      Option.bind (shape_CheckText x1.Value) fun e1 =>
      bif !decide (e1 = 0) then (
       some (Res.ab e1))
      else (
       some (Res.nx ())))
     else (
      some (Res.nx ()))) fun j_18 =>
    bif undo1 && ((decide (x1.Of < 1)) || (decide ((W (x1.Stamp.No - 1)) < x1.Of))) then (
     some 10)
    else (
     some 0))))

noncomputable def edit_Check_L1 (l1 : (List DOp)) (i : Int) (s : Unit) : Option (Res Unit (Res Unit Int)) :=
 need (inR l1 i) <|
 bnd (gx l1 i) fun v1 =>
 bnd ((⟨(⟨(0 : Int), Str.nil, (0 : Int)⟩ : Stamp), (0 : Int), Str.nil, Str.nil, Str.nil, (0 : Int)⟩ : DOp)) fun v2 =>
 need ((decide (0 < i)) = true → inR l1 (W (i - 1))) <|
 Option.bind (α := DOp) (
  bif (decide (0 < i)) && (decide ((((gx l1 (W (i - 1))).Stamp).Site) = v1.Stamp.Site)) then (
   need (inR l1 (W (i - 1))) <|
   bnd (gx l1 (W (i - 1))) fun v3 =>
   some v3)
  else (
   some v2)) fun j_10 =>
 Option.bind (edit_isName v1.Stamp.Site) fun r1 =>
 bif !r1 then (
  some (Res.ab (Res.ab 5)))
 else (
  need ((decide (0 < i)) = true → inR l1 (W (i - 1))) <|
  Option.bind (gd ((decide (0 < i))) (edit_order (gx l1 (W (i - 1))) v1)) fun r2 =>
  bif (decide (0 < i)) && (decide (0 ≤ r2)) then (
   some (Res.ab (Res.ab 7)))
  else (
   bnd (!decide (v1.Stamp.No = (W (j_10.Stamp.No + 1)))) fun v4 =>
   Option.bind (α := Bool) (
    bif v4 then (
     some v4)
    else (
     bnd ((decide (v1.Stamp.Time < 1)) || (decide (1000000000 < v1.Stamp.Time))) fun v5 =>
     some v5)) fun j_20 =>
   bif j_20 then (
    some (Res.ab (Res.ab 3)))
   else (
    bif decide (v1.Stamp.Time ≤ j_10.Stamp.Time) then (
     some (Res.ab (Res.ab 7)))
    else (
     Option.bind (edit_checkBody v1) fun e1 =>
     bif !decide (e1 = 0) then (
      some (Res.ab (Res.ab e1)))
     else (
      some (Res.nx ()))))))

/-- edit.Check -/
noncomputable def edit_Check (l1 : (List DOp)) : Option Int :=
 bif decide (2000 < (l1.length : Int)) then (
  some 4)
 else (
  bindR (σ := Unit) (ρ := Int) (
   rforE (l1.length : Int) (edit_Check_L1 l1) (fun s => Res.nx s) ()) fun j_2 =>
  some 0)

/-- drawlaw1.edits -/
noncomputable def law_edits  : Option Bool :=
 Option.bind (edit_Check ([] : (List DOp))) fun r1 =>
 Option.bind (gd ((decide (r1 = 0))) (edit_Check [(⟨(⟨(0 : Int), Str.nil, (0 : Int)⟩ : Stamp), (0 : Int), Str.nil, Str.nil, Str.nil, (0 : Int)⟩ : DOp)])) fun r2 =>
 some ((decide (r1 = 0)) && (decide (r2 = 5)))

noncomputable def ref_MapOf_L2 (v1 : Thing) (i : Int) (s : (GMap Str (GMap Str Str))) : Option (GMap Str (GMap Str Str)) :=
 need (inR v1.Attrs i) <|
 bnd (gx v1.Attrs i) fun v2 =>
 need (s.has v1.Id = true) <|
 some (s.set v1.Id ((s.getD v1.Id GMap.nil).set v2.Field v2.Value))

noncomputable def ref_MapOf_L1 (l1 : (List Thing)) (i : Int) (s : (GMap Str (GMap Str Str))) : Option (GMap Str (GMap Str Str)) :=
 need (inR l1 i) <|
 bnd (gx l1 i) fun v1 =>
 bnd (s.set v1.Id (GMap.nil : (GMap Str Str))) fun m2 =>
 rfor (v1.Attrs.length : Int) (ref_MapOf_L2 v1) m2

/-- drawref1.MapOf -/
noncomputable def ref_MapOf (l1 : (List Thing)) : Option (GMap Str (GMap Str Str)) :=
 bnd ((GMap.nil : (GMap Str (GMap Str Str)))) fun m1 =>
 Option.bind (α := (GMap Str (GMap Str Str))) (
  rfor (l1.length : Int) (ref_MapOf_L1 l1) m1) fun j_2 =>
 some j_2



noncomputable def ref_DiffOf_L1  (k : Str) (e : (GMap Str Str)) (s : (GMap Str Bool)) : Option (GMap Str Bool) :=
 some (s.set k true)

noncomputable def ref_DiffOf_L2  (k : Str) (e : (GMap Str Str)) (s : (GMap Str Bool)) : Option (GMap Str Bool) :=
 some (s.set k true)

noncomputable def ref_DiffOf_L4 (y1 : (GMap Str (GMap Str Str))) (id1 : Str) (k : Str) (e : Str) (s : Bool) : Option Bool :=
 bnd (s || (!((y1.getD id1 (GMap.nil : (GMap Str Str))).has k))) fun lost1 =>
 some lost1

noncomputable def ref_DiffOf_L5 (v2 : (List Str)) (y1 : (GMap Str (GMap Str Str))) (id1 : Str) (j_23 : ((List DOp) × (GMap Str Str))) (i : Int) (s : (List DOp)) : Option (List DOp) :=
 need (inR v2 i) <|
 bnd (gx v2 i) fun f1 =>
 bif (!(j_23.2.has f1)) || (!decide ((j_23.2.getD f1 Str.nil) = ((y1.getD id1 (GMap.nil : (GMap Str Str))).getD f1 Str.nil))) then (
  need (room (s.length + [(⟨(⟨(0 : Int), Str.nil, (0 : Int)⟩ : Stamp), 1, id1, f1, (y1.getD id1 (GMap.nil : (GMap Str Str))).getD f1 Str.nil, (0 : Int)⟩ : DOp)].length)) <|
  some (s ++ [(⟨(⟨(0 : Int), Str.nil, (0 : Int)⟩ : Stamp), 1, id1, f1, (y1.getD id1 (GMap.nil : (GMap Str Str))).getD f1 Str.nil, (0 : Int)⟩ : DOp)]))
 else (
  some s)

noncomputable def ref_DiffOf_L3 (v1 : (List Str)) (x1 : (GMap Str (GMap Str Str))) (y1 : (GMap Str (GMap Str Str))) (i : Int) (s : (List DOp)) : Option (List DOp) :=
 need (inR v1 i) <|
 bnd (gx v1 i) fun id1 =>
 bnd (x1.getD id1 (GMap.nil : (GMap Str Str))) fun old1 =>
 Option.bind (α := Bool) (
  mrange old1 (ref_DiffOf_L4 y1 id1) false) fun j_19 =>
 Option.bind (α := ((List DOp) × (GMap Str Str))) (
  bif (!(y1.has id1)) || j_19 then (
   need (room (s.length + [(⟨(⟨(0 : Int), Str.nil, (0 : Int)⟩ : Stamp), 2, id1, Str.nil, Str.nil, (0 : Int)⟩ : DOp)].length)) <|
   bnd (s ++ [(⟨(⟨(0 : Int), Str.nil, (0 : Int)⟩ : Stamp), 2, id1, Str.nil, Str.nil, (0 : Int)⟩ : DOp)]) fun out1 =>
   bnd ((GMap.nil : (GMap Str Str))) fun old2 =>
   some (out1, old2))
  else (
   some (s, old1))) fun j_23 =>
 need ((y1.getD id1 (GMap.nil : (GMap Str Str))).size ≤ 8796093022208 ∧ ∃ l, Lists (y1.getD id1 (GMap.nil : (GMap Str Str))) l) <|
 bnd (keysS (y1.getD id1 (GMap.nil : (GMap Str Str)))) fun v2 =>
 rfor (v2.length : Int) (ref_DiffOf_L5 v2 y1 id1 j_23) j_23.1

/-- drawref1.DiffOf -/
noncomputable def ref_DiffOf (a1 : (List Thing)) (b1 : (List Thing)) : Option (List DOp) :=
 Option.bind (ref_MapOf a1) fun x1 =>
 Option.bind (ref_MapOf b1) fun y1 =>
 bnd ((GMap.nil : (GMap Str Bool))) fun ids1 =>
 Option.bind (α := (GMap Str Bool)) (
  mrange x1 ref_DiffOf_L1 ids1) fun j_4 =>
 Option.bind (α := (GMap Str Bool)) (
  mrange y1 ref_DiffOf_L2 j_4) fun j_7 =>
 need (j_7.size ≤ 8796093022208 ∧ ∃ l, Lists j_7 l) <|
 bnd (keysS j_7) fun v1 =>
 Option.bind (α := (List DOp)) (
  rfor (v1.length : Int) (ref_DiffOf_L3 v1 x1 y1) ([] : List DOp)) fun j_12 =>
 some j_12

/-- drawlaw1.DiffsMatch$1 -/
noncomputable def law_DiffsMatch_1 (c0_1 : (List Thing)) (c1_1 : (List Thing)) : Option (List DOp) :=
 Option.bind (ref_DiffOf c0_1 c1_1) fun r1 =>
 some r1

noncomputable def slices_Equal_Op_L1 (s1_1 : (List DOp)) (s2_1 : (List DOp)) (i : Int) (s : Unit) : Option (Res Unit (Res Unit Bool)) :=
 need (inR s1_1 i) <|
 need (inR s2_1 i) <|
 bif !decide ((gx s1_1 i) = (gx s2_1 i)) then (
  some (Res.ab (Res.ab false)))
 else (
  some (Res.nx ()))

/-- slices.Equal[[]api.Op,api.Op] -/
noncomputable def slices_Equal_Op (s1_1 : (List DOp)) (s2_1 : (List DOp)) : Option Bool :=
 bif !decide ((s1_1.length : Int) = (s2_1.length : Int)) then (
  some false)
 else (
  bindR (σ := Unit) (ρ := Bool) (
   rforE (s1_1.length : Int) (slices_Equal_Op_L1 s1_1 s2_1) (fun s => Res.nx s) ()) fun j_2 =>
  some true)

/-- drawlaw1.lists[api.Op] -/
noncomputable def law_lists_Op (got1 : (List DOp)) (e1 : Int) (want1 : Int) (right1 : (Option (List DOp))) : Option Bool :=
 bif !decide (want1 = 0) then (
  some ((decide ((got1.length : Int) = 0)) && (decide (e1 = want1))))
 else (
  Option.bind (gd ((decide (e1 = 0))) (right1)) fun r1 =>
  Option.bind (gd ((decide (e1 = 0))) (slices_Equal_Op got1 r1)) fun r2 =>
  some ((decide (e1 = 0)) && r2))

/-- (edit.things).do -/
noncomputable def edit_things_do (t1 : (GMap Str (GMap Str Str))) (x1 : DOp) : Option (GMap Str (GMap Str Str)) :=
 bif decide (x1.Kind = 2) then (
  bnd (t1.del x1.Id) fun c1 =>
  some c1)
 else (
  Option.bind (α := (GMap Str (GMap Str Str))) (
   bif !t1.has x1.Id then (
    some (t1.set x1.Id (GMap.nil : (GMap Str Str))))
   else (
    some t1)) fun j_3 =>
  need (j_3.has x1.Id = true) <|
  some (j_3.set x1.Id ((j_3.getD x1.Id GMap.nil).set x1.Field x1.Value)))

def sortQ_Attr (x : Attr) : Prop := True
instance : Inhabited { x : Attr // sortQ_Attr x } := ⟨⟨default, by unfold sortQ_Attr; decide⟩⟩
def sortC_Attr (x y : { x : Attr // sortQ_Attr x }) : Int := cmpB x.1.Field.b y.1.Field.b

/-- slices.SortFunc[[]drawboard/api.Attr,drawboard/api.Attr] -/
noncomputable def slices_SortFunc_Attr (l : List Attr) : Option (List Attr) := need ((l.length : Int) < 4611686018427387904 ∧ ∀ x ∈ l, sortQ_Attr x) (some (sortF sortC_Attr l))

/-- slices.SortFunc[[]drawboard/api.Thing,drawboard/api.Thing] -/
noncomputable def slices_SortFunc_Thing (l : List Thing) : Option (List Thing) := need ((l.length : Int) < 4611686018427387904 ∧ (l.map fun x => x.Id).Nodup) (some (usort (fun x => x.Id) l))

noncomputable def edit_things_listed_L2  (k : Str) (e : Str) (s : Thing) : Option Thing :=
 need (roomW (s.Attrs.length + [(⟨k, e⟩ : Attr)].length)) <|
 some ({ s with Attrs := s.Attrs ++ [(⟨k, e⟩ : Attr)] })

noncomputable def edit_things_listed_L1  (k : Str) (e : (GMap Str Str)) (s : (List Thing)) : Option (List Thing) :=
 mrangeK e edit_things_listed_L2 (⟨k, ([] : List Attr)⟩ : Thing) fun j_4 =>
 Option.bind (slices_SortFunc_Attr j_4.Attrs) fun r1 =>
 need (roomW (s.length + [{ j_4 with Attrs := r1 }].length)) <|
 some (s ++ [{ j_4 with Attrs := r1 }])

/-- (edit.things).listed -/
noncomputable def edit_things_listed (t1 : (GMap Str (GMap Str Str))) : Option (List Thing) :=
 mrangeK t1 edit_things_listed_L1 ([] : List Thing) fun j_1 =>
 Option.bind (slices_SortFunc_Thing j_1) fun r2 =>
 some r2

noncomputable def edit_Apply_L1 (ops1 : (List DOp)) (i : Int) (s : (GMap Str (GMap Str Str))) : Option (Res (GMap Str (GMap Str Str)) (Res (GMap Str (GMap Str Str)) ((List Thing) × Int))) :=
 need (inR ops1 i) <|
 bnd (gx ops1 i) fun v1 =>
 bnd (decide (v1.Kind = 1)) fun set1 =>
 bif (!set1) && (!decide (v1.Kind = 2)) then (
  some (Res.ab (Res.ab (([] : (List Thing)), 1))))
 else (
  Option.bind (edit_isName v1.Id) fun r1 =>
  bnd (!r1) fun v2 =>
  Option.bind (α := Bool) (
   bif v2 then (
    some v2)
   else (
    Option.bind (gd (set1) (edit_isName v1.Field)) fun r2 =>
    bnd (set1 && (!r2)) fun v3 =>
    some v3)) fun j_14 =>
  bif j_14 then (
   some (Res.ab (Res.ab (([] : (List Thing)), 5))))
  else (
   bindR (σ := Unit) (ρ := (Res (GMap Str (GMap Str Str)) (Res (GMap Str (GMap Str Str)) ((List Thing) × Int)))) (
    bif set1 then (
     Option.bind (shape_CheckText v1.Value) fun e2 =>
     bif !decide (e2 = 0) then (
      some (Res.ab (Res.ab (Res.ab (([] : (List Thing)), e2)))))
     else (
      some (Res.nx ())))
    else (
     bif !s.has v1.Id then (
      some (Res.ab (Res.ab (Res.ab (([] : (List Thing)), 10)))))
     else (
      some (Res.nx ())))) fun j_19 =>
   Option.bind (edit_things_do s v1) fun r3 =>
   some (Res.nx r3)))

/-- edit.Apply -/
noncomputable def edit_Apply (l1 : (List Thing)) (ops1 : (List DOp)) : Option ((List Thing) × Int) :=
 Option.bind (edit_CheckThings l1) fun e1 =>
 bif !decide (e1 = 0) then (
  some (([] : (List Thing)), e1))
 else (
  Option.bind (edit_thingsOf l1) fun t1 =>
  bindR (σ := (GMap Str (GMap Str Str))) (ρ := ((List Thing) × Int)) (
   rforE (ops1.length : Int) (edit_Apply_L1 ops1) (fun s => Res.nx s) t1) fun j_4 =>
  Option.bind (edit_things_listed j_4) fun out1 =>
  Option.bind (edit_CheckThings out1) fun e3 =>
  bif !decide (e3 = 0) then (
   some (([] : (List Thing)), e3))
  else (
   some (out1, 0)))

noncomputable def slices_EqualFunc_Thing_L1 (eq1 : (Thing → Thing → Option Bool)) (s1_1 : (List Thing)) (s2_1 : (List Thing)) (i : Int) (s : Unit) : Option (Res Unit (Res Unit Bool)) :=
 need (inR s1_1 i) <|
 bnd (gx s1_1 i) fun v1 =>
 need (inR s2_1 i) <|
 bnd (gx s2_1 i) fun v2 =>
 Option.bind (eq1 v1 v2) fun r1 =>
 bif !r1 then (
  some (Res.ab (Res.ab false)))
 else (
  some (Res.nx ()))

/-- slices.EqualFunc[[]api.Thing,[]api.Thing,api.Thing,api.Thing] -/
noncomputable def slices_EqualFunc_Thing (s1_1 : (List Thing)) (s2_1 : (List Thing)) (eq1 : (Thing → Thing → Option Bool)) : Option Bool :=
 bif !decide ((s1_1.length : Int) = (s2_1.length : Int)) then (
  some false)
 else (
  bindR (σ := Unit) (ρ := Bool) (
   rforE (s1_1.length : Int) (slices_EqualFunc_Thing_L1 eq1 s1_1 s2_1) (fun s => Res.nx s) ()) fun j_2 =>
  some true)

noncomputable def slices_Equal_Attr_L1 (s1_1 : (List Attr)) (s2_1 : (List Attr)) (i : Int) (s : Unit) : Option (Res Unit (Res Unit Bool)) :=
 need (inR s1_1 i) <|
 need (inR s2_1 i) <|
 bif !decide ((gx s1_1 i) = (gx s2_1 i)) then (
  some (Res.ab (Res.ab false)))
 else (
  some (Res.nx ()))

/-- slices.Equal[[]api.Attr,api.Attr] -/
noncomputable def slices_Equal_Attr (s1_1 : (List Attr)) (s2_1 : (List Attr)) : Option Bool :=
 bif !decide ((s1_1.length : Int) = (s2_1.length : Int)) then (
  some false)
 else (
  bindR (σ := Unit) (ρ := Bool) (
   rforE (s1_1.length : Int) (slices_Equal_Attr_L1 s1_1 s2_1) (fun s => Res.nx s) ()) fun j_2 =>
  some true)

/-- drawref1.SameThings$1 -/
noncomputable def ref_SameThings_1 (x1 : Thing) (y1 : Thing) : Option Bool :=
 Option.bind (gd ((decide (x1.Id = y1.Id))) (slices_Equal_Attr x1.Attrs y1.Attrs)) fun r1 =>
 some ((decide (x1.Id = y1.Id)) && r1)

/-- drawref1.SameThings -/
noncomputable def ref_SameThings (a1 : (List Thing)) (b1 : (List Thing)) : Option Bool :=
 Option.bind (slices_EqualFunc_Thing a1 b1 ref_SameThings_1) fun r1 =>
 some r1


noncomputable def ref_ThingsOf_L2 (m1 : (GMap Str (GMap Str Str))) (v2 : (List Str)) (id1 : Str) (i : Int) (s : Thing) : Option Thing :=
 need (inR v2 i) <|
 bnd (gx v2 i) fun f1 =>
 need (roomW (s.Attrs.length + [(⟨f1, (m1.getD id1 (GMap.nil : (GMap Str Str))).getD f1 Str.nil⟩ : Attr)].length)) <|
 some ({ s with Attrs := s.Attrs ++ [(⟨f1, (m1.getD id1 (GMap.nil : (GMap Str Str))).getD f1 Str.nil⟩ : Attr)] })

noncomputable def ref_ThingsOf_L1 (m1 : (GMap Str (GMap Str Str))) (v1 : (List Str)) (i : Int) (s : (List Thing)) : Option (List Thing) :=
 need (inR v1 i) <|
 bnd (gx v1 i) fun id1 =>
 need ((m1.getD id1 (GMap.nil : (GMap Str Str))).size ≤ 8796093022208 ∧ ∃ l, Lists (m1.getD id1 (GMap.nil : (GMap Str Str))) l) <|
 bnd (keysS (m1.getD id1 (GMap.nil : (GMap Str Str)))) fun v2 =>
 Option.bind (α := Thing) (
  rfor (v2.length : Int) (ref_ThingsOf_L2 m1 v2 id1) (⟨id1, ([] : List Attr)⟩ : Thing)) fun j_11 =>
 need (roomW (s.length + [{ j_11 with Attrs := j_11.Attrs }].length)) <|
 some (s ++ [{ j_11 with Attrs := j_11.Attrs }])

/-- drawref1.ThingsOf -/
noncomputable def ref_ThingsOf (m1 : (GMap Str (GMap Str Str))) : Option (List Thing) :=
 need (m1.size ≤ 8796093022208 ∧ ∃ l, Lists m1 l) <|
 bnd (keysS m1) fun v1 =>
 Option.bind (α := (List Thing)) (
  rfor (v1.length : Int) (ref_ThingsOf_L1 m1 v1) ([] : List Thing)) fun j_3 =>
 some j_3

noncomputable def ref_ApplyOps_L1 (ops1 : (List DOp)) (i : Int) (s : (GMap Str (GMap Str Str))) : Option (Res (GMap Str (GMap Str Str)) (Res (GMap Str (GMap Str Str)) ((List Thing) × Int))) :=
 need (inR ops1 i) <|
 bnd (gx ops1 i) fun v1 =>
 bif (!decide (v1.Kind = 1)) && (!decide (v1.Kind = 2)) then (
  some (Res.ab (Res.ab (([] : (List Thing)), 1))))
 else (
  Option.bind (ref_NameOf v1.Id) fun r1 =>
  Option.bind (gd (!(!r1) && (decide (v1.Kind = 1))) (ref_NameOf v1.Field)) fun r2 =>
  Option.bind (ref_When ((!r1) || ((decide (v1.Kind = 1)) && (!r2))) 5) fun r3 =>
  Option.bind (ref_When ((decide (v1.Kind = 2)) && (!s.has v1.Id)) 10) fun r4 =>
  Option.bind (ref_First [r3, r4]) fun e1 =>
  bif !decide (e1 = 0) then (
   some (Res.ab (Res.ab (([] : (List Thing)), e1))))
  else (
   Option.bind (ref_TextError v1.Value) fun e2 =>
   bif (decide (v1.Kind = 1)) && (!decide (e2 = 0)) then (
    some (Res.ab (Res.ab (([] : (List Thing)), e2))))
   else (
    bif decide (v1.Kind = 2) then (
     bnd (s.del v1.Id) fun m2 =>
     some (Res.nx m2))
    else (
     Option.bind (α := (GMap Str (GMap Str Str))) (
      bif !s.has v1.Id then (
       some (s.set v1.Id (GMap.nil : (GMap Str Str))))
      else (
       some s)) fun j_19 =>
     need (j_19.has v1.Id = true) <|
     some (Res.nx (j_19.set v1.Id ((j_19.getD v1.Id GMap.nil).set v1.Field v1.Value)))))))

/-- drawref1.ApplyOps -/
noncomputable def ref_ApplyOps (l1 : (List Thing)) (ops1 : (List DOp)) : Option ((List Thing) × Int) :=
 Option.bind (ref_MapOf l1) fun m1 =>
 bindR (σ := (GMap Str (GMap Str Str))) (ρ := ((List Thing) × Int)) (
  rforE (ops1.length : Int) (ref_ApplyOps_L1 ops1) (fun s => Res.nx s) m1) fun j_2 =>
 Option.bind (ref_ThingsOf j_2) fun out1 =>
 Option.bind (ref_ThingsError out1) fun e3 =>
 bif !decide (e3 = 0) then (
  some (([] : (List Thing)), e3))
 else (
  some (out1, 0))

/-- drawlaw1.DiffsMatch$2 -/
noncomputable def law_DiffsMatch_2 (c0_1 : (List Thing)) : Option (List Thing) :=
 some c0_1

/-- drawlaw1.things -/
noncomputable def law_things (l1 : (List Thing)) (e1 : Int) (want1 : Int) (right1 : (Option (List Thing))) : Option Bool :=
 bif !decide (want1 = 0) then (
  some ((decide ((l1.length : Int) = 0)) && (decide (e1 = want1))))
 else (
  Option.bind (gd ((decide (e1 = 0))) (right1)) fun r1 =>
  Option.bind (gd ((decide (e1 = 0))) (ref_SameThings l1 r1)) fun r2 =>
  some ((decide (e1 = 0)) && r2))

/-- drawlaw1.DiffsMatch -/
noncomputable def law_DiffsMatch (a1 : (List Thing)) (b1 : (List Thing)) (ops1 : (List DOp)) : Option Bool :=
 Option.bind (ref_ThingsError a1) fun own1 =>
 Option.bind (ref_ThingsError a1) fun r1 =>
 Option.bind (ref_ThingsError b1) fun r2 =>
 Option.bind (ref_First [r1, r2]) fun both1 =>
 Option.bind (edit_Diff a1 b1) fun r3 =>
 Option.bind (law_edits) fun r4 =>
 Option.bind (gd (!(!r4)) (edit_CheckThings a1)) fun r5 =>
 Option.bind (gd (!((!r4) || (!decide (r5 = own1)))) (law_lists_Op r3.1 r3.2 both1 (law_DiffsMatch_1 a1 b1))) fun r6 =>
 bif ((!r4) || (!decide (r5 = own1))) || (!r6) then (
  some false)
 else (
  bindR (σ := Unit) (ρ := Bool) (
   bif decide (both1 = 0) then (
    Option.bind (edit_Apply a1 r3.1) fun r7 =>
    Option.bind (gd (!(!decide (r7.2 = 0))) (ref_SameThings r7.1 b1)) fun r8 =>
    bif (!decide (r7.2 = 0)) || (!r8) then (
     some (Res.ab false))
    else (
     some (Res.nx ())))
   else (
    some (Res.nx ()))) fun j_10 =>
  Option.bind (edit_Apply a1 ops1) fun r9 =>
  Option.bind (α := (Int × (List Thing))) (
   bif decide (own1 = 0) then (
    Option.bind (ref_ApplyOps a1 ops1) fun r10 =>
    some (r10.2, r10.1))
   else (
    some (own1, ([] : (List Thing))))) fun j_16 =>
  Option.bind (law_things r9.1 r9.2 j_16.1 (law_DiffsMatch_2 j_16.2)) fun r11 =>
  some r11)


end Go.DB
