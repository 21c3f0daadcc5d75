/-
  What the functions compute, as plain functions (printed by a program of one's own).
-/
import Derived.Test.YtjnglmeiifcgjaaGreatDoorOppTy
set_option maxRecDepth 100000
set_option linter.unusedSimpArgs false
set_option linter.unusedVariables false
namespace Go.DB
open Go Go.RowKit

/-- strings.Count (of one byte) -/
noncomputable def strings_Count (s sep : Str) : Option Int := need (sep.b.length = 1) (some (countByteS s (sep.b.headD 0)))

/-- strconv.Itoa -/
noncomputable def strconv_Itoa (n : Int) : Option Str := need ((itoaS n).b.length ≤ 1000000) (some (itoaS n))

/-- drawboard/drawref1.Quote -/
noncomputable def ref_Quote (s : Str) : Option Str := need (s.b.length ≤ 4294967296) (some (quoteS s))

/-- strings.Join -/
noncomputable def strings_Join (l : List Str) (sep : Str) : Option Str := need (l.length ≤ 1000000000 ∧ (joinS l sep).b.length ≤ 1000000000) (some (joinS l sep))

/-- unicode/utf8.ValidString -/
noncomputable def utf8_ValidString (s : Str) : Option Bool := some (validS s)

/-- strings.Compare -/
noncomputable def strings_Compare (s sep : Str) : Option Int := some (compareS s sep)

/-- strings.Trim -/
noncomputable def strings_Trim (s cs : Str) : Option Str := need ((cs.b.length : Int) < 4294967281 ∧ cs.b.all (fun b => decide (b.toNat < 128)) = true) (some (trimS s cs))

/-- strings.IndexByte -/
noncomputable def strings_IndexByte (s : Str) (c : KI .u8) : Option Int := need ((s.b.length : Int) < 4611686018427387904) (some (indexByteS s c))

/-- strconv.Atoi -/
noncomputable def strconv_Atoi (s : Str) : Option (Int × ErrB) := need (s.b.length ≤ 4294967281) (some (atoiI s))

/-- strings.SplitN -/
noncomputable def strings_SplitN (s sep : Str) (n : Int) : Option (List Str) := need ((s.b.length : Int) < 4294967281 ∧ 1 ≤ n ∧ n ≤ 1000) (need (sep.b ≠ []) (need ((splitNS s sep n).length ≤ min n.toNat (s.b.length + 1)) (some (splitNS s sep n))))

/-- strings.Cut -/
noncomputable def strings_Cut (s sep : Str) : Option (Str × Str × Bool) := need ((s.b.length : Int) < 4294967281 ∧ (cutS s sep).1.b.length ≤ 4294967281 ∧ (cutS s sep).2.1.b.length ≤ 4294967281) (some (cutS s sep))

/-- (*strings.Builder).String -/
noncomputable def strings_Builder_String (c : Str) : Option Str := need (c.b.length ≤ 70368744177664) (some c)

/-- (*strings.Builder).Len -/
noncomputable def strings_Builder_Len (c : Str) : Option (Int × Str) := need (c.b.length ≤ 70368744177664) (some ((c.b.length : Int), c))

/-- (*strings.Builder).WriteString -/
noncomputable def strings_Builder_WriteString (c s : Str) : Option Str := need (c.b.length + s.b.length ≤ 70368744177664) (some ⟨c.b ++ s.b⟩)

/-- drawboard/edit.Quoted -/
noncomputable def edit_Quoted (s : Str) : Option Str := need (s.b.length ≤ 4294967296) (some (quoteS s))

/-- edit.isName -/
noncomputable def edit_isName (s1 : Str) : Option Bool :=
 need (((!decide (s1 = Str.nil)) && (decide ((s1.b.length : Int) ≤ 40))) = true → inR s1.b 0) <|
 need ((((!decide (s1 = Str.nil)) && (decide ((s1.b.length : Int) ≤ 40))) && (decide ((⟨97⟩ : KI .u8).n ≤ (⟨((gx s1.b 0).toNat : Int)⟩ : KI .u8).n))) = true → inR s1.b 0) <|
 Option.bind (gd (((((!decide (s1 = Str.nil)) && (decide ((s1.b.length : Int) ≤ 40))) && (decide ((⟨97⟩ : KI .u8).n ≤ (⟨((gx s1.b 0).toNat : Int)⟩ : KI .u8).n))) && (decide ((⟨((gx s1.b 0).toNat : Int)⟩ : KI .u8).n ≤ (⟨122⟩ : KI .u8).n)))) (strings_Trim s1 (⟨[97, 98, 99, 100, 101, 102, 103, 104, 105, 106, 107, 108, 109, 110, 111, 112, 113, 114, 115, 116, 117, 118, 119, 120, 121, 122, 48, 49, 50, 51, 52, 53, 54, 55, 56, 57, 45]⟩ : Str))) fun r1 =>
 some (((((!decide (s1 = Str.nil)) && (decide ((s1.b.length : Int) ≤ 40))) && (decide ((⟨97⟩ : KI .u8).n ≤ (⟨((gx s1.b 0).toNat : Int)⟩ : KI .u8).n))) && (decide ((⟨((gx s1.b 0).toNat : Int)⟩ : KI .u8).n ≤ (⟨122⟩ : KI .u8).n))) && (decide (r1 = Str.nil)))

/-- cmp.isNaN[int] -/
noncomputable def cmp_isNaN_int (x1 : Int) : Option Bool :=
 some (!decide (x1 = x1))

/-- cmp.Compare[int] -/
noncomputable def cmp_Compare_int (x1 : Int) (y1 : Int) : Option Int :=
 Option.bind (cmp_isNaN_int x1) fun xNaN1 =>
 Option.bind (cmp_isNaN_int y1) fun yNaN1 =>
 bif xNaN1 then (
  bif yNaN1 then (
   some 0)
  else (
   some (-1)))
 else (
  bif yNaN1 then (
   some 1)
  else (
   bif decide (x1 < y1) then (
    some (-1))
   else (
    bif decide (y1 < x1) then (
     some 1)
    else (
     some 0))))

noncomputable def cmp_Or_int_L1 (vals1 : (List Int)) (i : Int) (s : Unit) : Option (Res Unit (Res Unit Int)) :=
 need (inR vals1 i) <|
 bnd (gx vals1 i) fun val1 =>
 bif !decide (val1 = 0) then (
  some (Res.ab (Res.ab val1)))
 else (
  some (Res.nx ()))

/-- cmp.Or[int] -/
noncomputable def cmp_Or_int (vals1 : (List Int)) : Option Int :=
 bindR (σ := Unit) (ρ := Int) (
  rforE (vals1.length : Int) (cmp_Or_int_L1 vals1) (fun s => Res.nx s) ()) fun j_1 =>
 some 0

/-- edit.order -/
noncomputable def edit_order (a1 : DOp) (b1 : DOp) : Option Int :=
 Option.bind (strings_Compare a1.Stamp.Site b1.Stamp.Site) fun r1 =>
 Option.bind (cmp_Compare_int a1.Stamp.No b1.Stamp.No) fun r2 =>
 Option.bind (cmp_Or_int [r1, r2]) fun r3 =>
 some r3

noncomputable def shape_CheckText_L1 (s1 : Str) (i : Int) (s : Unit) : Option (Res Unit (Res Unit Int)) :=
 need (inR s1.b i) <|
 need ((decide ((⟨((gx s1.b i).toNat : Int)⟩ : KI .u8).n < (⟨32⟩ : KI .u8).n)) = true → inR s1.b i) <|
 need (((decide ((⟨((gx s1.b i).toNat : Int)⟩ : KI .u8).n < (⟨32⟩ : KI .u8).n)) && (!decide ((⟨((gx s1.b i).toNat : Int)⟩ : KI .u8).n = (⟨10⟩ : KI .u8).n))) = false → inR s1.b i) <|
 bif ((decide ((⟨((gx s1.b i).toNat : Int)⟩ : KI .u8).n < (⟨32⟩ : KI .u8).n)) && (!decide ((⟨((gx s1.b i).toNat : Int)⟩ : KI .u8).n = (⟨10⟩ : KI .u8).n))) || (decide ((⟨((gx s1.b i).toNat : Int)⟩ : KI .u8).n = (⟨127⟩ : KI .u8).n)) then (
  some (Res.ab (Res.ab 2)))
 else (
  some (Res.nx ()))

/-- shape.CheckText -/
noncomputable def shape_CheckText (s1 : Str) : Option Int :=
 bif decide (1000 < (s1.b.length : Int)) then (
  some 4)
 else (
  Option.bind (utf8_ValidString s1) fun r1 =>
  bif !r1 then (
   some 2)
  else (
   bindR (σ := Unit) (ρ := Int) (
    rforE (s1.b.length : Int) (shape_CheckText_L1 s1) (fun s => Res.nx s) ()) fun j_4 =>
   some 0))

/-- edit.checkBody -/
noncomputable def edit_checkBody (x1 : DOp) : Option Int :=
 bif (decide (x1.Kind < 1)) || (decide (3 < x1.Kind)) then (
  some 1)
 else (
  bnd (decide (x1.Kind = 1)) fun set1 =>
  bnd (decide (x1.Kind = 3)) fun undo1 =>
  bnd ((!decide (x1.Of = 0)) && (!undo1)) fun v1 =>
  Option.bind (α := Bool) (
   bif v1 then (
    some v1)
   else (
    bnd ((!decide (x1.Id = Str.nil)) && undo1) fun v2 =>
    bif v2 then (
     some v2)
    else (
     bnd (((!decide (x1.Field = Str.nil)) || (!decide (x1.Value = Str.nil))) && (!set1)) fun v3 =>
     some v3))) fun j_5 =>
  bif j_5 then (
   some 2)
  else (
   Option.bind (gd ((!undo1)) (edit_isName x1.Id)) fun r1 =>
   bnd ((!undo1) && (!r1)) fun v4 =>
   Option.bind (α := Bool) (
    bif v4 then (
     some v4)
    else (
     Option.bind (gd (set1) (edit_isName x1.Field)) fun r2 =>
     bnd (set1 && (!r2)) fun v5 =>
     some v5)) fun j_13 =>
   bif j_13 then (
    some 5)
   else (
    bindR (σ := Unit) (ρ := Int) (
     bif set1 then (
      Option.bind (shape_CheckText x1.Value) fun e1 =>
      bif !decide (e1 = 0) then (
       some (Res.ab e1))
      else (
       some (Res.nx ())))
     else (
      some (Res.nx ()))) fun j_18 =>
    bif undo1 && ((decide (x1.Of < 1)) || (decide ((W (x1.Stamp.No - 1)) < x1.Of))) then (
     some 10)
    else (
     some 0))))

noncomputable def edit_Check_L1 (l1 : (List DOp)) (i : Int) (s : Unit) : Option (Res Unit (Res Unit Int)) :=
 need (inR l1 i) <|
 bnd (gx l1 i) fun v1 =>
 bnd ((⟨(⟨(0 : Int), Str.nil, (0 : Int)⟩ : Stamp), (0 : Int), Str.nil, Str.nil, Str.nil, (0 : Int)⟩ : DOp)) fun v2 =>
 need ((decide (0 < i)) = true → inR l1 (W (i - 1))) <|
 Option.bind (α := DOp) (
  bif (decide (0 < i)) && (decide ((((gx l1 (W (i - 1))).Stamp).Site) = v1.Stamp.Site)) then (
   need (inR l1 (W (i - 1))) <|
   bnd (gx l1 (W (i - 1))) fun v3 =>
   some v3)
  else (
   some v2)) fun j_10 =>
 Option.bind (edit_isName v1.Stamp.Site) fun r1 =>
 bif !r1 then (
  some (Res.ab (Res.ab 5)))
 else (
  need ((decide (0 < i)) = true → inR l1 (W (i - 1))) <|
  Option.bind (gd ((decide (0 < i))) (edit_order (gx l1 (W (i - 1))) v1)) fun r2 =>
  bif (decide (0 < i)) && (decide (0 ≤ r2)) then (
   some (Res.ab (Res.ab 7)))
  else (
   bnd (!decide (v1.Stamp.No = (W (j_10.Stamp.No + 1)))) fun v4 =>
   Option.bind (α := Bool) (
    bif v4 then (
     some v4)
    else (
     bnd ((decide (v1.Stamp.Time < 1)) || (decide (1000000000 < v1.Stamp.Time))) fun v5 =>
     some v5)) fun j_20 =>
   bif j_20 then (
    some (Res.ab (Res.ab 3)))
   else (
    bif decide (v1.Stamp.Time ≤ j_10.Stamp.Time) then (
     some (Res.ab (Res.ab 7)))
    else (
     Option.bind (edit_checkBody v1) fun e1 =>
     bif !decide (e1 = 0) then (
      some (Res.ab (Res.ab e1)))
     else (
      some (Res.nx ()))))))

/-- edit.Check -/
noncomputable def edit_Check (l1 : (List DOp)) : Option Int :=
 bif decide (2000 < (l1.length : Int)) then (
  some 4)
 else (
  bindR (σ := Unit) (ρ := Int) (
   rforE (l1.length : Int) (edit_Check_L1 l1) (fun s => Res.nx s) ()) fun j_2 =>
  some 0)

noncomputable def edit_Numbers_L1 (l1 : (List Int)) (i : Int) (s : (List Str)) : Option (List Str) :=
 need (inR l1 i) <|
 Option.bind (strconv_Itoa (gx l1 i)) fun r1 =>
 need (room (s.length + [r1].length)) <|
 some (s ++ [r1])

/-- edit.Numbers -/
noncomputable def edit_Numbers (l1 : (List Int)) : Option Str :=
 Option.bind (α := (List Str)) (
  rfor (l1.length : Int) (edit_Numbers_L1 l1) ([] : List Str)) fun j_1 =>
 Option.bind (strings_Join j_1 (⟨[32]⟩ : Str)) fun r2 =>
 some r2

noncomputable def edit_Print_L1 (l1 : (List DOp)) (i : Int) (s : Str) : Option Str :=
 need (inR l1 i) <|
 bnd (gx l1 i) fun v1 =>
 need ((v1.Stamp.Site.b.length : Int) + (⟨[32]⟩ : Str).b.length ≤ 9223372036854775807) <|
 Option.bind (edit_Numbers [v1.Stamp.No, v1.Stamp.Time]) fun r1 =>
 need (((⟨v1.Stamp.Site.b ++ (⟨[32]⟩ : Str).b⟩ : Str).b.length : Int) + r1.b.length ≤ 9223372036854775807) <|
 Option.bind (strings_Builder_WriteString s (⟨(⟨v1.Stamp.Site.b ++ (⟨[32]⟩ : Str).b⟩ : Str).b ++ r1.b⟩ : Str)) fun r2 =>
 Option.bind (α := Str) (
  bif decide (v1.Kind = 1) then (
   need (((⟨[32, 115, 101, 116, 32]⟩ : Str).b.length : Int) + v1.Id.b.length ≤ 9223372036854775807) <|
   need (((⟨(⟨[32, 115, 101, 116, 32]⟩ : Str).b ++ v1.Id.b⟩ : Str).b.length : Int) + (⟨[32]⟩ : Str).b.length ≤ 9223372036854775807) <|
   need (((⟨(⟨(⟨[32, 115, 101, 116, 32]⟩ : Str).b ++ v1.Id.b⟩ : Str).b ++ (⟨[32]⟩ : Str).b⟩ : Str).b.length : Int) + v1.Field.b.length ≤ 9223372036854775807) <|
   need (((⟨(⟨(⟨(⟨[32, 115, 101, 116, 32]⟩ : Str).b ++ v1.Id.b⟩ : Str).b ++ (⟨[32]⟩ : Str).b⟩ : Str).b ++ v1.Field.b⟩ : Str).b.length : Int) + (⟨[32]⟩ : Str).b.length ≤ 9223372036854775807) <|
   Option.bind (edit_Quoted v1.Value) fun r3 =>
   need (((⟨(⟨(⟨(⟨(⟨[32, 115, 101, 116, 32]⟩ : Str).b ++ v1.Id.b⟩ : Str).b ++ (⟨[32]⟩ : Str).b⟩ : Str).b ++ v1.Field.b⟩ : Str).b ++ (⟨[32]⟩ : Str).b⟩ : Str).b.length : Int) + r3.b.length ≤ 9223372036854775807) <|
   Option.bind (strings_Builder_WriteString r2 (⟨(⟨(⟨(⟨(⟨(⟨[32, 115, 101, 116, 32]⟩ : Str).b ++ v1.Id.b⟩ : Str).b ++ (⟨[32]⟩ : Str).b⟩ : Str).b ++ v1.Field.b⟩ : Str).b ++ (⟨[32]⟩ : Str).b⟩ : Str).b ++ r3.b⟩ : Str)) fun r4 =>
   some r4)
  else (
   bif decide (v1.Kind = 2) then (
    need (((⟨[32, 100, 114, 111, 112, 32]⟩ : Str).b.length : Int) + v1.Id.b.length ≤ 9223372036854775807) <|
    Option.bind (strings_Builder_WriteString r2 (⟨(⟨[32, 100, 114, 111, 112, 32]⟩ : Str).b ++ v1.Id.b⟩ : Str)) fun r5 =>
    some r5)
   else (
    Option.bind (edit_Numbers [v1.Of]) fun r6 =>
    need (((⟨[32, 117, 110, 100, 111, 32]⟩ : Str).b.length : Int) + r6.b.length ≤ 9223372036854775807) <|
    Option.bind (strings_Builder_WriteString r2 (⟨(⟨[32, 117, 110, 100, 111, 32]⟩ : Str).b ++ r6.b⟩ : Str)) fun r7 =>
    some r7))) fun j_14 =>
 Option.bind (strings_Builder_WriteString j_14 (⟨[10]⟩ : Str)) fun r8 =>
 some r8

/-- edit.Print -/
noncomputable def edit_Print (l1 : (List DOp)) : Option (Str × Int) :=
 Option.bind (edit_Check l1) fun e1 =>
 bif !decide (e1 = 0) then (
  some (Str.nil, e1))
 else (
  bnd ((⟨[]⟩ : Str)) fun b1 =>
  Option.bind (α := Str) (
   rfor (l1.length : Int) (edit_Print_L1 l1) b1) fun j_4 =>
  Option.bind (strings_Builder_Len j_4) fun r9 =>
  bif decide (1048576 < r9.1) then (
   some (Str.nil, 4))
  else (
   Option.bind (strings_Builder_String r9.2) fun r10 =>
   some (r10, 0)))

/-- drawref1.byOp -/
noncomputable def ref_byOp (a1 : DOp) (b1 : DOp) : Option Int :=
 Option.bind (strings_Compare a1.Stamp.Site b1.Stamp.Site) fun r1 =>
 Option.bind (cmp_Compare_int a1.Stamp.No b1.Stamp.No) fun r2 =>
 Option.bind (cmp_Or_int [r1, r2]) fun r3 =>
 some r3

noncomputable def ref_NameOf_L1 (s1 : Str) (i : Int) (s : Unit) : Option (Res Unit (Res Unit Bool)) :=
 need (inR s1.b i) <|
 bnd ((⟨((gx s1.b i).toNat : Int)⟩ : KI .u8)) fun c1 =>
 bif (!((decide ((⟨97⟩ : KI .u8).n ≤ c1.n)) && (decide (c1.n ≤ (⟨122⟩ : KI .u8).n)))) && ((decide (i = 0)) || ((!((decide ((⟨48⟩ : KI .u8).n ≤ c1.n)) && (decide (c1.n ≤ (⟨57⟩ : KI .u8).n)))) && (!decide (c1.n = (⟨45⟩ : KI .u8).n)))) then (
  some (Res.ab (Res.ab false)))
 else (
  some (Res.nx ()))

/-- drawref1.NameOf -/
noncomputable def ref_NameOf (s1 : Str) : Option Bool :=
 bindR (σ := Unit) (ρ := Bool) (
  rforE (s1.b.length : Int) (ref_NameOf_L1 s1) (fun s => Res.nx s) ()) fun j_1 =>
 some ((!decide (s1 = Str.nil)) && (decide ((s1.b.length : Int) ≤ 40)))

/-- drawref1.When -/
noncomputable def ref_When (is1 : Bool) (e1 : Int) : Option Int :=
 bif is1 then (
  some e1)
 else (
  some 0)

/-- drawref1.In -/
noncomputable def ref_In (n1 : Int) (low1 : Int) (high1 : Int) : Option Bool :=
 some ((decide (low1 ≤ n1)) && (decide (n1 ≤ high1)))

noncomputable def ref_First_L1 (l1 : (List Int)) (i : Int) (s : Unit) : Option (Res Unit (Res Unit Int)) :=
 need (inR l1 i) <|
 bnd (gx l1 i) fun e1 =>
 bif !decide (e1 = 0) then (
  some (Res.ab (Res.ab e1)))
 else (
  some (Res.nx ()))

/-- drawref1.First -/
noncomputable def ref_First (l1 : (List Int)) : Option Int :=
 bindR (σ := Unit) (ρ := Int) (
  rforE (l1.length : Int) (ref_First_L1 l1) (fun s => Res.nx s) ()) fun j_1 =>
 some 0

noncomputable def ref_TextError_L1 (s1 : Str) (i : Int) (s : Bool) : Option Bool :=
 need (s = false → inR s1.b i) <|
 need (s = false → (decide ((⟨((gx s1.b i).toNat : Int)⟩ : KI .u8).n < (⟨32⟩ : KI .u8).n)) = true → inR s1.b i) <|
 need ((s || ((decide ((⟨((gx s1.b i).toNat : Int)⟩ : KI .u8).n < (⟨32⟩ : KI .u8).n)) && (!decide ((⟨((gx s1.b i).toNat : Int)⟩ : KI .u8).n = (⟨10⟩ : KI .u8).n)))) = false → inR s1.b i) <|
 bnd ((s || ((decide ((⟨((gx s1.b i).toNat : Int)⟩ : KI .u8).n < (⟨32⟩ : KI .u8).n)) && (!decide ((⟨((gx s1.b i).toNat : Int)⟩ : KI .u8).n = (⟨10⟩ : KI .u8).n)))) || (decide ((⟨((gx s1.b i).toNat : Int)⟩ : KI .u8).n = (⟨127⟩ : KI .u8).n))) fun bad2 =>
 some bad2

/-- drawref1.TextError -/
noncomputable def ref_TextError (s1 : Str) : Option Int :=
 Option.bind (utf8_ValidString s1) fun r1 =>
 bnd (!r1) fun bad1 =>
 Option.bind (α := Bool) (
  rfor (s1.b.length : Int) (ref_TextError_L1 s1) bad1) fun j_3 =>
 Option.bind (ref_When (decide (1000 < (s1.b.length : Int))) 4) fun r2 =>
 Option.bind (ref_When j_3 2) fun r3 =>
 Option.bind (ref_First [r2, r3]) fun r4 =>
 some r4

/-- drawref1.opError -/
noncomputable def ref_opError (x1 : DOp) : Option Int :=
 Option.bind (ref_In x1.Kind 1 3) fun r1 =>
 bif !r1 then (
  some 1)
 else (
  bif (((!decide (x1.Kind = 1)) && ((!decide (x1.Field = Str.nil)) || (!decide (x1.Value = Str.nil)))) || ((decide (x1.Kind = 3)) && (!decide (x1.Id = Str.nil)))) || ((!decide (x1.Kind = 3)) && (!decide (x1.Of = 0))) then (
   some 2)
  else (
   bif decide (x1.Kind = 3) then (
    Option.bind (ref_In x1.Of 1 (W (x1.Stamp.No - 1))) fun r2 =>
    Option.bind (ref_When (!r2) 10) fun r3 =>
    some r3)
   else (
    Option.bind (ref_NameOf x1.Id) fun r4 =>
    Option.bind (gd (!(!r4) && (decide (x1.Kind = 1))) (ref_NameOf x1.Field)) fun r5 =>
    Option.bind (ref_When ((!r4) || ((decide (x1.Kind = 1)) && (!r5))) 5) fun r6 =>
    Option.bind (ref_TextError x1.Value) fun r7 =>
    Option.bind (ref_First [r6, r7]) fun r8 =>
    some r8)))

noncomputable def ref_OpsError_L1 (l1 : (List DOp)) (i : Int) (s : DOp) : Option (Res DOp (Res DOp Int)) :=
 need (inR l1 i) <|
 bnd (gx l1 i) fun v2 =>
 Option.bind (α := DOp) (
  bif !decide (v2.Stamp.Site = s.Stamp.Site) then (
   some ({ { s with Stamp := { s.Stamp with No := 0 } } with Stamp := { ({ s with Stamp := { s.Stamp with No := 0 } }).Stamp with Time := 0 } }))
  else (
   some s)) fun j_9 =>
 Option.bind (gd ((decide (0 < i))) (ref_byOp v2 j_9)) fun r1 =>
 Option.bind (α := Bool) (
  bif (!decide (v2.Stamp.Site = j_9.Stamp.Site)) && (decide (0 < i)) then (
   need (inR l1 (W (i - 1))) <|
   some (Op.bytesLess v2.Stamp.Site.b (((gx l1 (W (i - 1))).Stamp).Site).b))
  else (
   some ((decide (0 < i)) && (decide (r1 ≤ 0))))) fun j_12 =>
 Option.bind (ref_NameOf v2.Stamp.Site) fun r2 =>
 Option.bind (ref_When (!r2) 5) fun r3 =>
 Option.bind (ref_When j_12 7) fun r4 =>
 Option.bind (gd (!(!decide (v2.Stamp.No = (W (j_9.Stamp.No + 1))))) (ref_In v2.Stamp.Time 1 1000000000)) fun r5 =>
 Option.bind (ref_When ((!decide (v2.Stamp.No = (W (j_9.Stamp.No + 1)))) || (!r5)) 3) fun r6 =>
 Option.bind (ref_When (decide (v2.Stamp.Time ≤ j_9.Stamp.Time)) 7) fun r7 =>
 Option.bind (ref_opError v2) fun r8 =>
 Option.bind (ref_First [r3, r4, r6, r7, r8]) fun e1 =>
 bif !decide (e1 = 0) then (
  some (Res.ab (Res.ab e1)))
 else (
  some (Res.nx v2))

/-- drawref1.OpsError -/
noncomputable def ref_OpsError (l1 : (List DOp)) : Option Int :=
 bif decide (2000 < (l1.length : Int)) then (
  some 4)
 else (
  bnd ((⟨(⟨(0 : Int), Str.nil, (0 : Int)⟩ : Stamp), (0 : Int), Str.nil, Str.nil, Str.nil, (0 : Int)⟩ : DOp)) fun v1 =>
  bindR (σ := DOp) (ρ := Int) (
   rforE (l1.length : Int) (ref_OpsError_L1 l1) (fun s => Res.nx s) v1) fun j_3 =>
  some 0)

noncomputable def ref_numbers_L1 (l1 : (List Int)) (i : Int) (s : (List Str)) : Option (List Str) :=
 need (inR l1 i) <|
 Option.bind (strconv_Itoa (gx l1 i)) fun r1 =>
 need (room (s.length + [r1].length)) <|
 some (s ++ [r1])

/-- drawref1.numbers -/
noncomputable def ref_numbers (l1 : (List Int)) : Option Str :=
 Option.bind (α := (List Str)) (
  rfor (l1.length : Int) (ref_numbers_L1 l1) ([] : List Str)) fun j_1 =>
 Option.bind (strings_Join j_1 (⟨[32]⟩ : Str)) fun r2 =>
 some r2

/-- drawref1.OpLine -/
noncomputable def ref_OpLine (x1 : DOp) : Option Str :=
 need ((x1.Stamp.Site.b.length : Int) + (⟨[32]⟩ : Str).b.length ≤ 9223372036854775807) <|
 Option.bind (ref_numbers [x1.Stamp.No, x1.Stamp.Time]) fun r1 =>
 need (((⟨x1.Stamp.Site.b ++ (⟨[32]⟩ : Str).b⟩ : Str).b.length : Int) + r1.b.length ≤ 9223372036854775807) <|
 need (((⟨(⟨x1.Stamp.Site.b ++ (⟨[32]⟩ : Str).b⟩ : Str).b ++ r1.b⟩ : Str).b.length : Int) + (⟨[32]⟩ : Str).b.length ≤ 9223372036854775807) <|
 bnd ((⟨(⟨(⟨x1.Stamp.Site.b ++ (⟨[32]⟩ : Str).b⟩ : Str).b ++ r1.b⟩ : Str).b ++ (⟨[32]⟩ : Str).b⟩ : Str)) fun s1 =>
 bif decide (x1.Kind = 1) then (
  need ((s1.b.length : Int) + (⟨[115, 101, 116, 32]⟩ : Str).b.length ≤ 9223372036854775807) <|
  need (((⟨s1.b ++ (⟨[115, 101, 116, 32]⟩ : Str).b⟩ : Str).b.length : Int) + x1.Id.b.length ≤ 9223372036854775807) <|
  need (((⟨(⟨s1.b ++ (⟨[115, 101, 116, 32]⟩ : Str).b⟩ : Str).b ++ x1.Id.b⟩ : Str).b.length : Int) + (⟨[32]⟩ : Str).b.length ≤ 9223372036854775807) <|
  need (((⟨(⟨(⟨s1.b ++ (⟨[115, 101, 116, 32]⟩ : Str).b⟩ : Str).b ++ x1.Id.b⟩ : Str).b ++ (⟨[32]⟩ : Str).b⟩ : Str).b.length : Int) + x1.Field.b.length ≤ 9223372036854775807) <|
  need (((⟨(⟨(⟨(⟨s1.b ++ (⟨[115, 101, 116, 32]⟩ : Str).b⟩ : Str).b ++ x1.Id.b⟩ : Str).b ++ (⟨[32]⟩ : Str).b⟩ : Str).b ++ x1.Field.b⟩ : Str).b.length : Int) + (⟨[32]⟩ : Str).b.length ≤ 9223372036854775807) <|
  Option.bind (ref_Quote x1.Value) fun r2 =>
  need (((⟨(⟨(⟨(⟨(⟨s1.b ++ (⟨[115, 101, 116, 32]⟩ : Str).b⟩ : Str).b ++ x1.Id.b⟩ : Str).b ++ (⟨[32]⟩ : Str).b⟩ : Str).b ++ x1.Field.b⟩ : Str).b ++ (⟨[32]⟩ : Str).b⟩ : Str).b.length : Int) + r2.b.length ≤ 9223372036854775807) <|
  some (⟨(⟨(⟨(⟨(⟨(⟨s1.b ++ (⟨[115, 101, 116, 32]⟩ : Str).b⟩ : Str).b ++ x1.Id.b⟩ : Str).b ++ (⟨[32]⟩ : Str).b⟩ : Str).b ++ x1.Field.b⟩ : Str).b ++ (⟨[32]⟩ : Str).b⟩ : Str).b ++ r2.b⟩ : Str))
 else (
  bif decide (x1.Kind = 2) then (
   need ((s1.b.length : Int) + (⟨[100, 114, 111, 112, 32]⟩ : Str).b.length ≤ 9223372036854775807) <|
   need (((⟨s1.b ++ (⟨[100, 114, 111, 112, 32]⟩ : Str).b⟩ : Str).b.length : Int) + x1.Id.b.length ≤ 9223372036854775807) <|
   some (⟨(⟨s1.b ++ (⟨[100, 114, 111, 112, 32]⟩ : Str).b⟩ : Str).b ++ x1.Id.b⟩ : Str))
  else (
   need ((s1.b.length : Int) + (⟨[117, 110, 100, 111, 32]⟩ : Str).b.length ≤ 9223372036854775807) <|
   Option.bind (strconv_Itoa x1.Of) fun r3 =>
   need (((⟨s1.b ++ (⟨[117, 110, 100, 111, 32]⟩ : Str).b⟩ : Str).b.length : Int) + r3.b.length ≤ 9223372036854775807) <|
   some (⟨(⟨s1.b ++ (⟨[117, 110, 100, 111, 32]⟩ : Str).b⟩ : Str).b ++ r3.b⟩ : Str)))

noncomputable def ref_OpsText_L1 (l1 : (List DOp)) (i : Int) (s : Str) : Option Str :=
 need (inR l1 i) <|
 bnd (gx l1 i) fun v1 =>
 Option.bind (ref_OpLine v1) fun r1 =>
 need ((r1.b.length : Int) + (⟨[10]⟩ : Str).b.length ≤ 9223372036854775807) <|
 need ((s.b.length : Int) + (⟨r1.b ++ (⟨[10]⟩ : Str).b⟩ : Str).b.length ≤ 9223372036854775807) <|
 bnd ((⟨s.b ++ (⟨r1.b ++ (⟨[10]⟩ : Str).b⟩ : Str).b⟩ : Str)) fun s1 =>
 some s1

/-- drawref1.OpsText -/
noncomputable def ref_OpsText (l1 : (List DOp)) : Option Str :=
 Option.bind (α := Str) (
  rfor (l1.length : Int) (ref_OpsText_L1 l1) Str.nil) fun j_1 =>
 some j_1

/-- drawlaw1.edits -/
noncomputable def law_edits  : Option Bool :=
 Option.bind (edit_Check ([] : (List DOp))) fun r1 =>
 Option.bind (gd ((decide (r1 = 0))) (edit_Check [(⟨(⟨(0 : Int), Str.nil, (0 : Int)⟩ : Stamp), (0 : Int), Str.nil, Str.nil, Str.nil, (0 : Int)⟩ : DOp)])) fun r2 =>
 some ((decide (r1 = 0)) && (decide (r2 = 5)))

/-- drawlaw1.OpsPrint$1 -/
noncomputable def law_OpsPrint_1 (c0_1 : (List DOp)) : Option Str :=
 Option.bind (ref_OpsText c0_1) fun r1 =>
 some r1

/-- drawlaw1.is[string] -/
noncomputable def law_is_string (got1 : Str) (e1 : Int) (want1 : Int) (right1 : (Option Str)) : Option Bool :=
 bif !decide (want1 = 0) then (
  some ((decide (got1 = Str.nil)) && (decide (e1 = want1))))
 else (
  Option.bind (gd ((decide (e1 = 0))) (right1)) fun r1 =>
  some ((decide (e1 = 0)) && (decide (got1 = r1))))

noncomputable def slices_Index_string_L1 (s1 : (List Str)) (v1 : Str) (i : Int) (s : Unit) : Option (Res Unit (Res Unit Int)) :=
 need (inR s1 i) <|
 bif decide (v1 = (gx s1 i)) then (
  some (Res.ab (Res.ab i)))
 else (
  some (Res.nx ()))

/-- slices.Index[[]string,string] -/
noncomputable def slices_Index_string (s1 : (List Str)) (v1 : Str) : Option Int :=
 bindR (σ := Unit) (ρ := Int) (
  rforE (s1.length : Int) (slices_Index_string_L1 s1 v1) (fun s => Res.nx s) ()) fun j_1 =>
 some (-1)

/-- slices.Contains[[]string,string] -/
noncomputable def slices_Contains_string (s1 : (List Str)) (v1 : Str) : Option Bool :=
 Option.bind (slices_Index_string s1 v1) fun r1 =>
 some (decide (0 ≤ r1))

/-- edit.natural -/
noncomputable def edit_natural (s1 : Str) : Option (Int × Bool) :=
 Option.bind (strconv_Atoi s1) fun r1 =>
 Option.bind (gd ((((!r1.2.is) && (decide (0 ≤ r1.1))) && (decide ((s1.b.length : Int) ≤ 10)))) (strconv_Itoa r1.1)) fun r2 =>
 some (r1.1, (((!r1.2.is) && (decide (0 ≤ r1.1))) && (decide ((s1.b.length : Int) ≤ 10))) && (decide (r2 = s1)))

noncomputable def edit_Unquoted_L1 (s1 : Str) (s2_ : ((List (KI .u8)) × Int)) : Option (Step ((List (KI .u8)) × Int) (Res Unit (Str × Bool))) :=
 bif decide (s2_.2 < (s1.b.length : Int)) then (
  need (inR s1.b s2_.2) <|
  bnd ((⟨((gx s1.b s2_.2).toNat : Int)⟩ : KI .u8)) fun c1 =>
  bindR (σ := (Int × (KI .u8))) (ρ := (Step ((List (KI .u8)) × Int) (Res Unit (Str × Bool)))) (
   bif decide (c1.n = (⟨34⟩ : KI .u8).n) then (
    need ((decide (s2_.2 = (W ((s1.b.length : Int) - 1)))) = true → inR s1.b 0) <|
    some (Res.ab (Step.done (Res.ab (strB s2_.1, (decide (s2_.2 = (W ((s1.b.length : Int) - 1)))) && (decide ((⟨((gx s1.b 0).toNat : Int)⟩ : KI .u8).n = (⟨34⟩ : KI .u8).n)))))))
   else (
    bif decide (c1.n = (⟨10⟩ : KI .u8).n) then (
     some (Res.ab (Step.done (Res.ab (Str.nil, false)))))
    else (
     bif decide (c1.n = (⟨92⟩ : KI .u8).n) then (
      bnd (W (s2_.2 + 1)) fun i1 =>
      bif decide (i1 = (s1.b.length : Int)) then (
       some (Res.ab (Step.done (Res.ab (Str.nil, false)))))
      else (
       need (inR s1.b i1) <|
       Option.bind (strings_IndexByte (⟨[34, 92, 110]⟩ : Str) (⟨((gx s1.b i1).toNat : Int)⟩ : KI .u8)) fun k1 =>
       bif decide (k1 < 0) then (
        some (Res.ab (Step.done (Res.ab (Str.nil, false)))))
       else (
        need (inR (⟨[34, 92, 10]⟩ : Str).b k1) <|
        bnd ((⟨((gx (⟨[34, 92, 10]⟩ : Str).b k1).toNat : Int)⟩ : KI .u8)) fun c2 =>
        some (Res.nx (i1, c2)))))
     else (
      some (Res.nx (s2_.2, c1)))))) fun j_6 =>
  need (room (s2_.1.length + [j_6.2].length)) <|
  bnd (s2_.1 ++ [j_6.2]) fun b1 =>
  bnd (W (j_6.1 + 1)) fun i2 =>
  some (Step.again (b1, i2)))
 else (
  some (Step.done (Res.nx ())))

/-- edit.Unquoted -/
noncomputable def edit_Unquoted (s1 : Str) : Option (Str × Bool) :=
 bindR (σ := Unit) (ρ := (Str × Bool)) (
  loop (edit_Unquoted_L1 s1) (([] : List (KI .u8)), 1)) fun j_1 =>
 some (Str.nil, false)

/-- edit.readOp -/
noncomputable def edit_readOp (line1 : Str) : Option (DOp × Bool) :=
 bnd ((⟨(⟨(0 : Int), Str.nil, (0 : Int)⟩ : Stamp), (0 : Int), Str.nil, Str.nil, Str.nil, (0 : Int)⟩ : DOp)) fun x1 =>
 Option.bind (strings_SplitN line1 (⟨[32]⟩ : Str) 7) fun w1 =>
 Option.bind (gd (!(decide ((w1.length : Int) < 5))) (slices_Contains_string w1 Str.nil)) fun r1 =>
 bif (decide ((w1.length : Int) < 5)) || r1 then (
  some (x1, false))
 else (
  need (inR w1 0) <|
  bnd (gx w1 0) fun v1 =>
  bnd ({ x1 with Stamp := { x1.Stamp with Site := v1 } }) fun x2 =>
  need (inR w1 1) <|
  Option.bind (edit_natural (gx w1 1)) fun r2 =>
  bnd ({ x2 with Stamp := { x2.Stamp with No := r2.1 } }) fun x3 =>
  need (inR w1 2) <|
  Option.bind (edit_natural (gx w1 2)) fun r3 =>
  bnd ({ x3 with Stamp := { x3.Stamp with Time := r3.1 } }) fun x4 =>
  bif (!r2.2) || (!r3.2) then (
   some (x4, false))
  else (
   Option.bind (α := (Bool × DOp)) (
    need (inR w1 3) <|
    bif (decide ((gx w1 3) = (⟨[115, 101, 116]⟩ : Str))) && (decide ((w1.length : Int) = 7)) then (
     need (inR w1 4) <|
     bnd (gx w1 4) fun v2 =>
     need (inR w1 5) <|
     bnd (gx w1 5) fun v3 =>
     bnd ({ { { x4 with Kind := 1 } with Id := v2 } with Field := v3 }) fun x5 =>
     need (inR w1 6) <|
     Option.bind (edit_Unquoted (gx w1 6)) fun r4 =>
     some (r4.2, { x5 with Value := r4.1 }))
    else (
     need (inR w1 3) <|
     bif (decide ((gx w1 3) = (⟨[100, 114, 111, 112]⟩ : Str))) && (decide ((w1.length : Int) = 5)) then (
      need (inR w1 4) <|
      bnd (gx w1 4) fun v4 =>
      some (true, { { x4 with Kind := 2 } with Id := v4 }))
     else (
      need (inR w1 3) <|
      bif (decide ((gx w1 3) = (⟨[117, 110, 100, 111]⟩ : Str))) && (decide ((w1.length : Int) = 5)) then (
       bnd ({ x4 with Kind := 3 }) fun x6 =>
       need (inR w1 4) <|
       Option.bind (edit_natural (gx w1 4)) fun r5 =>
       some (r5.2, { x6 with Of := r5.1 }))
      else (
       some (false, x4))))) fun j_15 =>
   some (j_15.2, j_15.1)))

noncomputable def edit_Parse_L1  (s3_ : (Str × (List DOp) × Int)) : Option (Step (Str × (List DOp) × Int) (Res (List DOp) ((List DOp) × Int × Int))) :=
 bif !decide (s3_.1 = Str.nil) then (
  Option.bind (strings_Cut s3_.1 (⟨[10]⟩ : Str)) fun r1 =>
  Option.bind (edit_readOp r1.1) fun r2 =>
  bif (!r1.2.2) || (!r2.2) then (
   some (Step.done (Res.ab (([] : (List DOp)), s3_.2.2, 8))))
  else (
   need (room (s3_.2.1.length + [r2.1].length)) <|
   bnd (s3_.2.1 ++ [r2.1]) fun out1 =>
   bnd (W (s3_.2.2 + 1)) fun at1 =>
   some (Step.again (r1.2.1, out1, at1))))
 else (
  some (Step.done (Res.nx s3_.2.1)))

/-- edit.Parse -/
noncomputable def edit_Parse (text1 : Str) : Option ((List DOp) × Int × Int) :=
 bif decide (1048576 < (text1.b.length : Int)) then (
  some (([] : (List DOp)), 0, 4))
 else (
  bindR (σ := (List DOp)) (ρ := ((List DOp) × Int × Int)) (
   loop edit_Parse_L1 (text1, ([] : List DOp), 0)) fun j_2 =>
  Option.bind (edit_Check j_2) fun e1 =>
  bif !decide (e1 = 0) then (
   some (([] : (List DOp)), 0, e1))
  else (
   some (j_2, 0, 0)))

noncomputable def slices_Equal_Op_L1 (s1_1 : (List DOp)) (s2_1 : (List DOp)) (i : Int) (s : Unit) : Option (Res Unit (Res Unit Bool)) :=
 need (inR s1_1 i) <|
 need (inR s2_1 i) <|
 bif !decide ((gx s1_1 i) = (gx s2_1 i)) then (
  some (Res.ab (Res.ab false)))
 else (
  some (Res.nx ()))

/-- slices.Equal[[]api.Op,api.Op] -/
noncomputable def slices_Equal_Op (s1_1 : (List DOp)) (s2_1 : (List DOp)) : Option Bool :=
 bif !decide ((s1_1.length : Int) = (s2_1.length : Int)) then (
  some false)
 else (
  bindR (σ := Unit) (ρ := Bool) (
   rforE (s1_1.length : Int) (slices_Equal_Op_L1 s1_1 s2_1) (fun s => Res.nx s) ()) fun j_2 =>
  some true)

/-- drawlaw1.OpsPrint -/
noncomputable def law_OpsPrint (l1 : (List DOp)) (text1 : Str) : Option Bool :=
 Option.bind (edit_Print l1) fun r1 =>
 Option.bind (ref_OpsError l1) fun want1 =>
 Option.bind (α := Int) (
  bif decide (want1 = 0) then (
   Option.bind (ref_OpsText l1) fun r2 =>
   Option.bind (ref_When (decide (1048576 < (r2.b.length : Int))) 4) fun want2 =>
   some want2)
  else (
   some want1)) fun j_3 =>
 Option.bind (law_edits) fun r3 =>
 Option.bind (gd (!(!r3)) (law_is_string r1.1 r1.2 j_3 (law_OpsPrint_1 l1))) fun r4 =>
 bif (!r3) || (!r4) then (
  some false)
 else (
  bindR (σ := Unit) (ρ := Bool) (
   bif decide (j_3 = 0) then (
    Option.bind (edit_Parse r1.1) fun r5 =>
    Option.bind (gd (!((!decide (r5.2.2 = 0)) || (!decide (r5.2.1 = 0)))) (slices_Equal_Op r5.1 l1)) fun r6 =>
    bif ((!decide (r5.2.2 = 0)) || (!decide (r5.2.1 = 0))) || (!r6) then (
     some (Res.ab false))
    else (
     some (Res.nx ())))
   else (
    some (Res.nx ()))) fun j_10 =>
  Option.bind (edit_Parse text1) fun r7 =>
  bif decide (r7.2.2 = 0) then (
   Option.bind (gd ((decide (r7.2.1 = 0))) (ref_OpsError r7.1)) fun r8 =>
   Option.bind (gd (((decide (r7.2.1 = 0)) && (decide (r8 = 0)))) (ref_OpsText r7.1)) fun r9 =>
   some (((decide (r7.2.1 = 0)) && (decide (r8 = 0))) && (decide (r9 = text1))))
  else (
   Option.bind (gd ((decide ((r7.1.length : Int) = 0))) (strings_Count text1 (⟨[10]⟩ : Str))) fun r10 =>
   Option.bind (gd ((decide ((r7.1.length : Int) = 0))) (ref_In r7.2.1 0 r10)) fun r11 =>
   some (((decide ((r7.1.length : Int) = 0)) && r11) && ((decide (r7.2.2 = 8)) || (decide (r7.2.1 = 0))))))


end Go.DB
