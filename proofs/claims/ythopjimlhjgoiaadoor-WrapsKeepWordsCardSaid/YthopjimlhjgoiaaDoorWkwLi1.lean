/-
  What the functions compute, as plain functions (printed by a program of one's own).
-/
import Derived.Test.YthopjimlhjgoiaaDoorWkwTy
set_option maxRecDepth 100000
set_option linter.unusedSimpArgs false
set_option linter.unusedVariables false
namespace Go.DB
open Go Go.RowKit

/-- strings.ReplaceAll -/
noncomputable def strings_ReplaceAll (s old new : Str) : Option Str := need (s.b.length ≤ 1000000000 ∧ 1 ≤ old.b.length ∧ new.b.length ≤ 1000 ∧ (replS s old new).b.length ≤ 1000000000) (some (replS s old new))

/-- strings.Join -/
noncomputable def strings_Join (l : List Str) (sep : Str) : Option Str := need (l.length ≤ 1000000000 ∧ (joinS l sep).b.length ≤ 1000000000) (some (joinS l sep))

/-- strings.Fields -/
noncomputable def strings_Fields (s : Str) : Option (List Str) := need (s.b.length ≤ 1000000000) (some (fieldsS s))

/-- strings.IndexByte -/
noncomputable def strings_IndexByte (s : Str) (c : KI .u8) : Option Int := need ((s.b.length : Int) < 4611686018427387904) (some (indexByteS s c))

/-- strings.Contains (of one byte) -/
noncomputable def strings_Contains (s sep : Str) : Option Bool := need (sep.b.length = 1) (some (hasByte s (sep.b.headD 0)))

/-- unicode/utf8.ValidString -/
noncomputable def utf8_ValidString (s : Str) : Option Bool := some (validS s)

/-- unicode/utf8.RuneCountInString -/
noncomputable def utf8_RuneCountInString (s : Str) : Option Int := need ((s.b.length : Int) < 4611686018427387904) (some (runesS s))

/-- strings.Split -/
noncomputable def strings_Split (s sep : Str) : Option (List Str) := need ((s.b.length : Int) < 4294967281 ∧ sep.b ≠ []) (some (splitS s sep))

noncomputable def shape_CheckFont_L1 (v1 : (List Int)) (i : Int) (s : Unit) : Option (Res Unit (Res Unit Int)) :=
 need (inR v1 i) <|
 bnd (gx v1 i) fun n1 =>
 bif (decide (n1 < 1)) || (decide (200 < n1)) then (
  some (Res.ab (Res.ab 3)))
 else (
  some (Res.nx ()))

/-- shape.CheckFont -/
noncomputable def shape_CheckFont (f1 : Font) : Option Int :=
 bnd ([f1.Line, f1.Narrow, f1.Normal, f1.Wide]) fun v1 =>
 bindR (σ := Unit) (ρ := Int) (
  rforE (v1.length : Int) (shape_CheckFont_L1 v1) (fun s => Res.nx s) ()) fun j_2 =>
 bif (decide (f1.Normal < f1.Narrow)) || (decide (f1.Wide < f1.Normal)) then (
  some 7)
 else (
  some 0)

noncomputable def shape_CheckText_L1 (s1 : Str) (i : Int) (s : Unit) : Option (Res Unit (Res Unit Int)) :=
 need (inR s1.b i) <|
 need ((decide ((⟨((gx s1.b i).toNat : Int)⟩ : KI .u8).n < (⟨32⟩ : KI .u8).n)) = true → inR s1.b i) <|
 need (((decide ((⟨((gx s1.b i).toNat : Int)⟩ : KI .u8).n < (⟨32⟩ : KI .u8).n)) && (!decide ((⟨((gx s1.b i).toNat : Int)⟩ : KI .u8).n = (⟨10⟩ : KI .u8).n))) = false → inR s1.b i) <|
 bif ((decide ((⟨((gx s1.b i).toNat : Int)⟩ : KI .u8).n < (⟨32⟩ : KI .u8).n)) && (!decide ((⟨((gx s1.b i).toNat : Int)⟩ : KI .u8).n = (⟨10⟩ : KI .u8).n))) || (decide ((⟨((gx s1.b i).toNat : Int)⟩ : KI .u8).n = (⟨127⟩ : KI .u8).n)) then (
  some (Res.ab (Res.ab 2)))
 else (
  some (Res.nx ()))

/-- shape.CheckText -/
noncomputable def shape_CheckText (s1 : Str) : Option Int :=
 bif decide (1000 < (s1.b.length : Int)) then (
  some 4)
 else (
  Option.bind (utf8_ValidString s1) fun r1 =>
  bif !r1 then (
   some 2)
  else (
   bindR (σ := Unit) (ρ := Int) (
    rforE (s1.b.length : Int) (shape_CheckText_L1 s1) (fun s => Res.nx s) ()) fun j_4 =>
   some 0))

/-- shape.checkBoth -/
noncomputable def shape_checkBoth (f1 : Font) (s1 : Str) : Option Int :=
 Option.bind (shape_CheckFont f1) fun e1 =>
 bif !decide (e1 = 0) then (
  some e1)
 else (
  Option.bind (shape_CheckText s1) fun r1 =>
  some r1)

noncomputable def slices_IndexFunc_string_L1 (f1 : (Str → Option Bool)) (s1 : (List Str)) (i : Int) (s : Unit) : Option (Res Unit (Res Unit Int)) :=
 need (inR s1 i) <|
 Option.bind (f1 (gx s1 i)) fun r1 =>
 bif r1 then (
  some (Res.ab (Res.ab i)))
 else (
  some (Res.nx ()))

/-- slices.IndexFunc[[]string,string] -/
noncomputable def slices_IndexFunc_string (s1 : (List Str)) (f1 : (Str → Option Bool)) : Option Int :=
 bindR (σ := Unit) (ρ := Int) (
  rforE (s1.length : Int) (slices_IndexFunc_string_L1 f1 s1) (fun s => Res.nx s) ()) fun j_1 =>
 some (-1)

noncomputable def slices_DeleteFunc_string_L1 (del1 : (Str → Option Bool)) (s5_ : (Int × Int × (List Str))) : Option (Step (Int × Int × (List Str)) (Int × (List Str))) :=
 bif decide (s5_.2.1 < (s5_.2.2.length : Int)) then (
  Option.bind (α := (Int × (List Str))) (
   need (inR s5_.2.2 s5_.2.1) <|
   bnd (gx s5_.2.2 s5_.2.1) fun v1 =>
   Option.bind (del1 v1) fun r1 =>
   bif !r1 then (
    need (inR s5_.2.2 s5_.1) <|
    bnd (s5_.2.2.set s5_.1.toNat v1) fun s2 =>
    bnd (W (s5_.1 + 1)) fun i2 =>
    some (i2, s2))
   else (
    some (s5_.1, s5_.2.2))) fun j_7 =>
  bnd (W (s5_.2.1 + 1)) fun j2 =>
  some (Step.again (j_7.1, j2, j_7.2)))
 else (
  some (Step.done (s5_.1, s5_.2.2)))

/-- slices.DeleteFunc[[]string,string] -/
noncomputable def slices_DeleteFunc_string (s1 : (List Str)) (del1 : (Str → Option Bool)) : Option (List Str) :=
 Option.bind (slices_IndexFunc_string s1 del1) fun i1 =>
 bif decide (i1 = (-1)) then (
  some s1)
 else (
  bnd (W (i1 + 1)) fun j1 =>
  Option.bind (α := (Int × (List Str))) (
   loop (slices_DeleteFunc_string_L1 del1) (i1, j1, s1)) fun j_4 =>
  need (segR j_4.2.length j_4.1 (j_4.2.length : Int)) <|
  bnd (j_4.2.take j_4.1.toNat ++ List.replicate (j_4.2.length - j_4.1.toNat) Str.nil) fun s3 =>
  need (segR s3.length 0 j_4.1) <|
  bnd (seg s3 0 j_4.1) fun v2 =>
  some v2)

/-- shape.wordsOf$1 -/
noncomputable def shape_wordsOf_1 (w1 : Str) : Option Bool :=
 some (decide (w1 = Str.nil))

/-- shape.wordsOf -/
noncomputable def shape_wordsOf (part1 : Str) : Option (List Str) :=
 Option.bind (strings_Split part1 (⟨[32]⟩ : Str)) fun r1 =>
 Option.bind (slices_DeleteFunc_string r1 shape_wordsOf_1) fun r2 =>
 some r2

/-- unicode/utf8.ValidRune -/
noncomputable def utf8_ValidRune (r1 : (KI .i32)) : Option Bool :=
 bif (decide ((⟨0⟩ : KI .i32).n ≤ r1.n)) && (decide (r1.n < (⟨55296⟩ : KI .i32).n)) then (
  some true)
 else (
  bif (decide ((⟨57343⟩ : KI .i32).n < r1.n)) && (decide (r1.n ≤ (⟨1114111⟩ : KI .i32).n)) then (
   some true)
  else (
   some false))

noncomputable def strings_IndexRune_L1 (s1 : Str) (s5_ : Nat) : Option (Step Nat (Res Unit Int)) :=
 bnd (s1.next s5_) fun at1 =>
 bif decide (s5_ < s1.b.length) then (
  need (s5_ < s1.b.length) <|
  need (s5_ < s1.b.length) <|
  bif decide ((⟨((s1.at s5_).1 : Int)⟩ : KI .i32).n = (⟨65533⟩ : KI .i32).n) then (
   some (Step.done (Res.ab (s5_ : Int))))
  else (
   some (Step.again at1)))
 else (
  some (Step.done (Res.nx ())))

noncomputable def strings_IndexRune_L3 (s1 : Str) (rs1 : Str) (j_20 : Int) (last1 : Int) (s28_ : Int) : Option (Step Int Unit) :=
 bif decide (s28_ < (rs1.b.length : Int)) then (
  need (inR s1.b (W (j_20 - s28_))) <|
  need (inR rs1.b (W (last1 - s28_))) <|
  bif !decide ((⟨((gx s1.b (W (j_20 - s28_))).toNat : Int)⟩ : KI .u8).n = (⟨((gx rs1.b (W (last1 - s28_))).toNat : Int)⟩ : KI .u8).n) then (
   none)
  else (
   bnd (W (s28_ + 1)) fun j1 =>
   some (Step.again j1)))
 else (
  some (Step.done ()))

noncomputable def strings_IndexRune_L2 (s1 : Str) (rs1 : Str) (last1 : Int) (s16_ : Unit) : Option (Step Unit (Res Unit Int)) :=
 bif decide (last1 < (s1.b.length : Int)) then (
  need (inR s1.b last1) <|
  need (inR rs1.b last1) <|
  bindR (σ := Int) (ρ := (Step Unit (Res Unit Int))) (
   bif !decide ((⟨((gx s1.b last1).toNat : Int)⟩ : KI .u8).n = (⟨((gx rs1.b last1).toNat : Int)⟩ : KI .u8).n) then (
    need (segR s1.b.length (W (last1 + 1)) (s1.b.length : Int)) <|
    need (inR rs1.b last1) <|
    Option.bind (strings_IndexByte (⟨seg s1.b (W (last1 + 1)) (s1.b.length : Int)⟩ : Str) (⟨((gx rs1.b last1).toNat : Int)⟩ : KI .u8)) fun o1 =>
    bif decide (o1 < 0) then (
     some (Res.ab (Step.done (Res.ab (-1)))))
    else (
     bnd (W (last1 + (W (o1 + 1)))) fun i1 =>
     some (Res.nx i1)))
   else (
    some (Res.nx last1))) fun j_20 =>
  Option.bind (α := Unit) (
   loop (strings_IndexRune_L3 s1 rs1 j_20 last1) 1) fun j_27 =>
  some (Step.done (Res.ab (W (j_20 - last1)))))
 else (
  some (Step.done (Res.nx ())))

/-- strings.IndexRune -/
noncomputable def strings_IndexRune (s1 : Str) (r1 : (KI .i32)) : Option Int :=
 bif (decide ((⟨0⟩ : KI .i32).n ≤ r1.n)) && (decide (r1.n < (⟨128⟩ : KI .i32).n)) then (
  Option.bind (strings_IndexByte s1 (KI.of .u8 r1.n)) fun r2 =>
  some r2)
 else (
  bif decide (r1.n = (⟨65533⟩ : KI .i32).n) then (
   bindR (σ := Unit) (ρ := Int) (
    loop (strings_IndexRune_L1 s1) 0) fun j_4 =>
   some (-1))
  else (
   Option.bind (utf8_ValidRune r1) fun r3 =>
   bif !r3 then (
    some (-1))
   else (
    bnd (encS r1.n) fun rs1 =>
    bnd (W ((rs1.b.length : Int) - 1)) fun last1 =>
    bindR (σ := Unit) (ρ := Int) (
     loop (strings_IndexRune_L2 s1 rs1 last1) ()) fun j_15 =>
    some (-1))))

/-- strings.ContainsRune -/
noncomputable def strings_ContainsRune (s1 : Str) (r1 : (KI .i32)) : Option Bool :=
 Option.bind (strings_IndexRune s1 r1) fun r2 =>
 some (decide (0 ≤ r2))

/-- shape.letter -/
noncomputable def shape_letter (f1 : Font) (c1 : (KI .i32)) : Option Int :=
 Option.bind (strings_ContainsRune (⟨[105, 106, 108, 39, 46, 44, 58, 59, 33, 124]⟩ : Str) c1) fun r1 =>
 bif r1 then (
  some f1.Narrow)
 else (
  Option.bind (gd (!(decide ((⟨4352⟩ : KI .i32).n ≤ c1.n))) (strings_ContainsRune (⟨[109, 119, 77, 87, 64, 37]⟩ : Str) c1)) fun r2 =>
  bif (decide ((⟨4352⟩ : KI .i32).n ≤ c1.n)) || r2 then (
   some f1.Wide)
  else (
   some f1.Normal))

noncomputable def shape_measure_L1 (f1 : Font) (s1 : Str) (s2_ : (Int × Nat)) : Option (Step (Int × Nat) Int) :=
 bnd (s1.next s2_.2) fun at1 =>
 bif decide (s2_.2 < s1.b.length) then (
  need (s2_.2 < s1.b.length) <|
  Option.bind (shape_letter f1 (⟨((s1.at s2_.2).1 : Int)⟩ : KI .i32)) fun r1 =>
  bnd (W (s2_.1 + r1)) fun n1 =>
  some (Step.again (n1, at1)))
 else (
  some (Step.done s2_.1))

/-- shape.measure -/
noncomputable def shape_measure (f1 : Font) (s1 : Str) : Option Int :=
 Option.bind (α := Int) (
  loop (shape_measure_L1 f1 s1) (0, 0)) fun j_1 =>
 some j_1

/-- shape.wrapPart$1 -/
noncomputable def shape_wrapPart_1 (c0_1 : Str) (c1_1 : (List Str)) (c2_1 : Int) : Option (Str × (List Str) × Int) :=
 Option.bind (α := (List Str)) (
  bif !decide (c0_1 = Str.nil) then (
   need (room (c1_1.length + [c0_1].length)) <|
   some (c1_1 ++ [c0_1]))
  else (
   some c1_1)) fun j_1 =>
 some (Str.nil, j_1, 0)

noncomputable def shape_cut_L1 (f1 : Font) (word1 : Str) (width1 : Int) (s2_ : (Int × Nat)) : Option (Step (Int × Nat) (Res Unit (Str × Str))) :=
 bnd (word1.next s2_.2) fun at1 =>
 bif decide (s2_.2 < word1.b.length) then (
  need (s2_.2 < word1.b.length) <|
  need (s2_.2 < word1.b.length) <|
  bnd ((s2_.2 : Int)) fun i1 =>
  Option.bind (shape_letter f1 (⟨((word1.at s2_.2).1 : Int)⟩ : KI .i32)) fun r1 =>
  bnd (W (s2_.1 + r1)) fun wide1 =>
  bif (decide (0 < i1)) && (decide (width1 < wide1)) then (
   need (segR word1.b.length 0 i1) <|
   need (segR word1.b.length i1 (word1.b.length : Int)) <|
   some (Step.done (Res.ab ((⟨seg word1.b 0 i1⟩ : Str), (⟨seg word1.b i1 (word1.b.length : Int)⟩ : Str)))))
  else (
   some (Step.again (wide1, at1))))
 else (
  some (Step.done (Res.nx ())))

/-- shape.cut -/
noncomputable def shape_cut (f1 : Font) (word1 : Str) (width1 : Int) : Option (Str × Str) :=
 bindR (σ := Unit) (ρ := (Str × Str)) (
  loop (shape_cut_L1 f1 word1 width1) (0, 0)) fun j_1 =>
 some (word1, Str.nil)

noncomputable def shape_wrapPart_L2 (f1 : Font) (width1 : Int) (s13_ : (Str × Int × (List Str))) : Option (Step (Str × Int × (List Str)) (Str × Int × (List Str))) :=
 Option.bind (gd ((decide (width1 < s13_.2.1))) (utf8_RuneCountInString s13_.1)) fun r2 =>
 bif (decide (width1 < s13_.2.1)) && (decide (1 < r2)) then (
  Option.bind (shape_cut f1 s13_.1 width1) fun r3 =>
  need (room (s13_.2.2.length + [r3.1].length)) <|
  bnd (s13_.2.2 ++ [r3.1]) fun c1 =>
  Option.bind (shape_measure f1 r3.2) fun n2 =>
  some (Step.again (r3.2, n2, c1)))
 else (
  some (Step.done (s13_.1, s13_.2.1, s13_.2.2)))

noncomputable def shape_wrapPart_L1 (f1 : Font) (width1 : Int) (words1 : (List Str)) (i : Int) (s : ((List Str) × Str × Int)) : Option ((List Str) × Str × Int) :=
 need (inR words1 i) <|
 bnd (gx words1 i) fun w1 =>
 Option.bind (shape_measure f1 w1) fun n1 =>
 bindR (σ := Unit) (ρ := ((List Str) × Str × Int)) (
  bif decide (width1 < n1) then (
   Option.bind (shape_wrapPart_1 s.2.1 s.1 s.2.2) fun r1 =>
   Option.bind (α := (Str × Int × (List Str))) (
    loop (shape_wrapPart_L2 f1 width1) (w1, n1, r1.2.1)) fun j_12 =>
   some (Res.ab (j_12.2.2, j_12.1, j_12.2.1)))
  else (
   some (Res.nx ()))) fun j_9 =>
 Option.bind (α := ((List Str) × Str × Int)) (
  bif (!decide (s.2.1 = Str.nil)) && (decide (width1 < (W ((W (s.2.2 + f1.Normal)) + n1)))) then (
   Option.bind (shape_wrapPart_1 s.2.1 s.1 s.2.2) fun r4 =>
   some (r4.2.1, r4.1, r4.2.2))
  else (
   some (s.1, s.2.1, s.2.2))) fun j_20 =>
 bif decide (j_20.2.1 = Str.nil) then (
  some (j_20.1, w1, n1))
 else (
  need ((j_20.2.1.b.length : Int) + (⟨[32]⟩ : Str).b.length ≤ 9223372036854775807) <|
  need (((⟨j_20.2.1.b ++ (⟨[32]⟩ : Str).b⟩ : Str).b.length : Int) + w1.b.length ≤ 9223372036854775807) <|
  bnd ((⟨(⟨j_20.2.1.b ++ (⟨[32]⟩ : Str).b⟩ : Str).b ++ w1.b⟩ : Str)) fun v1 =>
  bnd (W ((W (j_20.2.2 + f1.Normal)) + n1)) fun v2 =>
  some (j_20.1, v1, v2))

/-- shape.wrapPart -/
noncomputable def shape_wrapPart (f1 : Font) (part1 : Str) (width1 : Int) : Option (List Str) :=
 Option.bind (shape_wordsOf part1) fun words1 =>
 Option.bind (α := ((List Str) × Str × Int)) (
  rfor (words1.length : Int) (shape_wrapPart_L1 f1 width1 words1) (([] : List Str), Str.nil, 0)) fun j_2 =>
 Option.bind (shape_wrapPart_1 j_2.2.1 j_2.1 j_2.2.2) fun r5 =>
 Option.bind (α := (List Str)) (
  bif decide ((words1.length : Int) = 0) then (
   need (room (r5.2.1.length + [Str.nil].length)) <|
   some (r5.2.1 ++ [Str.nil]))
  else (
   some r5.2.1)) fun j_29 =>
 some j_29

noncomputable def shape_wrap_L1 (f1 : Font) (r1 : (List Str)) (width1 : Int) (i : Int) (s : (List Str)) : Option (List Str) :=
 need (inR r1 i) <|
 Option.bind (shape_wrapPart f1 (gx r1 i) width1) fun r2 =>
 need (room (s.length + r2.length)) <|
 some (s ++ r2)

/-- shape.wrap -/
noncomputable def shape_wrap (f1 : Font) (text1 : Str) (width1 : Int) : Option (List Str) :=
 Option.bind (strings_Split text1 (⟨[10]⟩ : Str)) fun r1 =>
 Option.bind (α := (List Str)) (
  rfor (r1.length : Int) (shape_wrap_L1 f1 r1 width1) ([] : List Str)) fun j_2 =>
 some j_2

/-- shape.Wrap -/
noncomputable def shape_Wrap (f1 : Font) (text1 : Str) (width1 : Int) : Option ((List Str) × Int) :=
 Option.bind (shape_checkBoth f1 text1) fun e1 =>
 bif !decide (e1 = 0) then (
  some (([] : (List Str)), e1))
 else (
  bif (decide (width1 < 1)) || (decide (20000 < width1)) then (
   some (([] : (List Str)), 3))
  else (
   Option.bind (shape_wrap f1 text1 width1) fun r1 =>
   some (r1, 0)))

/-- drawlaw1.shapes -/
noncomputable def law_shapes  : Option Bool :=
 Option.bind (shape_CheckFont (⟨1, 1, 1, 1⟩ : Font)) fun r1 =>
 Option.bind (gd ((decide (r1 = 0))) (shape_CheckFont (⟨(0 : Int), (0 : Int), (0 : Int), (0 : Int)⟩ : Font))) fun r2 =>
 some ((decide (r1 = 0)) && (decide (r2 = 3)))

/-- shape.Measure -/
noncomputable def shape_Measure (f1 : Font) (s1 : Str) : Option (Int × Int) :=
 Option.bind (shape_checkBoth f1 s1) fun e1 =>
 bif !decide (e1 = 0) then (
  some (0, e1))
 else (
  Option.bind (strings_Contains s1 (⟨[10]⟩ : Str)) fun r1 =>
  bif r1 then (
   some (0, 2))
  else (
   Option.bind (shape_measure f1 s1) fun r2 =>
   some (r2, 0)))

/-- drawlaw1.WrapsKeepWords$1 -/
noncomputable def law_WrapsKeepWords_1 (s1 : Str) : Option Str :=
 Option.bind (strings_ReplaceAll s1 (⟨[10]⟩ : Str) (⟨[32]⟩ : Str)) fun r1 =>
 Option.bind (strings_Fields r1) fun r2 =>
 Option.bind (strings_Join r2 Str.nil) fun r3 =>
 some r3

noncomputable def slices_Index_string_L1 (s1 : (List Str)) (v1 : Str) (i : Int) (s : Unit) : Option (Res Unit (Res Unit Int)) :=
 need (inR s1 i) <|
 bif decide (v1 = (gx s1 i)) then (
  some (Res.ab (Res.ab i)))
 else (
  some (Res.nx ()))

/-- slices.Index[[]string,string] -/
noncomputable def slices_Index_string (s1 : (List Str)) (v1 : Str) : Option Int :=
 bindR (σ := Unit) (ρ := Int) (
  rforE (s1.length : Int) (slices_Index_string_L1 s1 v1) (fun s => Res.nx s) ()) fun j_1 =>
 some (-1)

/-- slices.Contains[[]string,string] -/
noncomputable def slices_Contains_string (s1 : (List Str)) (v1 : Str) : Option Bool :=
 Option.bind (slices_Index_string s1 v1) fun r1 =>
 some (decide (0 ≤ r1))

noncomputable def law_WrapsKeepWords_L1 (f1 : Font) (r1 : ((List Str) × Int)) (width1 : Int) (i : Int) (s : Unit) : Option (Res Unit (Res Unit Bool)) :=
 need (inR r1.1 i) <|
 bnd (gx r1.1 i) fun x1 =>
 Option.bind (shape_Measure f1 x1) fun r3 =>
 need ((!decide (r3.2 = 0)) = false → (decide (width1 < r3.1)) = true → (x1.b.length : Int) ≤ 70368744177664) <|
 bif (!decide (r3.2 = 0)) || ((decide (width1 < r3.1)) && (decide (1 < ((runesL x1).length : Int)))) then (
  some (Res.ab (Res.ab false)))
 else (
  some (Res.nx ()))

/-- drawlaw1.WrapsKeepWords -/
noncomputable def law_WrapsKeepWords (f1 : Font) (s1 : Str) (width1 : Int) : Option Bool :=
 Option.bind (shape_Wrap f1 s1 width1) fun r1 =>
 bif !decide (r1.2 = 0) then (
  Option.bind (gd ((decide ((r1.1.length : Int) = 0))) (law_shapes)) fun r2 =>
  some ((decide ((r1.1.length : Int) = 0)) && r2))
 else (
  bindR (σ := Unit) (ρ := Bool) (
   rforE (r1.1.length : Int) (law_WrapsKeepWords_L1 f1 r1 width1) (fun s => Res.nx s) ()) fun j_4 =>
  Option.bind (law_WrapsKeepWords_1 s1) fun r4 =>
  Option.bind (strings_Join r1.1 (⟨[32]⟩ : Str)) fun r5 =>
  Option.bind (law_WrapsKeepWords_1 r5) fun r6 =>
  Option.bind (gd ((decide (r4 = r6))) (slices_Contains_string r1.1 (⟨[32]⟩ : Str))) fun r7 =>
  some ((decide (r4 = r6)) && (!r7)))


end Go.DB
