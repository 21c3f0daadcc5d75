/-
  What the functions compute, as plain functions (printed by a program of one's own).
-/
import Derived.Test.YtlkebjlooppdlaaGreatDoorStmTy
set_option maxRecDepth 100000
set_option linter.unusedSimpArgs false
set_option linter.unusedVariables false
namespace Go.DB
open Go Go.RowKit

/-- unicode/utf8.ValidString -/
noncomputable def utf8_ValidString (s : Str) : Option Bool := some (validS s)

/-- strings.Trim -/
noncomputable def strings_Trim (s cs : Str) : Option Str := need ((cs.b.length : Int) < 4294967281 ∧ cs.b.all (fun b => decide (b.toNat < 128)) = true) (some (trimS s cs))

/-- strings.Compare -/
noncomputable def strings_Compare (s sep : Str) : Option Int := some (compareS s sep)

/-- cmp.isNaN[int] -/
noncomputable def cmp_isNaN_int (x1 : Int) : Option Bool :=
 some (!decide (x1 = x1))

/-- cmp.Compare[int] -/
noncomputable def cmp_Compare_int (x1 : Int) (y1 : Int) : Option Int :=
 Option.bind (cmp_isNaN_int x1) fun xNaN1 =>
 Option.bind (cmp_isNaN_int y1) fun yNaN1 =>
 bif xNaN1 then (
  bif yNaN1 then (
   some 0)
  else (
   some (-1)))
 else (
  bif yNaN1 then (
   some 1)
  else (
   bif decide (x1 < y1) then (
    some (-1))
   else (
    bif decide (y1 < x1) then (
     some 1)
    else (
     some 0))))

noncomputable def cmp_Or_int_L1 (vals1 : (List Int)) (i : Int) (s : Unit) : Option (Res Unit (Res Unit Int)) :=
 need (inR vals1 i) <|
 bnd (gx vals1 i) fun val1 =>
 bif !decide (val1 = 0) then (
  some (Res.ab (Res.ab val1)))
 else (
  some (Res.nx ()))

/-- cmp.Or[int] -/
noncomputable def cmp_Or_int (vals1 : (List Int)) : Option Int :=
 bindR (σ := Unit) (ρ := Int) (
  rforE (vals1.length : Int) (cmp_Or_int_L1 vals1) (fun s => Res.nx s) ()) fun j_1 =>
 some 0

/-- drawref1.byOp -/
noncomputable def ref_byOp (a1 : DOp) (b1 : DOp) : Option Int :=
 Option.bind (strings_Compare a1.Stamp.Site b1.Stamp.Site) fun r1 =>
 Option.bind (cmp_Compare_int a1.Stamp.No b1.Stamp.No) fun r2 =>
 Option.bind (cmp_Or_int [r1, r2]) fun r3 =>
 some r3

noncomputable def ref_NameOf_L1 (s1 : Str) (i : Int) (s : Unit) : Option (Res Unit (Res Unit Bool)) :=
 need (inR s1.b i) <|
 bnd ((⟨((gx s1.b i).toNat : Int)⟩ : KI .u8)) fun c1 =>
 bif (!((decide ((⟨97⟩ : KI .u8).n ≤ c1.n)) && (decide (c1.n ≤ (⟨122⟩ : KI .u8).n)))) && ((decide (i = 0)) || ((!((decide ((⟨48⟩ : KI .u8).n ≤ c1.n)) && (decide (c1.n ≤ (⟨57⟩ : KI .u8).n)))) && (!decide (c1.n = (⟨45⟩ : KI .u8).n)))) then (
  some (Res.ab (Res.ab false)))
 else (
  some (Res.nx ()))

/-- drawref1.NameOf -/
noncomputable def ref_NameOf (s1 : Str) : Option Bool :=
 bindR (σ := Unit) (ρ := Bool) (
  rforE (s1.b.length : Int) (ref_NameOf_L1 s1) (fun s => Res.nx s) ()) fun j_1 =>
 some ((!decide (s1 = Str.nil)) && (decide ((s1.b.length : Int) ≤ 40)))

/-- drawref1.When -/
noncomputable def ref_When (is1 : Bool) (e1 : Int) : Option Int :=
 bif is1 then (
  some e1)
 else (
  some 0)

/-- drawref1.In -/
noncomputable def ref_In (n1 : Int) (low1 : Int) (high1 : Int) : Option Bool :=
 some ((decide (low1 ≤ n1)) && (decide (n1 ≤ high1)))

noncomputable def ref_First_L1 (l1 : (List Int)) (i : Int) (s : Unit) : Option (Res Unit (Res Unit Int)) :=
 need (inR l1 i) <|
 bnd (gx l1 i) fun e1 =>
 bif !decide (e1 = 0) then (
  some (Res.ab (Res.ab e1)))
 else (
  some (Res.nx ()))

/-- drawref1.First -/
noncomputable def ref_First (l1 : (List Int)) : Option Int :=
 bindR (σ := Unit) (ρ := Int) (
  rforE (l1.length : Int) (ref_First_L1 l1) (fun s => Res.nx s) ()) fun j_1 =>
 some 0

noncomputable def ref_TextError_L1 (s1 : Str) (i : Int) (s : Bool) : Option Bool :=
 need (s = false → inR s1.b i) <|
 need (s = false → (decide ((⟨((gx s1.b i).toNat : Int)⟩ : KI .u8).n < (⟨32⟩ : KI .u8).n)) = true → inR s1.b i) <|
 need ((s || ((decide ((⟨((gx s1.b i).toNat : Int)⟩ : KI .u8).n < (⟨32⟩ : KI .u8).n)) && (!decide ((⟨((gx s1.b i).toNat : Int)⟩ : KI .u8).n = (⟨10⟩ : KI .u8).n)))) = false → inR s1.b i) <|
 bnd ((s || ((decide ((⟨((gx s1.b i).toNat : Int)⟩ : KI .u8).n < (⟨32⟩ : KI .u8).n)) && (!decide ((⟨((gx s1.b i).toNat : Int)⟩ : KI .u8).n = (⟨10⟩ : KI .u8).n)))) || (decide ((⟨((gx s1.b i).toNat : Int)⟩ : KI .u8).n = (⟨127⟩ : KI .u8).n))) fun bad2 =>
 some bad2

/-- drawref1.TextError -/
noncomputable def ref_TextError (s1 : Str) : Option Int :=
 Option.bind (utf8_ValidString s1) fun r1 =>
 bnd (!r1) fun bad1 =>
 Option.bind (α := Bool) (
  rfor (s1.b.length : Int) (ref_TextError_L1 s1) bad1) fun j_3 =>
 Option.bind (ref_When (decide (1000 < (s1.b.length : Int))) 4) fun r2 =>
 Option.bind (ref_When j_3 2) fun r3 =>
 Option.bind (ref_First [r2, r3]) fun r4 =>
 some r4

/-- drawref1.opError -/
noncomputable def ref_opError (x1 : DOp) : Option Int :=
 Option.bind (ref_In x1.Kind 1 3) fun r1 =>
 bif !r1 then (
  some 1)
 else (
  bif (((!decide (x1.Kind = 1)) && ((!decide (x1.Field = Str.nil)) || (!decide (x1.Value = Str.nil)))) || ((decide (x1.Kind = 3)) && (!decide (x1.Id = Str.nil)))) || ((!decide (x1.Kind = 3)) && (!decide (x1.Of = 0))) then (
   some 2)
  else (
   bif decide (x1.Kind = 3) then (
    Option.bind (ref_In x1.Of 1 (W (x1.Stamp.No - 1))) fun r2 =>
    Option.bind (ref_When (!r2) 10) fun r3 =>
    some r3)
   else (
    Option.bind (ref_NameOf x1.Id) fun r4 =>
    Option.bind (gd (!(!r4) && (decide (x1.Kind = 1))) (ref_NameOf x1.Field)) fun r5 =>
    Option.bind (ref_When ((!r4) || ((decide (x1.Kind = 1)) && (!r5))) 5) fun r6 =>
    Option.bind (ref_TextError x1.Value) fun r7 =>
    Option.bind (ref_First [r6, r7]) fun r8 =>
    some r8)))

noncomputable def ref_OpsError_L1 (l1 : (List DOp)) (i : Int) (s : DOp) : Option (Res DOp (Res DOp Int)) :=
 need (inR l1 i) <|
 bnd (gx l1 i) fun v2 =>
 Option.bind (α := DOp) (
  bif !decide (v2.Stamp.Site = s.Stamp.Site) then (
   some ({ { s with Stamp := { s.Stamp with No := 0 } } with Stamp := { ({ s with Stamp := { s.Stamp with No := 0 } }).Stamp with Time := 0 } }))
  else (
   some s)) fun j_9 =>
 Option.bind (gd ((decide (0 < i))) (ref_byOp v2 j_9)) fun r1 =>
 Option.bind (α := Bool) (
  bif (!decide (v2.Stamp.Site = j_9.Stamp.Site)) && (decide (0 < i)) then (
   need (inR l1 (W (i - 1))) <|
   some (Op.bytesLess v2.Stamp.Site.b (((gx l1 (W (i - 1))).Stamp).Site).b))
  else (
   some ((decide (0 < i)) && (decide (r1 ≤ 0))))) fun j_12 =>
 Option.bind (ref_NameOf v2.Stamp.Site) fun r2 =>
 Option.bind (ref_When (!r2) 5) fun r3 =>
 Option.bind (ref_When j_12 7) fun r4 =>
 Option.bind (gd (!(!decide (v2.Stamp.No = (W (j_9.Stamp.No + 1))))) (ref_In v2.Stamp.Time 1 1000000000)) fun r5 =>
 Option.bind (ref_When ((!decide (v2.Stamp.No = (W (j_9.Stamp.No + 1)))) || (!r5)) 3) fun r6 =>
 Option.bind (ref_When (decide (v2.Stamp.Time ≤ j_9.Stamp.Time)) 7) fun r7 =>
 Option.bind (ref_opError v2) fun r8 =>
 Option.bind (ref_First [r3, r4, r6, r7, r8]) fun e1 =>
 bif !decide (e1 = 0) then (
  some (Res.ab (Res.ab e1)))
 else (
  some (Res.nx v2))

/-- drawref1.OpsError -/
noncomputable def ref_OpsError (l1 : (List DOp)) : Option Int :=
 bif decide (2000 < (l1.length : Int)) then (
  some 4)
 else (
  bnd ((⟨(⟨(0 : Int), Str.nil, (0 : Int)⟩ : Stamp), (0 : Int), Str.nil, Str.nil, Str.nil, (0 : Int)⟩ : DOp)) fun v1 =>
  bindR (σ := DOp) (ρ := Int) (
   rforE (l1.length : Int) (ref_OpsError_L1 l1) (fun s => Res.nx s) v1) fun j_3 =>
  some 0)

/-- edit.isName -/
noncomputable def edit_isName (s1 : Str) : Option Bool :=
 need (((!decide (s1 = Str.nil)) && (decide ((s1.b.length : Int) ≤ 40))) = true → inR s1.b 0) <|
 need ((((!decide (s1 = Str.nil)) && (decide ((s1.b.length : Int) ≤ 40))) && (decide ((⟨97⟩ : KI .u8).n ≤ (⟨((gx s1.b 0).toNat : Int)⟩ : KI .u8).n))) = true → inR s1.b 0) <|
 Option.bind (gd (((((!decide (s1 = Str.nil)) && (decide ((s1.b.length : Int) ≤ 40))) && (decide ((⟨97⟩ : KI .u8).n ≤ (⟨((gx s1.b 0).toNat : Int)⟩ : KI .u8).n))) && (decide ((⟨((gx s1.b 0).toNat : Int)⟩ : KI .u8).n ≤ (⟨122⟩ : KI .u8).n)))) (strings_Trim s1 (⟨[97, 98, 99, 100, 101, 102, 103, 104, 105, 106, 107, 108, 109, 110, 111, 112, 113, 114, 115, 116, 117, 118, 119, 120, 121, 122, 48, 49, 50, 51, 52, 53, 54, 55, 56, 57, 45]⟩ : Str))) fun r1 =>
 some (((((!decide (s1 = Str.nil)) && (decide ((s1.b.length : Int) ≤ 40))) && (decide ((⟨97⟩ : KI .u8).n ≤ (⟨((gx s1.b 0).toNat : Int)⟩ : KI .u8).n))) && (decide ((⟨((gx s1.b 0).toNat : Int)⟩ : KI .u8).n ≤ (⟨122⟩ : KI .u8).n))) && (decide (r1 = Str.nil)))

/-- edit.order -/
noncomputable def edit_order (a1 : DOp) (b1 : DOp) : Option Int :=
 Option.bind (strings_Compare a1.Stamp.Site b1.Stamp.Site) fun r1 =>
 Option.bind (cmp_Compare_int a1.Stamp.No b1.Stamp.No) fun r2 =>
 Option.bind (cmp_Or_int [r1, r2]) fun r3 =>
 some r3

noncomputable def shape_CheckText_L1 (s1 : Str) (i : Int) (s : Unit) : Option (Res Unit (Res Unit Int)) :=
 need (inR s1.b i) <|
 need ((decide ((⟨((gx s1.b i).toNat : Int)⟩ : KI .u8).n < (⟨32⟩ : KI .u8).n)) = true → inR s1.b i) <|
 need (((decide ((⟨((gx s1.b i).toNat : Int)⟩ : KI .u8).n < (⟨32⟩ : KI .u8).n)) && (!decide ((⟨((gx s1.b i).toNat : Int)⟩ : KI .u8).n = (⟨10⟩ : KI .u8).n))) = false → inR s1.b i) <|
 bif ((decide ((⟨((gx s1.b i).toNat : Int)⟩ : KI .u8).n < (⟨32⟩ : KI .u8).n)) && (!decide ((⟨((gx s1.b i).toNat : Int)⟩ : KI .u8).n = (⟨10⟩ : KI .u8).n))) || (decide ((⟨((gx s1.b i).toNat : Int)⟩ : KI .u8).n = (⟨127⟩ : KI .u8).n)) then (
  some (Res.ab (Res.ab 2)))
 else (
  some (Res.nx ()))

/-- shape.CheckText -/
noncomputable def shape_CheckText (s1 : Str) : Option Int :=
 bif decide (1000 < (s1.b.length : Int)) then (
  some 4)
 else (
  Option.bind (utf8_ValidString s1) fun r1 =>
  bif !r1 then (
   some 2)
  else (
   bindR (σ := Unit) (ρ := Int) (
    rforE (s1.b.length : Int) (shape_CheckText_L1 s1) (fun s => Res.nx s) ()) fun j_4 =>
   some 0))

/-- edit.checkBody -/
noncomputable def edit_checkBody (x1 : DOp) : Option Int :=
 bif (decide (x1.Kind < 1)) || (decide (3 < x1.Kind)) then (
  some 1)
 else (
  bnd (decide (x1.Kind = 1)) fun set1 =>
  bnd (decide (x1.Kind = 3)) fun undo1 =>
  bnd ((!decide (x1.Of = 0)) && (!undo1)) fun v1 =>
  Option.bind (α := Bool) (
   bif v1 then (
    some v1)
   else (
    bnd ((!decide (x1.Id = Str.nil)) && undo1) fun v2 =>
    bif v2 then (
     some v2)
    else (
     bnd (((!decide (x1.Field = Str.nil)) || (!decide (x1.Value = Str.nil))) && (!set1)) fun v3 =>
     some v3))) fun j_5 =>
  bif j_5 then (
   some 2)
  else (
   Option.bind (gd ((!undo1)) (edit_isName x1.Id)) fun r1 =>
   bnd ((!undo1) && (!r1)) fun v4 =>
   Option.bind (α := Bool) (
    bif v4 then (
     some v4)
    else (
     Option.bind (gd (set1) (edit_isName x1.Field)) fun r2 =>
     bnd (set1 && (!r2)) fun v5 =>
     some v5)) fun j_13 =>
   bif j_13 then (
    some 5)
   else (
    bindR (σ := Unit) (ρ := Int) (
     bif set1 then (
      Option.bind (shape_CheckText x1.Value) fun e1 =>
      bif !decide (e1 = 0) then (
       some (Res.ab e1))
      else (
       some (Res.nx ())))
     else (
      some (Res.nx ()))) fun j_18 =>
    bif undo1 && ((decide (x1.Of < 1)) || (decide ((W (x1.Stamp.No - 1)) < x1.Of))) then (
     some 10)
    else (
     some 0))))

noncomputable def edit_Check_L1 (l1 : (List DOp)) (i : Int) (s : Unit) : Option (Res Unit (Res Unit Int)) :=
 need (inR l1 i) <|
 bnd (gx l1 i) fun v1 =>
 bnd ((⟨(⟨(0 : Int), Str.nil, (0 : Int)⟩ : Stamp), (0 : Int), Str.nil, Str.nil, Str.nil, (0 : Int)⟩ : DOp)) fun v2 =>
 need ((decide (0 < i)) = true → inR l1 (W (i - 1))) <|
 Option.bind (α := DOp) (
  bif (decide (0 < i)) && (decide ((((gx l1 (W (i - 1))).Stamp).Site) = v1.Stamp.Site)) then (
   need (inR l1 (W (i - 1))) <|
   bnd (gx l1 (W (i - 1))) fun v3 =>
   some v3)
  else (
   some v2)) fun j_10 =>
 Option.bind (edit_isName v1.Stamp.Site) fun r1 =>
 bif !r1 then (
  some (Res.ab (Res.ab 5)))
 else (
  need ((decide (0 < i)) = true → inR l1 (W (i - 1))) <|
  Option.bind (gd ((decide (0 < i))) (edit_order (gx l1 (W (i - 1))) v1)) fun r2 =>
  bif (decide (0 < i)) && (decide (0 ≤ r2)) then (
   some (Res.ab (Res.ab 7)))
  else (
   bnd (!decide (v1.Stamp.No = (W (j_10.Stamp.No + 1)))) fun v4 =>
   Option.bind (α := Bool) (
    bif v4 then (
     some v4)
    else (
     bnd ((decide (v1.Stamp.Time < 1)) || (decide (1000000000 < v1.Stamp.Time))) fun v5 =>
     some v5)) fun j_20 =>
   bif j_20 then (
    some (Res.ab (Res.ab 3)))
   else (
    bif decide (v1.Stamp.Time ≤ j_10.Stamp.Time) then (
     some (Res.ab (Res.ab 7)))
    else (
     Option.bind (edit_checkBody v1) fun e1 =>
     bif !decide (e1 = 0) then (
      some (Res.ab (Res.ab e1)))
     else (
      some (Res.nx ()))))))

/-- edit.Check -/
noncomputable def edit_Check (l1 : (List DOp)) : Option Int :=
 bif decide (2000 < (l1.length : Int)) then (
  some 4)
 else (
  bindR (σ := Unit) (ρ := Int) (
   rforE (l1.length : Int) (edit_Check_L1 l1) (fun s => Res.nx s) ()) fun j_2 =>
  some 0)

noncomputable def edit_counting_L1  (i : Int) (s : (List Bool)) : Option (List Bool) :=
 need (inR s i) <|
 some (s.set i.toNat true)

noncomputable def edit_counting_L2 (l1 : (List DOp)) (s11_ : (Int × (List Bool))) : Option (Step (Int × (List Bool)) (List Bool)) :=
 bif decide (0 ≤ s11_.1) then (
  Option.bind (α := (List Bool)) (
   need (inR l1 s11_.1) <|
   bnd (gx l1 s11_.1) fun v2 =>
   need ((decide (v2.Kind = 3)) = true → inR s11_.2 s11_.1) <|
   bif (decide (v2.Kind = 3)) && (gx s11_.2 s11_.1) then (
    need (inR s11_.2 (W ((W (s11_.1 - v2.Stamp.No)) + v2.Of))) <|
    some (s11_.2.set (W ((W (s11_.1 - v2.Stamp.No)) + v2.Of)).toNat false))
   else (
    some s11_.2)) fun j_13 =>
  bnd (W (s11_.1 - 1)) fun i2 =>
  some (Step.again (i2, j_13)))
 else (
  some (Step.done s11_.2))

/-- edit.counting -/
noncomputable def edit_counting (l1 : (List DOp)) : Option (List Bool) :=
 bnd ((l1.length : Int)) fun v1 =>
 need (0 ≤ v1 ∧ v1 ≤ v1 ∧ v1 ≤ 1073741824) <|
 bnd (List.replicate v1.toNat false) fun out1 =>
 Option.bind (α := (List Bool)) (
  rfor (out1.length : Int) edit_counting_L1 out1) fun j_4 =>
 bnd (W ((l1.length : Int) - 1)) fun i1 =>
 Option.bind (α := (List Bool)) (
  loop (edit_counting_L2 l1) (i1, j_4)) fun j_10 =>
 some j_10

/-- edit.Counting -/
noncomputable def edit_Counting (l1 : (List DOp)) : Option ((List Bool) × Int) :=
 Option.bind (edit_Check l1) fun e1 =>
 bif !decide (e1 = 0) then (
  some (([] : (List Bool)), e1))
 else (
  Option.bind (edit_counting l1) fun r1 =>
  some (r1, 0))

def sortQ_DOp (x : DOp) : Prop := True
instance : Inhabited { x : DOp // sortQ_DOp x } := ⟨⟨default, by unfold sortQ_DOp; decide⟩⟩
def sortC_DOp (x y : { x : DOp // sortQ_DOp x }) : Int := cmpL x.1.Stamp.Time x.1.Stamp.Site.b x.1.Stamp.No y.1.Stamp.Time y.1.Stamp.Site.b y.1.Stamp.No

/-- slices.SortFunc[[]drawboard/api.Op,drawboard/api.Op] -/
noncomputable def slices_SortFunc_Op (l : List DOp) : Option (List DOp) := need ((l.length : Int) < 4611686018427387904 ∧ ∀ x ∈ l, sortQ_DOp x) (some (sortF sortC_DOp l))

/-- (edit.things).do -/
noncomputable def edit_things_do (t1 : (GMap Str (GMap Str Str))) (x1 : DOp) : Option (GMap Str (GMap Str Str)) :=
 bif decide (x1.Kind = 2) then (
  bnd (t1.del x1.Id) fun c1 =>
  some c1)
 else (
  Option.bind (α := (GMap Str (GMap Str Str))) (
   bif !t1.has x1.Id then (
    some (t1.set x1.Id (GMap.nil : (GMap Str Str))))
   else (
    some t1)) fun j_3 =>
  need (j_3.has x1.Id = true) <|
  some (j_3.set x1.Id ((j_3.getD x1.Id GMap.nil).set x1.Field x1.Value)))

def sortQ_Attr (x : Attr) : Prop := True
instance : Inhabited { x : Attr // sortQ_Attr x } := ⟨⟨default, by unfold sortQ_Attr; decide⟩⟩
def sortC_Attr (x y : { x : Attr // sortQ_Attr x }) : Int := cmpB x.1.Field.b y.1.Field.b

/-- slices.SortFunc[[]drawboard/api.Attr,drawboard/api.Attr] -/
noncomputable def slices_SortFunc_Attr (l : List Attr) : Option (List Attr) := need ((l.length : Int) < 4611686018427387904 ∧ ∀ x ∈ l, sortQ_Attr x) (some (sortF sortC_Attr l))

/-- slices.SortFunc[[]drawboard/api.Thing,drawboard/api.Thing] -/
noncomputable def slices_SortFunc_Thing (l : List Thing) : Option (List Thing) := need ((l.length : Int) < 4611686018427387904 ∧ (l.map fun x => x.Id).Nodup) (some (usort (fun x => x.Id) l))

noncomputable def edit_things_listed_L2  (k : Str) (e : Str) (s : Thing) : Option Thing :=
 need (room (s.Attrs.length + [(⟨k, e⟩ : Attr)].length)) <|
 some ({ s with Attrs := s.Attrs ++ [(⟨k, e⟩ : Attr)] })

noncomputable def edit_things_listed_L1  (k : Str) (e : (GMap Str Str)) (s : (List Thing)) : Option (List Thing) :=
 mrangeK e edit_things_listed_L2 (⟨k, ([] : List Attr)⟩ : Thing) fun j_4 =>
 Option.bind (slices_SortFunc_Attr j_4.Attrs) fun r1 =>
 need (room (s.length + [{ j_4 with Attrs := r1 }].length)) <|
 some (s ++ [{ j_4 with Attrs := r1 }])

/-- (edit.things).listed -/
noncomputable def edit_things_listed (t1 : (GMap Str (GMap Str Str))) : Option (List Thing) :=
 mrangeK t1 edit_things_listed_L1 ([] : List Thing) fun j_1 =>
 Option.bind (slices_SortFunc_Thing j_1) fun r2 =>
 some r2

noncomputable def edit_State_L1 (l1 : (List DOp)) (r1 : (List Bool)) (i : Int) (s : (List DOp)) : Option (List DOp) :=
 need (inR r1 i) <|
 need ((gx r1 i) = true → inR l1 i) <|
 bif (gx r1 i) && (!decide (((gx l1 i).Kind) = 3)) then (
  need (inR l1 i) <|
  need (room (s.length + [gx l1 i].length)) <|
  some (s ++ [gx l1 i]))
 else (
  some s)

noncomputable def edit_State_L2 (r2 : (List DOp)) (i : Int) (s : (GMap Str (GMap Str Str))) : Option (GMap Str (GMap Str Str)) :=
 need (inR r2 i) <|
 bnd (gx r2 i) fun v1 =>
 Option.bind (edit_things_do s v1) fun r3 =>
 some r3

/-- edit.State -/
noncomputable def edit_State (l1 : (List DOp)) : Option ((List Thing) × Int) :=
 Option.bind (edit_Check l1) fun e1 =>
 bif !decide (e1 = 0) then (
  some (([] : (List Thing)), e1))
 else (
  Option.bind (edit_counting l1) fun r1 =>
  Option.bind (α := (List DOp)) (
   rfor (r1.length : Int) (edit_State_L1 l1 r1) ([] : List DOp)) fun j_4 =>
  Option.bind (slices_SortFunc_Op j_4) fun r2 =>
  bnd ((GMap.nil : (GMap Str (GMap Str Str)))) fun t1 =>
  Option.bind (α := (GMap Str (GMap Str Str))) (
   rfor (r2.length : Int) (edit_State_L2 r2) t1) fun j_15 =>
  Option.bind (edit_things_listed j_15) fun r4 =>
  some (r4, 0))

/-- drawlaw1.edits -/
noncomputable def law_edits  : Option Bool :=
 Option.bind (edit_Check ([] : (List DOp))) fun r1 =>
 Option.bind (gd ((decide (r1 = 0))) (edit_Check [(⟨(⟨(0 : Int), Str.nil, (0 : Int)⟩ : Stamp), (0 : Int), Str.nil, Str.nil, Str.nil, (0 : Int)⟩ : DOp)])) fun r2 =>
 some ((decide (r1 = 0)) && (decide (r2 = 5)))

noncomputable def ref_CountingOf_L2 (l1 : (List DOp)) (s6_ : (Int × (List Bool))) (s12_ : (Int × (List Bool))) : Option (Step (Int × (List Bool)) (List Bool)) :=
 bif decide (s12_.1 < (l1.length : Int)) then (
  Option.bind (α := (List Bool)) (
   need (inR s12_.2 s12_.1) <|
   need ((gx s12_.2 s12_.1) = true → inR l1 s12_.1) <|
   need (((gx s12_.2 s12_.1) && (decide (((gx l1 s12_.1).Kind) = 3))) = true → inR l1 s12_.1) <|
   need (((gx s12_.2 s12_.1) && (decide (((gx l1 s12_.1).Kind) = 3))) = true → inR l1 s6_.1) <|
   need ((((gx s12_.2 s12_.1) && (decide (((gx l1 s12_.1).Kind) = 3))) && (decide ((((gx l1 s12_.1).Stamp).Site) = (((gx l1 s6_.1).Stamp).Site)))) = true → inR l1 s12_.1) <|
   need ((((gx s12_.2 s12_.1) && (decide (((gx l1 s12_.1).Kind) = 3))) && (decide ((((gx l1 s12_.1).Stamp).Site) = (((gx l1 s6_.1).Stamp).Site)))) = true → inR l1 s6_.1) <|
   bif (((gx s12_.2 s12_.1) && (decide (((gx l1 s12_.1).Kind) = 3))) && (decide ((((gx l1 s12_.1).Stamp).Site) = (((gx l1 s6_.1).Stamp).Site)))) && (decide (((gx l1 s12_.1).Of) = (((gx l1 s6_.1).Stamp).No))) then (
    need (inR s12_.2 s6_.1) <|
    some (s12_.2.set s6_.1.toNat false))
   else (
    some s12_.2)) fun j_14 =>
  bnd (W (s12_.1 + 1)) fun j2 =>
  some (Step.again (j2, j_14)))
 else (
  some (Step.done s12_.2))

noncomputable def ref_CountingOf_L1 (l1 : (List DOp)) (s6_ : (Int × (List Bool))) : Option (Step (Int × (List Bool)) (List Bool)) :=
 bif decide (0 ≤ s6_.1) then (
  Option.bind (α := (List Bool)) (
   need (inR s6_.2 s6_.1) <|
   bnd (s6_.2.set s6_.1.toNat true) fun out2 =>
   bnd (W (s6_.1 + 1)) fun j1 =>
   loop (ref_CountingOf_L2 l1 s6_) (j1, out2)) fun j_8 =>
  bnd (W (s6_.1 - 1)) fun i2 =>
  some (Step.again (i2, j_8)))
 else (
  some (Step.done s6_.2))

/-- drawref1.CountingOf -/
noncomputable def ref_CountingOf (l1 : (List DOp)) : Option (List Bool) :=
 bnd ((l1.length : Int)) fun v1 =>
 need (0 ≤ v1 ∧ v1 ≤ v1 ∧ v1 ≤ 1073741824) <|
 bnd (List.replicate v1.toNat false) fun out1 =>
 bnd (W ((l1.length : Int) - 1)) fun i1 =>
 Option.bind (α := (List Bool)) (
  loop (ref_CountingOf_L1 l1) (i1, out1)) fun j_5 =>
 some j_5

/-- drawlaw1.StatesMatch$1 -/
noncomputable def law_StatesMatch_1 (c0_1 : (List DOp)) : Option (List Bool) :=
 Option.bind (ref_CountingOf c0_1) fun r1 =>
 some r1

noncomputable def slices_Equal_bool_L1 (s1_1 : (List Bool)) (s2_1 : (List Bool)) (i : Int) (s : Unit) : Option (Res Unit (Res Unit Bool)) :=
 need (inR s1_1 i) <|
 need (inR s2_1 i) <|
 bif !decide ((gx s1_1 i) = (gx s2_1 i)) then (
  some (Res.ab (Res.ab false)))
 else (
  some (Res.nx ()))

/-- slices.Equal[[]bool,bool] -/
noncomputable def slices_Equal_bool (s1_1 : (List Bool)) (s2_1 : (List Bool)) : Option Bool :=
 bif !decide ((s1_1.length : Int) = (s2_1.length : Int)) then (
  some false)
 else (
  bindR (σ := Unit) (ρ := Bool) (
   rforE (s1_1.length : Int) (slices_Equal_bool_L1 s1_1 s2_1) (fun s => Res.nx s) ()) fun j_2 =>
  some true)

/-- drawlaw1.lists[bool] -/
noncomputable def law_lists_bool (got1 : (List Bool)) (e1 : Int) (want1 : Int) (right1 : (Option (List Bool))) : Option Bool :=
 bif !decide (want1 = 0) then (
  some ((decide ((got1.length : Int) = 0)) && (decide (e1 = want1))))
 else (
  Option.bind (gd ((decide (e1 = 0))) (right1)) fun r1 =>
  Option.bind (gd ((decide (e1 = 0))) (slices_Equal_bool got1 r1)) fun r2 =>
  some ((decide (e1 = 0)) && r2))

def sortQ_DOp_1 (x : DOp) : Prop := True
instance : Inhabited { x : DOp // sortQ_DOp_1 x } := ⟨⟨default, by unfold sortQ_DOp_1; decide⟩⟩
def sortC_DOp_1 (x y : { x : DOp // sortQ_DOp_1 x }) : Int := cmpL x.1.Stamp.Time x.1.Stamp.Site.b x.1.Stamp.No y.1.Stamp.Time y.1.Stamp.Site.b y.1.Stamp.No

/-- slices.SortFunc[[]drawboard/api.Op,drawboard/api.Op] -/
noncomputable def slices_SortFunc_Op_1 (l : List DOp) : Option (List DOp) := need ((l.length : Int) < 4611686018427387904 ∧ ∀ x ∈ l, sortQ_DOp_1 x) (some (sortF sortC_DOp_1 l))



noncomputable def ref_ThingsOf_L2 (m1 : (GMap Str (GMap Str Str))) (v2 : (List Str)) (id1 : Str) (i : Int) (s : Thing) : Option Thing :=
 need (inR v2 i) <|
 bnd (gx v2 i) fun f1 =>
 need (room (s.Attrs.length + [(⟨f1, (m1.getD id1 (GMap.nil : (GMap Str Str))).getD f1 Str.nil⟩ : Attr)].length)) <|
 some ({ s with Attrs := s.Attrs ++ [(⟨f1, (m1.getD id1 (GMap.nil : (GMap Str Str))).getD f1 Str.nil⟩ : Attr)] })

noncomputable def ref_ThingsOf_L1 (m1 : (GMap Str (GMap Str Str))) (v1 : (List Str)) (i : Int) (s : (List Thing)) : Option (List Thing) :=
 need (inR v1 i) <|
 bnd (gx v1 i) fun id1 =>
 need ((m1.getD id1 (GMap.nil : (GMap Str Str))).size ≤ 1000000000 ∧ ∃ l, Lists (m1.getD id1 (GMap.nil : (GMap Str Str))) l) <|
 bnd (keysS (m1.getD id1 (GMap.nil : (GMap Str Str)))) fun v2 =>
 Option.bind (α := Thing) (
  rfor (v2.length : Int) (ref_ThingsOf_L2 m1 v2 id1) (⟨id1, ([] : List Attr)⟩ : Thing)) fun j_11 =>
 need (room (s.length + [{ j_11 with Attrs := j_11.Attrs }].length)) <|
 some (s ++ [{ j_11 with Attrs := j_11.Attrs }])

/-- drawref1.ThingsOf -/
noncomputable def ref_ThingsOf (m1 : (GMap Str (GMap Str Str))) : Option (List Thing) :=
 need (m1.size ≤ 1000000000 ∧ ∃ l, Lists m1 l) <|
 bnd (keysS m1) fun v1 =>
 Option.bind (α := (List Thing)) (
  rfor (v1.length : Int) (ref_ThingsOf_L1 m1 v1) ([] : List Thing)) fun j_3 =>
 some j_3

noncomputable def ref_StateOf_L1 (l1 : (List DOp)) (counts1 : (List Bool)) (i : Int) (s : (List DOp)) : Option (List DOp) :=
 need (inR l1 i) <|
 bnd (gx l1 i) fun v1 =>
 need (inR counts1 i) <|
 bif (gx counts1 i) && (!decide (v1.Kind = 3)) then (
  need (room (s.length + [v1].length)) <|
  some (s ++ [v1]))
 else (
  some s)

noncomputable def ref_StateOf_L2 (r1 : (List DOp)) (i : Int) (s : (GMap Str (GMap Str Str))) : Option (GMap Str (GMap Str Str)) :=
 need (inR r1 i) <|
 bnd (gx r1 i) fun v2 =>
 bif decide (v2.Kind = 2) then (
  bnd (s.del v2.Id) fun m2 =>
  some m2)
 else (
  Option.bind (α := (GMap Str (GMap Str Str))) (
   bif !s.has v2.Id then (
    some (s.set v2.Id (GMap.nil : (GMap Str Str))))
   else (
    some s)) fun j_21 =>
  need (j_21.has v2.Id = true) <|
  some (j_21.set v2.Id ((j_21.getD v2.Id GMap.nil).set v2.Field v2.Value)))

/-- drawref1.StateOf -/
noncomputable def ref_StateOf (l1 : (List DOp)) : Option (List Thing) :=
 Option.bind (ref_CountingOf l1) fun counts1 =>
 Option.bind (α := (List DOp)) (
  rfor (l1.length : Int) (ref_StateOf_L1 l1 counts1) ([] : List DOp)) fun j_2 =>
 Option.bind (slices_SortFunc_Op_1 j_2) fun r1 =>
 bnd ((GMap.nil : (GMap Str (GMap Str Str)))) fun m1 =>
 Option.bind (α := (GMap Str (GMap Str Str))) (
  rfor (r1.length : Int) (ref_StateOf_L2 r1) m1) fun j_13 =>
 Option.bind (ref_ThingsOf j_13) fun r2 =>
 some r2

/-- drawlaw1.StatesMatch$2 -/
noncomputable def law_StatesMatch_2 (c0_1 : (List DOp)) : Option (List Thing) :=
 Option.bind (ref_StateOf c0_1) fun r1 =>
 some r1

noncomputable def slices_EqualFunc_Thing_L1 (eq1 : (Thing → Thing → Option Bool)) (s1_1 : (List Thing)) (s2_1 : (List Thing)) (i : Int) (s : Unit) : Option (Res Unit (Res Unit Bool)) :=
 need (inR s1_1 i) <|
 bnd (gx s1_1 i) fun v1 =>
 need (inR s2_1 i) <|
 bnd (gx s2_1 i) fun v2 =>
 Option.bind (eq1 v1 v2) fun r1 =>
 bif !r1 then (
  some (Res.ab (Res.ab false)))
 else (
  some (Res.nx ()))

/-- slices.EqualFunc[[]api.Thing,[]api.Thing,api.Thing,api.Thing] -/
noncomputable def slices_EqualFunc_Thing (s1_1 : (List Thing)) (s2_1 : (List Thing)) (eq1 : (Thing → Thing → Option Bool)) : Option Bool :=
 bif !decide ((s1_1.length : Int) = (s2_1.length : Int)) then (
  some false)
 else (
  bindR (σ := Unit) (ρ := Bool) (
   rforE (s1_1.length : Int) (slices_EqualFunc_Thing_L1 eq1 s1_1 s2_1) (fun s => Res.nx s) ()) fun j_2 =>
  some true)

noncomputable def slices_Equal_Attr_L1 (s1_1 : (List Attr)) (s2_1 : (List Attr)) (i : Int) (s : Unit) : Option (Res Unit (Res Unit Bool)) :=
 need (inR s1_1 i) <|
 need (inR s2_1 i) <|
 bif !decide ((gx s1_1 i) = (gx s2_1 i)) then (
  some (Res.ab (Res.ab false)))
 else (
  some (Res.nx ()))

/-- slices.Equal[[]api.Attr,api.Attr] -/
noncomputable def slices_Equal_Attr (s1_1 : (List Attr)) (s2_1 : (List Attr)) : Option Bool :=
 bif !decide ((s1_1.length : Int) = (s2_1.length : Int)) then (
  some false)
 else (
  bindR (σ := Unit) (ρ := Bool) (
   rforE (s1_1.length : Int) (slices_Equal_Attr_L1 s1_1 s2_1) (fun s => Res.nx s) ()) fun j_2 =>
  some true)

/-- drawref1.SameThings$1 -/
noncomputable def ref_SameThings_1 (x1 : Thing) (y1 : Thing) : Option Bool :=
 Option.bind (gd ((decide (x1.Id = y1.Id))) (slices_Equal_Attr x1.Attrs y1.Attrs)) fun r1 =>
 some ((decide (x1.Id = y1.Id)) && r1)

/-- drawref1.SameThings -/
noncomputable def ref_SameThings (a1 : (List Thing)) (b1 : (List Thing)) : Option Bool :=
 Option.bind (slices_EqualFunc_Thing a1 b1 ref_SameThings_1) fun r1 =>
 some r1

/-- drawlaw1.things -/
noncomputable def law_things (l1 : (List Thing)) (e1 : Int) (want1 : Int) (right1 : (Option (List Thing))) : Option Bool :=
 bif !decide (want1 = 0) then (
  some ((decide ((l1.length : Int) = 0)) && (decide (e1 = want1))))
 else (
  Option.bind (gd ((decide (e1 = 0))) (right1)) fun r1 =>
  Option.bind (gd ((decide (e1 = 0))) (ref_SameThings l1 r1)) fun r2 =>
  some ((decide (e1 = 0)) && r2))

/-- drawlaw1.StatesMatch -/
noncomputable def law_StatesMatch (l1 : (List DOp)) : Option Bool :=
 Option.bind (ref_OpsError l1) fun own1 =>
 bif (decide (own1 = 0)) && (decide (200 < (l1.length : Int))) then (
  Option.bind (edit_Check l1) fun r1 =>
  some (decide (r1 = own1)))
 else (
  Option.bind (edit_Counting l1) fun r2 =>
  Option.bind (edit_State l1) fun r3 =>
  Option.bind (law_edits) fun r4 =>
  Option.bind (gd (r4) (edit_Check l1)) fun r5 =>
  Option.bind (gd ((r4 && (decide (r5 = own1)))) (law_lists_bool r2.1 r2.2 own1 (law_StatesMatch_1 l1))) fun r6 =>
  Option.bind (gd (((r4 && (decide (r5 = own1))) && r6)) (law_things r3.1 r3.2 own1 (law_StatesMatch_2 l1))) fun r7 =>
  some (((r4 && (decide (r5 = own1))) && r6) && r7))


end Go.DB
