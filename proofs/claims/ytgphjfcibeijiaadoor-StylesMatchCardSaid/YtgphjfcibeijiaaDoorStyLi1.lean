/-
  What the functions compute, as plain functions (printed by a program of one's own).
-/
import Derived.Test.YtgphjfcibeijiaaDoorStyTy
set_option maxRecDepth 100000
set_option linter.unusedSimpArgs false
set_option linter.unusedVariables false
namespace Go.DB
open Go Go.RowKit

/-- strings.Trim -/
noncomputable def strings_Trim (s cs : Str) : Option Str := need ((cs.b.length : Int) < 4294967281 ∧ cs.b.all (fun b => decide (b.toNat < 128)) = true) (some (trimS s cs))

/-- drawref1.In -/
noncomputable def ref_In (n1 : Int) (low1 : Int) (high1 : Int) : Option Bool :=
 some ((decide (low1 ≤ n1)) && (decide (n1 ≤ high1)))

noncomputable def ref_NameOf_L1 (s1 : Str) (i : Int) (s : Unit) : Option (Res Unit (Res Unit Bool)) :=
 need (inR s1.b i) <|
 bnd ((⟨((gx s1.b i).toNat : Int)⟩ : KI .u8)) fun c1 =>
 bif (!((decide ((⟨97⟩ : KI .u8).n ≤ c1.n)) && (decide (c1.n ≤ (⟨122⟩ : KI .u8).n)))) && ((decide (i = 0)) || ((!((decide ((⟨48⟩ : KI .u8).n ≤ c1.n)) && (decide (c1.n ≤ (⟨57⟩ : KI .u8).n)))) && (!decide (c1.n = (⟨45⟩ : KI .u8).n)))) then (
  some (Res.ab (Res.ab false)))
 else (
  some (Res.nx ()))

/-- drawref1.NameOf -/
noncomputable def ref_NameOf (s1 : Str) : Option Bool :=
 bindR (σ := Unit) (ρ := Bool) (
  rforE (s1.b.length : Int) (ref_NameOf_L1 s1) (fun s => Res.nx s) ()) fun j_1 =>
 some ((!decide (s1 = Str.nil)) && (decide ((s1.b.length : Int) ≤ 40)))

/-- drawref1.When -/
noncomputable def ref_When (is1 : Bool) (e1 : Int) : Option Int :=
 bif is1 then (
  some e1)
 else (
  some 0)

noncomputable def ref_First_L1 (l1 : (List Int)) (i : Int) (s : Unit) : Option (Res Unit (Res Unit Int)) :=
 need (inR l1 i) <|
 bnd (gx l1 i) fun e1 =>
 bif !decide (e1 = 0) then (
  some (Res.ab (Res.ab e1)))
 else (
  some (Res.nx ()))

/-- drawref1.First -/
noncomputable def ref_First (l1 : (List Int)) : Option Int :=
 bindR (σ := Unit) (ρ := Int) (
  rforE (l1.length : Int) (ref_First_L1 l1) (fun s => Res.nx s) ()) fun j_1 =>
 some 0

noncomputable def law_rulesError_L2 (v1 : Rule) (i : Int) (s : Bool) : Option Bool :=
 need (s = false → inR v1.Value.b i) <|
 need ((s || (decide ((⟨((gx v1.Value.b i).toNat : Int)⟩ : KI .u8).n < (⟨33⟩ : KI .u8).n))) = false → inR v1.Value.b i) <|
 need (((s || (decide ((⟨((gx v1.Value.b i).toNat : Int)⟩ : KI .u8).n < (⟨33⟩ : KI .u8).n))) || (decide ((⟨126⟩ : KI .u8).n < (⟨((gx v1.Value.b i).toNat : Int)⟩ : KI .u8).n))) = false → inR v1.Value.b i) <|
 bnd (((s || (decide ((⟨((gx v1.Value.b i).toNat : Int)⟩ : KI .u8).n < (⟨33⟩ : KI .u8).n))) || (decide ((⟨126⟩ : KI .u8).n < (⟨((gx v1.Value.b i).toNat : Int)⟩ : KI .u8).n))) || (decide ((⟨((gx v1.Value.b i).toNat : Int)⟩ : KI .u8).n = (⟨34⟩ : KI .u8).n))) fun bad2 =>
 some bad2

noncomputable def law_rulesError_L1 (l1 : (List Rule)) (i : Int) (s : Unit) : Option (Res Unit (Res Unit Int)) :=
 need (inR l1 i) <|
 bnd (gx l1 i) fun v1 =>
 Option.bind (ref_In (v1.Value.b.length : Int) 1 40) fun r1 =>
 bnd (!r1) fun bad1 =>
 Option.bind (α := Bool) (
  rfor (v1.Value.b.length : Int) (law_rulesError_L2 v1) bad1) fun j_10 =>
 Option.bind (gd ((!decide (v1.Class = Str.nil))) (ref_NameOf v1.Class)) fun r2 =>
 Option.bind (gd (!((!decide (v1.Class = Str.nil)) && (!r2))) (ref_NameOf v1.Prop_)) fun r3 =>
 Option.bind (ref_When (((!decide (v1.Class = Str.nil)) && (!r2)) || (!r3)) 5) fun r4 =>
 Option.bind (ref_When j_10 2) fun r5 =>
 Option.bind (ref_First [r4, r5]) fun e1 =>
 bif !decide (e1 = 0) then (
  some (Res.ab (Res.ab e1)))
 else (
  some (Res.nx ()))

/-- drawlaw1.rulesError -/
noncomputable def law_rulesError (l1 : (List Rule)) : Option Int :=
 bif decide (100 < (l1.length : Int)) then (
  some 4)
 else (
  bindR (σ := Unit) (ρ := Int) (
   rforE (l1.length : Int) (law_rulesError_L1 l1) (fun s => Res.nx s) ()) fun j_2 =>
  some 0)

/-- desk.isName -/
noncomputable def desk_isName (s1 : Str) : Option Bool :=
 need (((!decide (s1 = Str.nil)) && (decide ((s1.b.length : Int) ≤ 40))) = true → inR s1.b 0) <|
 need ((((!decide (s1 = Str.nil)) && (decide ((s1.b.length : Int) ≤ 40))) && (decide ((⟨97⟩ : KI .u8).n ≤ (⟨((gx s1.b 0).toNat : Int)⟩ : KI .u8).n))) = true → inR s1.b 0) <|
 Option.bind (gd (((((!decide (s1 = Str.nil)) && (decide ((s1.b.length : Int) ≤ 40))) && (decide ((⟨97⟩ : KI .u8).n ≤ (⟨((gx s1.b 0).toNat : Int)⟩ : KI .u8).n))) && (decide ((⟨((gx s1.b 0).toNat : Int)⟩ : KI .u8).n ≤ (⟨122⟩ : KI .u8).n)))) (strings_Trim s1 (⟨[97, 98, 99, 100, 101, 102, 103, 104, 105, 106, 107, 108, 109, 110, 111, 112, 113, 114, 115, 116, 117, 118, 119, 120, 121, 122, 48, 49, 50, 51, 52, 53, 54, 55, 56, 57, 45]⟩ : Str))) fun r1 =>
 some (((((!decide (s1 = Str.nil)) && (decide ((s1.b.length : Int) ≤ 40))) && (decide ((⟨97⟩ : KI .u8).n ≤ (⟨((gx s1.b 0).toNat : Int)⟩ : KI .u8).n))) && (decide ((⟨((gx s1.b 0).toNat : Int)⟩ : KI .u8).n ≤ (⟨122⟩ : KI .u8).n))) && (decide (r1 = Str.nil)))

noncomputable def desk_isValue_L1 (s1 : Str) (i : Int) (s : Unit) : Option (Res Unit (Res Unit Bool)) :=
 need (inR s1.b i) <|
 need ((decide ((⟨((gx s1.b i).toNat : Int)⟩ : KI .u8).n < (⟨33⟩ : KI .u8).n)) = false → inR s1.b i) <|
 need (((decide ((⟨((gx s1.b i).toNat : Int)⟩ : KI .u8).n < (⟨33⟩ : KI .u8).n)) || (decide ((⟨126⟩ : KI .u8).n < (⟨((gx s1.b i).toNat : Int)⟩ : KI .u8).n))) = false → inR s1.b i) <|
 bif ((decide ((⟨((gx s1.b i).toNat : Int)⟩ : KI .u8).n < (⟨33⟩ : KI .u8).n)) || (decide ((⟨126⟩ : KI .u8).n < (⟨((gx s1.b i).toNat : Int)⟩ : KI .u8).n))) || (decide ((⟨((gx s1.b i).toNat : Int)⟩ : KI .u8).n = (⟨34⟩ : KI .u8).n)) then (
  some (Res.ab (Res.ab false)))
 else (
  some (Res.nx ()))

/-- desk.isValue -/
noncomputable def desk_isValue (s1 : Str) : Option Bool :=
 bif (decide (s1 = Str.nil)) || (decide (40 < (s1.b.length : Int))) then (
  some false)
 else (
  bindR (σ := Unit) (ρ := Bool) (
   rforE (s1.b.length : Int) (desk_isValue_L1 s1) (fun s => Res.nx s) ()) fun j_2 =>
  some true)

noncomputable def desk_CheckRules_L1 (l1 : (List Rule)) (i : Int) (s : Unit) : Option (Res Unit (Res Unit Int)) :=
 need (inR l1 i) <|
 bnd (gx l1 i) fun v1 =>
 Option.bind (gd ((!decide (v1.Class = Str.nil))) (desk_isName v1.Class)) fun r1 =>
 bnd ((!decide (v1.Class = Str.nil)) && (!r1)) fun v2 =>
 Option.bind (α := Bool) (
  bif v2 then (
   some v2)
  else (
   Option.bind (desk_isName v1.Prop_) fun r2 =>
   bnd (!r2) fun v3 =>
   some v3)) fun j_10 =>
 bif j_10 then (
  some (Res.ab (Res.ab 5)))
 else (
  Option.bind (desk_isValue v1.Value) fun r3 =>
  bif !r3 then (
   some (Res.ab (Res.ab 2)))
  else (
   some (Res.nx ())))

/-- desk.CheckRules -/
noncomputable def desk_CheckRules (l1 : (List Rule)) : Option Int :=
 bif decide (100 < (l1.length : Int)) then (
  some 4)
 else (
  bindR (σ := Unit) (ρ := Int) (
   rforE (l1.length : Int) (desk_CheckRules_L1 l1) (fun s => Res.nx s) ()) fun j_2 =>
  some 0)

def sortQ_Attr (x : Attr) : Prop := True
instance : Inhabited { x : Attr // sortQ_Attr x } := ⟨⟨default, by unfold sortQ_Attr; decide⟩⟩
def sortC_Attr (x y : { x : Attr // sortQ_Attr x }) : Int := cmpB x.1.Field.b y.1.Field.b

/-- slices.SortFunc[[]drawboard/api.Attr,drawboard/api.Attr] -/
noncomputable def slices_SortFunc_Attr (l : List Attr) : Option (List Attr) := need ((l.length : Int) < 4611686018427387904 ∧ ∀ x ∈ l, sortQ_Attr x) (some (sortF sortC_Attr l))

noncomputable def desk_Style_L2 (l1 : (List Rule)) (v1 : (List Str)) (p8_ : Int × (GMap Str Str)) (i : Int) (s : (GMap Str Str)) : Option (GMap Str Str) :=
 need (inR l1 i) <|
 bnd (gx l1 i) fun v2 =>
 bif decide (v2.Class = (gx v1 p8_.1)) then (
  some (s.set v2.Prop_ v2.Value))
 else (
  some s)

noncomputable def desk_Style_L1 (l1 : (List Rule)) (v1 : (List Str)) (i : Int) (s : (GMap Str Str)) : Option (GMap Str Str) :=
 need (inR v1 i) <|
 rfor (l1.length : Int) (desk_Style_L2 l1 v1 (i, s)) s

noncomputable def desk_Style_L3  (k : Str) (e : Str) (s : (List Attr)) : Option (List Attr) :=
 need (room (s.length + [(⟨k, e⟩ : Attr)].length)) <|
 some (s ++ [(⟨k, e⟩ : Attr)])

/-- desk.Style -/
noncomputable def desk_Style (l1 : (List Rule)) (class1 : Str) : Option ((List Attr) × Int) :=
 Option.bind (desk_CheckRules l1) fun e1 =>
 bif !decide (e1 = 0) then (
  some (([] : (List Attr)), e1))
 else (
  Option.bind (gd ((!decide (class1 = Str.nil))) (desk_isName class1)) fun r1 =>
  bif (!decide (class1 = Str.nil)) && (!r1) then (
   some (([] : (List Attr)), 5))
  else (
   bnd ((GMap.nil : (GMap Str Str))) fun values1 =>
   bnd ([Str.nil, class1]) fun v1 =>
   Option.bind (α := (GMap Str Str)) (
    rfor (v1.length : Int) (desk_Style_L1 l1 v1) values1) fun j_7 =>
   mrangeK j_7 desk_Style_L3 ([] : List Attr) fun j_18 =>
   Option.bind (slices_SortFunc_Attr j_18) fun r2 =>
   some (r2, 0)))

/-- drawlaw1.desks -/
noncomputable def law_desks  : Option Bool :=
 Option.bind (desk_CheckRules ([] : (List Rule))) fun r1 =>
 Option.bind (gd ((decide (r1 = 0))) (desk_CheckRules [(⟨Str.nil, Str.nil, Str.nil⟩ : Rule)])) fun r2 =>
 some ((decide (r1 = 0)) && (decide (r2 = 5)))

/-- drawlaw1.styleOf$1 -/
noncomputable def law_styleOf_1 (a1 : Attr) (c0_1 : Rule) : Option Bool :=
 some (decide (a1.Field = c0_1.Prop_))

noncomputable def slices_IndexFunc_Attr_L1 (f1 : (Attr → Option Bool)) (s1 : (List Attr)) (i : Int) (s : Unit) : Option (Res Unit (Res Unit Int)) :=
 need (inR s1 i) <|
 Option.bind (f1 (gx s1 i)) fun r1 =>
 bif r1 then (
  some (Res.ab (Res.ab i)))
 else (
  some (Res.nx ()))

/-- slices.IndexFunc[[]api.Attr,api.Attr] -/
noncomputable def slices_IndexFunc_Attr (s1 : (List Attr)) (f1 : (Attr → Option Bool)) : Option Int :=
 bindR (σ := Unit) (ρ := Int) (
  rforE (s1.length : Int) (slices_IndexFunc_Attr_L1 f1 s1) (fun s => Res.nx s) ()) fun j_1 =>
 some (-1)

/-- slices.ContainsFunc[[]api.Attr,api.Attr] -/
noncomputable def slices_ContainsFunc_Attr (s1 : (List Attr)) (f1 : (Attr → Option Bool)) : Option Bool :=
 Option.bind (slices_IndexFunc_Attr s1 f1) fun r1 =>
 some (decide (0 ≤ r1))

def sortQ_Attr_1 (x : Attr) : Prop := True
instance : Inhabited { x : Attr // sortQ_Attr_1 x } := ⟨⟨default, by unfold sortQ_Attr_1; decide⟩⟩
def sortC_Attr_1 (x y : { x : Attr // sortQ_Attr_1 x }) : Int := cmpB x.1.Field.b y.1.Field.b

/-- slices.SortFunc[[]drawboard/api.Attr,drawboard/api.Attr] -/
noncomputable def slices_SortFunc_Attr_1 (l : List Attr) : Option (List Attr) := need ((l.length : Int) < 4611686018427387904 ∧ ∀ x ∈ l, sortQ_Attr_1 x) (some (sortF sortC_Attr_1 l))

noncomputable def law_styleOf_L3 (l1 : (List Rule)) (v1 : Rule) (own1 : Bool) (class1 : Str) (i : Int) (s : Attr) : Option Attr :=
 need (inR l1 i) <|
 bnd (gx l1 i) fun v4 =>
 bif (decide (v4.Prop_ = v1.Prop_)) && ((own1 && (decide (v4.Class = class1))) || ((!own1) && (decide (v4.Class = Str.nil)))) then (
  some ({ s with Value := v4.Value }))
 else (
  some s)

noncomputable def law_styleOf_L2 (l1 : (List Rule)) (v1 : Rule) (v3 : (List Bool)) (class1 : Str) (i : Int) (s : Attr) : Option Attr :=
 need (inR v3 i) <|
 bnd (gx v3 i) fun own1 =>
 rfor (l1.length : Int) (law_styleOf_L3 l1 v1 own1 class1) s

noncomputable def law_styleOf_L1 (l1 : (List Rule)) (class1 : Str) (i : Int) (s : (List Attr)) : Option (List Attr) :=
 need (inR l1 i) <|
 bnd (gx l1 i) fun v1 =>
 Option.bind (gd (!((!decide (v1.Class = Str.nil)) && (!decide (v1.Class = class1)))) (slices_ContainsFunc_Attr s (fun x0 => law_styleOf_1 x0 v1))) fun r1 =>
 bif ((!decide (v1.Class = Str.nil)) && (!decide (v1.Class = class1))) || r1 then (
  some s)
 else (
  bnd ((⟨v1.Prop_, Str.nil⟩ : Attr)) fun v2 =>
  bnd ([false, true]) fun v3 =>
  Option.bind (α := Attr) (
   rfor (v3.length : Int) (law_styleOf_L2 l1 v1 v3 class1) v2) fun j_11 =>
  need (room (s.length + [j_11].length)) <|
  some (s ++ [j_11]))

/-- drawlaw1.styleOf -/
noncomputable def law_styleOf (l1 : (List Rule)) (class1 : Str) : Option (List Attr) :=
 Option.bind (α := (List Attr)) (
  rfor (l1.length : Int) (law_styleOf_L1 l1 class1) ([] : List Attr)) fun j_1 =>
 Option.bind (slices_SortFunc_Attr_1 j_1) fun r2 =>
 some r2

/-- drawlaw1.StylesMatch$1 -/
noncomputable def law_StylesMatch_1 (c0_1 : (List Rule)) (c1_1 : Str) : Option (List Attr) :=
 Option.bind (law_styleOf c0_1 c1_1) fun r1 =>
 some r1

noncomputable def slices_Equal_Attr_L1 (s1_1 : (List Attr)) (s2_1 : (List Attr)) (i : Int) (s : Unit) : Option (Res Unit (Res Unit Bool)) :=
 need (inR s1_1 i) <|
 need (inR s2_1 i) <|
 bif !decide ((gx s1_1 i) = (gx s2_1 i)) then (
  some (Res.ab (Res.ab false)))
 else (
  some (Res.nx ()))

/-- slices.Equal[[]api.Attr,api.Attr] -/
noncomputable def slices_Equal_Attr (s1_1 : (List Attr)) (s2_1 : (List Attr)) : Option Bool :=
 bif !decide ((s1_1.length : Int) = (s2_1.length : Int)) then (
  some false)
 else (
  bindR (σ := Unit) (ρ := Bool) (
   rforE (s1_1.length : Int) (slices_Equal_Attr_L1 s1_1 s2_1) (fun s => Res.nx s) ()) fun j_2 =>
  some true)

/-- drawlaw1.lists[api.Attr] -/
noncomputable def law_lists_Attr (got1 : (List Attr)) (e1 : Int) (want1 : Int) (right1 : (Option (List Attr))) : Option Bool :=
 bif !decide (want1 = 0) then (
  some ((decide ((got1.length : Int) = 0)) && (decide (e1 = want1))))
 else (
  Option.bind (gd ((decide (e1 = 0))) (right1)) fun r1 =>
  Option.bind (gd ((decide (e1 = 0))) (slices_Equal_Attr got1 r1)) fun r2 =>
  some ((decide (e1 = 0)) && r2))

/-- drawlaw1.StylesMatch -/
noncomputable def law_StylesMatch (l1 : (List Rule)) (class1 : Str) : Option Bool :=
 Option.bind (law_rulesError l1) fun own1 =>
 Option.bind (desk_Style l1 class1) fun r1 =>
 Option.bind (law_desks) fun r2 =>
 Option.bind (gd (r2) (desk_CheckRules l1)) fun r3 =>
 Option.bind (gd ((r2 && (decide (r3 = own1))) && (!decide (class1 = Str.nil))) (ref_NameOf class1)) fun r4 =>
 Option.bind (gd ((r2 && (decide (r3 = own1)))) (ref_When ((!decide (class1 = Str.nil)) && (!r4)) 5)) fun r5 =>
 Option.bind (gd ((r2 && (decide (r3 = own1)))) (ref_First [own1, r5])) fun r6 =>
 Option.bind (gd ((r2 && (decide (r3 = own1)))) (law_lists_Attr r1.1 r1.2 r6 (law_StylesMatch_1 l1 class1))) fun r7 =>
 some ((r2 && (decide (r3 = own1))) && r7)


end Go.DB
