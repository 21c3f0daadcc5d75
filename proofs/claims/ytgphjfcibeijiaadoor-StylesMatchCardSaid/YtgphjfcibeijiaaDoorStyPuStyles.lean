/-
  StylesMatch: rules of styles.
-/
import Derived.Test.YtgphjfcibeijiaaDoorStyPuName
import Derived.Test.YtgphjfcibeijiaaDoorStyPuMap
set_option linter.unusedSimpArgs false
set_option linter.unusedVariables false
namespace Go.DB
open Go Go.RowKit

/-! Lists in order. -/

theorem sorted_uniq {α : Type} {R : α → α → Prop} (irr : ∀ x, ¬ R x x) (asym : ∀ x y, R x y → R y x → False) : ∀ {a b : List α}, a.Pairwise R → b.Pairwise R → (∀ x, x ∈ a ↔ x ∈ b) → a = b
  | [], [], _, _, _ => rfl
  | [], y :: b, _, _, h => by have := (h y).2 (by simp); simp at this
  | x :: a, [], _, _, h => by have := (h x).1 (by simp); simp at this
  | x :: a, y :: b, ha, hb, h => by
    obtain ⟨a1, a2⟩ := List.pairwise_cons.1 ha
    obtain ⟨b1, b2⟩ := List.pairwise_cons.1 hb
    have hxy : x = y := by
      rcases List.mem_cons.1 ((h x).1 (by simp)) with e | e
      · exact e
      · rcases List.mem_cons.1 ((h y).2 (by simp)) with e' | e'
        · exact e'.symm
        · exact (asym _ _ (a1 y e') (b1 x e)).elim
    subst hxy
    congr 1
    refine sorted_uniq irr asym a2 b2 fun z => ⟨fun hz => ?_, fun hz => ?_⟩
    · rcases List.mem_cons.1 ((h z).1 (by simp [hz])) with e | e
      · subst e; exact (irr _ (a1 _ hz)).elim
      · exact e
    · rcases List.mem_cons.1 ((h z).2 (by simp [hz])) with e | e
      · subst e; exact (irr _ (b1 _ hz)).elim
      · exact e
def fieldLt (a b : Attr) : Prop := cmpB a.Field.b b.Field.b < 0
theorem fieldLt_irr (a : Attr) : ¬ fieldLt a a := by unfold fieldLt; rw [cmpB_self]; omega
theorem fieldLt_asym (a b : Attr) (h : fieldLt a b) (h' : fieldLt b a) : False := by
  unfold fieldLt at *
  have := cmpB_swap a.Field.b b.Field.b
  omega
theorem attr_swo {Q : Attr → Prop} (cf : { x : Attr // Q x } → { x : Attr // Q x } → Int) (hc : ∀ x y, cf x y = cmpB x.1.Field.b y.1.Field.b) : Sort.SWO (Proofs.ltOf cf) := by
  have h : ∀ x y, Proofs.ltOf cf x y = decide (cmpB x.1.Field.b y.1.Field.b < 0) := fun x y => by unfold Proofs.ltOf; rw [hc]
  constructor
  · intro x; rw [h, cmpB_self]; rfl
  · intro x y z h1 h2
    rw [h] at *
    simp only [decide_eq_true_eq] at *
    exact (cmpB_trans (by omega) (by omega)).2 (.inl h1)
  · intro x y z h1 h2
    rw [h] at *
    simp only [decide_eq_false_iff_not, Int.not_lt] at *
    have e1 := cmpB_swap x.1.Field.b y.1.Field.b
    have e2 := cmpB_swap y.1.Field.b z.1.Field.b
    have e3 := cmpB_swap x.1.Field.b z.1.Field.b
    have := (cmpB_trans (a := z.1.Field.b) (b := y.1.Field.b) (c := x.1.Field.b) (by omega) (by omega)).1
    omega
/-- Attributes that are sorted by their fields, no two of which are equal. -/
theorem sort_attrs {Q : Attr → Prop} [Inhabited { x : Attr // Q x }] (cf : { x : Attr // Q x } → { x : Attr // Q x } → Int) (hc : ∀ x y, cf x y = cmpB x.1.Field.b y.1.Field.b) {l : List Attr} (hq : ∀ x ∈ l, Q x) (hn : (l.map (·.Field)).Nodup) :
    (sortF cf l).Pairwise fieldLt ∧ ∀ x, x ∈ sortF cf l ↔ x ∈ l := by
  obtain ⟨hp, hs⟩ := sortF_holds (l := l) (attr_swo cf hc) hq
  refine ⟨?_, fun x => hp.mem_iff⟩
  have hn2 : ((sortF cf l).map (·.Field)).Nodup := (hp.map _).nodup_iff.2 hn
  rw [List.pairwise_iff_getElem]
  intro i j hi hj hij
  have h1 := hs i j hij hj (hq _ (hp.mem_iff.1 (List.getElem_mem hi))) (hq _ (hp.mem_iff.1 (List.getElem_mem hj)))
  rw [hc] at h1
  have h2 := cmpB_swap (sortF cf l)[i].Field.b (sortF cf l)[j].Field.b
  unfold fieldLt
  rcases Int.lt_or_le (cmpB (sortF cf l)[i].Field.b (sortF cf l)[j].Field.b) 0 with c | c
  · exact c
  · exfalso
    have h3 : cmpB (sortF cf l)[i].Field.b (sortF cf l)[j].Field.b = 0 := by simp only at h1; omega
    have h4 := cmpB_zero h3
    have h5 : ((sortF cf l).map (·.Field))[i]'(by simpa using hi) = ((sortF cf l).map (·.Field))[j]'(by simpa using hj) := by
      simp only [List.getElem_map]
      cases hA : (sortF cf l)[i].Field with
      | mk a => cases hB : (sortF cf l)[j].Field with
        | mk b => rw [hA, hB] at h4; simp only at h4; rw [h4]
    have := (List.getElem_inj hn2).1 h5
    omega

/-! Errors. -/

def valC (c : UInt8) : Bool := decide (c.toNat < 33) || decide (126 < c.toNat) || decide (c.toNat = 34)
def valueB (s : Str) : Bool := !decide (s = Str.nil) && decide (s.b.length ≤ 40) && !s.b.any valC
theorem valC_int (c : UInt8) : (((decide ((c.toNat : Int) < 33)) || (decide ((126 : Int) < (c.toNat : Int)))) || (decide ((c.toNat : Int) = 34))) = valC c := by
  unfold valC
  rw [Bool.eq_iff_iff]
  simp only [Bool.or_eq_true, decide_eq_true_eq]
  omega
theorem isValue_eq (s : Str) : desk_isValue s = some (valueB s) := by
  unfold desk_isValue valueB
  by_cases h1 : s = Str.nil
  · simp [h1]
  · by_cases h2 : s.b.length ≤ 40
    · rw [decide_eq_false h1, decide_eq_false (p := (40 : Int) < (s.b.length : Int)) (by omega), Bool.or_self, cond_false, rforE_any valC (Res.ab false) (by omega) (fun i hi => by
        unfold desk_isValue_L1
        rw [need_of hi, need_of (fun _ => hi), need_of (fun _ => hi)]
        simp only
        rw [valC_int]
        cases valC (gx s.b i) <;> rfl), decide_eq_true h2]
      cases s.b.any valC <;> rfl
    · rw [decide_eq_false h1, decide_eq_true (p := (40 : Int) < (s.b.length : Int)) (by omega), Bool.or_true, cond_true, decide_eq_false h2]; rfl
def ruleErr (r : Rule) : Int := if ((!decide (r.Class = Str.nil) && !nameB r.Class) || !nameB r.Prop_) = true then 5 else if valueB r.Value = true then 0 else 2
def rulesErr (l : List Rule) : Int := if 100 < l.length then 4 else firstErr (l.map ruleErr)
theorem CheckRules_eq (l : List Rule) : desk_CheckRules l = some (rulesErr l) := by
  unfold desk_CheckRules rulesErr
  by_cases h : 100 < l.length
  · rw [if_pos h, decide_eq_true (p := (100 : Int) < (l.length : Int)) (by omega), cond_true]
  · rw [if_neg h, decide_eq_false (p := (100 : Int) < (l.length : Int)) (by omega), cond_false, rforE_err ruleErr (fun e => Res.ab e) (by omega) (fun i hi => by
      unfold desk_CheckRules_L1
      rw [need_of hi, bnd_eq, isName_eqD, isName_eqD]
      unfold ruleErr
      rw [isValue_eq]
      cases decide ((gx l i).Class = Str.nil) <;> cases nameB (gx l i).Class <;> cases nameB (gx l i).Prop_ <;> cases valueB (gx l i).Value <;> rfl)]
    by_cases c : firstErr (l.map ruleErr) = 0
    · rw [if_pos c, c]; rfl
    · rw [if_neg c]; rfl
theorem rulesError_eq (l : List Rule) (hf : fits l) : law_rulesError l = some (rulesErr l) := by
  unfold law_rulesError rulesErr
  by_cases h : 100 < l.length
  · rw [if_pos h, decide_eq_true (p := (100 : Int) < (l.length : Int)) (by omega), cond_true]
  · rw [if_neg h, decide_eq_false (p := (100 : Int) < (l.length : Int)) (by omega), cond_false, rforE_err ruleErr (fun e => Res.ab e) (by omega) (fun i hi => by
      obtain ⟨f1, f2, f3⟩ : fits (gx l i).Class ∧ fits (gx l i).Prop_ ∧ fits (gx l i).Value := hf.2 _ (gx_mem hi)
      have f3' : (gx l i).Value.b.length ≤ 9223372036854775807 := f3
      unfold law_rulesError_L1
      rw [need_of hi, bnd_eq, In_eq, Option.bind_some, bnd_eq]
      obtain ⟨s, s1, s2⟩ := rfor_inv (n := ((gx l i).Value.b.length : Int)) (step := law_rulesError_L2 (gx l i)) (s0 := !decide (1 ≤ ((gx l i).Value.b.length : Int) ∧ ((gx l i).Value.b.length : Int) ≤ 40)) (fun j s => s = (!decide (1 ≤ ((gx l i).Value.b.length : Int) ∧ ((gx l i).Value.b.length : Int) ≤ 40) || ((gx l i).Value.b.take j).any valC))
        (by omega) (by simp) (fun j s hj hI => by
          have hin : inR (gx l i).Value.b (j : Int) := ⟨by omega, hj⟩
          have hj' : j < (gx l i).Value.b.length := by omega
          unfold law_rulesError_L2
          rw [need_of (fun _ => hin), need_of (fun _ => hin), need_of (fun _ => hin), bnd_eq]
          refine ⟨_, rfl, ?_⟩
          simp only
          rw [hI, List.take_succ_eq_append_getElem hj', List.any_append, List.any_cons, List.any_nil, Bool.or_false, ← gx_nat hj', ← valC_int]
          simp only [Bool.or_assoc])
      rw [s1, Option.bind_some, s2]
      simp only [Int.toNat_natCast, List.take_length]
      rw [NameOf_eq f1, NameOf_eq f2]
      have hv : (!decide (1 ≤ ((gx l i).Value.b.length : Int) ∧ ((gx l i).Value.b.length : Int) ≤ 40) || (gx l i).Value.b.any valC) = !valueB (gx l i).Value := by
        unfold valueB
        have hnil : (gx l i).Value = Str.nil ↔ (gx l i).Value.b.length = 0 := by
          cases (gx l i).Value with
          | mk b => unfold Str.nil; rw [Str.mk.injEq]; exact List.length_eq_zero_iff.symm
        cases (gx l i).Value.b.any valC with
        | true => simp
        | false =>
          rw [Bool.eq_iff_iff]
          simp only [Bool.or_false, Bool.not_false, Bool.and_true, Bool.not_eq_true', Bool.and_eq_false_iff, decide_eq_false_iff_not, Bool.not_eq_false', decide_eq_true_eq, hnil]
          omega
      rw [hv]
      unfold ruleErr
      cases decide ((gx l i).Class = Str.nil) <;> cases nameB (gx l i).Class <;> cases nameB (gx l i).Prop_ <;> cases valueB (gx l i).Value <;> simp [When_eq, First_eq, firstErr_cons])]
    by_cases c : firstErr (l.map ruleErr) = 0
    · rw [if_pos c, c]; rfl
    · rw [if_neg c]; rfl

/-! Values. -/

/-- The last value that rules of a class give a property. -/
def valOf (c p : Str) : List Rule → Option Str → Option Str
  | [], o => o
  | r :: l, o => valOf c p l (if r.Class = c ∧ r.Prop_ = p then some r.Value else o)
theorem valOf_snoc {c p : Str} {r : Rule} : ∀ {l : List Rule} {o : Option Str}, valOf c p (l ++ [r]) o = if r.Class = c ∧ r.Prop_ = p then some r.Value else valOf c p l o
  | [], _ => rfl
  | x :: l, o => by
    show valOf c p (l ++ [r]) _ = _
    rw [valOf_snoc]; rfl
theorem valOf_or {c p : Str} : ∀ {l : List Rule} {o : Option Str}, valOf c p l o = (valOf c p l none).or o
  | [], o => by simp [valOf]
  | x :: l, o => by
    unfold valOf
    by_cases h : x.Class = c ∧ x.Prop_ = p
    · rw [if_pos h, if_pos h]
      rw [valOf_or (o := some x.Value)]
      cases valOf c p l none <;> rfl
    · rw [if_neg h, if_neg h]; exact valOf_or
theorem valOf_none {c p : Str} : ∀ {l : List Rule}, valOf c p l none = none ↔ ∀ r ∈ l, ¬ (r.Class = c ∧ r.Prop_ = p)
  | [] => by simp [valOf]
  | x :: l => by
    unfold valOf
    rw [List.forall_mem_cons]
    by_cases h : x.Class = c ∧ x.Prop_ = p
    · rw [if_pos h, valOf_or]
      cases valOf c p l none <;> simp [h]
    · rw [if_neg h, valOf_none]; simp [h]
/-- What a class has. -/
def style (l : List Rule) (cl p : Str) : Option Str := valOf cl p l (valOf Str.nil p l none)
theorem style_none {l : List Rule} {cl p : Str} : style l cl p = none ↔ ∀ r ∈ l, ¬ ((r.Class = Str.nil ∨ r.Class = cl) ∧ r.Prop_ = p) := by
  unfold style
  rw [valOf_or]
  constructor
  · intro h r hr
    have h1 : valOf cl p l none = none := by cases hh : valOf cl p l none <;> simp_all
    have h2 : valOf Str.nil p l none = none := by rw [h1] at h; simpa using h
    have a := valOf_none.1 h1 r hr
    have b := valOf_none.1 h2 r hr
    rintro ⟨e | e, e'⟩
    · exact b ⟨e, e'⟩
    · exact a ⟨e, e'⟩
  · intro h
    have h1 : valOf cl p l none = none := valOf_none.2 fun r hr e => h r hr ⟨.inr e.1, e.2⟩
    have h2 : valOf Str.nil p l none = none := valOf_none.2 fun r hr e => h r hr ⟨.inl e.1, e.2⟩
    rw [h1, h2]; rfl
theorem set_f {m : GMap Str Str} {k x v : Str} : (m.set k v).f x = if x = k then some v else m.f x := rfl

/-- One pass of the program over the rules. -/
theorem pass_eq {l : List Rule} {v1 : List Str} {p8 : Int × GMap Str Str} {c : Str} (hl : l.length ≤ 100) (hc : gx v1 p8.1 = c) {m0 : GMap Str Str} {N : Nat} (hm : ∃ e, Lists m0 e ∧ e.length ≤ N) :
    ∃ m, rfor (l.length : Int) (desk_Style_L2 l v1 p8) m0 = some m ∧ (∀ p, m.f p = valOf c p l (m0.f p)) ∧ ∃ e, Lists m e ∧ e.length ≤ N + l.length := by
  obtain ⟨m, m1, m2, m3⟩ := rfor_inv (n := (l.length : Int)) (step := desk_Style_L2 l v1 p8) (s0 := m0) (fun i m => (∀ p, m.f p = valOf c p (l.take i) (m0.f p)) ∧ ∃ e, Lists m e ∧ e.length ≤ N + i) (by omega) ⟨fun p => rfl, hm⟩ (fun i m hi hI => by
    obtain ⟨i1, e, i2, i3⟩ := hI
    have hi' : i < l.length := by omega
    unfold desk_Style_L2
    rw [need_of ⟨by omega, hi⟩, bnd_eq, hc, gx_nat hi']
    by_cases h : l[i].Class = c
    · rw [decide_eq_true h, cond_true]
      refine ⟨_, rfl, fun p => ?_, ?_⟩
      · rw [set_f, List.take_succ_eq_append_getElem hi', valOf_snoc, i1 p]
        by_cases q : p = l[i].Prop_
        · rw [if_pos q, if_pos ⟨h, q.symm⟩]
        · rw [if_neg q, if_neg (fun e => q e.2.symm)]
      · by_cases q : ∀ x ∈ e, x.1 ≠ l[i].Prop_
        · exact ⟨_, i2.push q, by simp; omega⟩
        · obtain ⟨x, hx⟩ : ∃ x, x ∈ e ∧ x.1 = l[i].Prop_ := by
            refine Classical.byContradiction fun hno => q fun x hx e => hno ⟨x, hx, e⟩
          obtain ⟨j, hj, rfl⟩ := List.getElem_of_mem hx.1
          have := i2.put (j := j) (x := e[j]) (v := l[i].Value) (List.getElem?_eq_getElem hj)
          rw [hx.2] at this
          exact ⟨_, this, by simp; omega⟩
    · rw [decide_eq_false h, cond_false]
      refine ⟨_, rfl, fun p => ?_, e, i2, by omega⟩
      rw [List.take_succ_eq_append_getElem hi', valOf_snoc, i1 p, if_neg (fun e => h e.1)])
  simp only [Int.toNat_natCast, List.take_length] at m2 m3
  exact ⟨m, m1, m2, m3⟩
theorem values_eq {l : List Rule} {cl : Str} (hl : l.length ≤ 100) : ∃ m, rfor (([Str.nil, cl] : List Str).length : Int) (desk_Style_L1 l [Str.nil, cl]) (GMap.nil : GMap Str Str) = some m ∧ (∀ p, m.f p = style l cl p) ∧ ∃ e, Lists m e ∧ e.length ≤ 200 := by
  rw [rfor_eq (by simp)]
  show ∃ m, rgo (desk_Style_L1 l [Str.nil, cl]) 2 0 GMap.nil = some m ∧ _
  obtain ⟨m1, a1, a2, a3⟩ := pass_eq (v1 := [Str.nil, cl]) (p8 := (0, (GMap.nil : GMap Str Str))) (c := Str.nil) (m0 := (GMap.nil : GMap Str Str)) (N := 0) hl rfl ⟨[], Lists.nil, by simp⟩
  obtain ⟨m2, b1, b2, b3⟩ := pass_eq (v1 := [Str.nil, cl]) (p8 := (1, m1)) (c := cl) (m0 := m1) hl rfl a3
  have e1 : desk_Style_L1 l [Str.nil, cl] 0 GMap.nil = some m1 := by
    unfold desk_Style_L1
    rw [need_of ⟨by omega, by simp⟩, a1]
  have e2 : desk_Style_L1 l [Str.nil, cl] 1 m1 = some m2 := by
    unfold desk_Style_L1
    rw [need_of ⟨by omega, by simp⟩, b1]
  simp only [rgo, e1, show (0 + 1 : Int) = 1 from rfl, e2]
  refine ⟨m2, rfl, fun p => ?_, ?_⟩
  · rw [b2, a2]; rfl
  · obtain ⟨e, h1, h2⟩ := b3
    exact ⟨e, h1, by omega⟩

/-- The reference's value. -/
theorem refval_eq {l : List Rule} {r : Rule} {cl : Str} (hl : l.length ≤ 100) : rfor (([false, true] : List Bool).length : Int) (law_styleOf_L2 l r [false, true] cl) (⟨r.Prop_, Str.nil⟩ : Attr) = some ⟨r.Prop_, (style l cl r.Prop_).getD Str.nil⟩ := by
  have key : ∀ (own : Bool) (c : Str), c = (if own = true then cl else Str.nil) → ∀ v : Str, rfor (l.length : Int) (law_styleOf_L3 l r own cl) (⟨r.Prop_, v⟩ : Attr) = some ⟨r.Prop_, (valOf c r.Prop_ l none).getD v⟩ := by
    intro own c hc v
    obtain ⟨s, s1, s2⟩ := rfor_inv (n := (l.length : Int)) (step := law_styleOf_L3 l r own cl) (s0 := (⟨r.Prop_, v⟩ : Attr)) (fun i s => s = ⟨r.Prop_, (valOf c r.Prop_ (l.take i) none).getD v⟩) (by omega) rfl (fun i s hi hI => by
      have hi' : i < l.length := by omega
      subst hI
      unfold law_styleOf_L3
      rw [need_of ⟨by omega, hi⟩, bnd_eq, gx_nat hi', List.take_succ_eq_append_getElem hi', valOf_snoc]
      have hh : ((decide (l[i].Prop_ = r.Prop_)) && ((own && (decide (l[i].Class = cl))) || ((!own) && (decide (l[i].Class = Str.nil))))) = decide (l[i].Class = c ∧ l[i].Prop_ = r.Prop_) := by
        subst hc
        cases own <;> simp [and_comm, Bool.and_comm]
      rw [hh]
      by_cases q : l[i].Class = c ∧ l[i].Prop_ = r.Prop_
      · rw [decide_eq_true q, cond_true, if_pos q]; exact ⟨_, rfl, rfl⟩
      · rw [decide_eq_false q, cond_false, if_neg q]; exact ⟨_, rfl, rfl⟩)
    rw [s1, s2]; simp
  rw [rfor_eq (by simp)]
  show rgo (law_styleOf_L2 l r [false, true] cl) 2 0 _ = _
  have e1 : law_styleOf_L2 l r [false, true] cl 0 ⟨r.Prop_, Str.nil⟩ = some ⟨r.Prop_, (valOf Str.nil r.Prop_ l none).getD Str.nil⟩ := by
    unfold law_styleOf_L2
    rw [need_of ⟨by omega, by simp⟩, bnd_eq]
    exact key false Str.nil rfl Str.nil
  have e2 : law_styleOf_L2 l r [false, true] cl 1 ⟨r.Prop_, (valOf Str.nil r.Prop_ l none).getD Str.nil⟩ = some ⟨r.Prop_, (valOf cl r.Prop_ l none).getD ((valOf Str.nil r.Prop_ l none).getD Str.nil)⟩ := by
    unfold law_styleOf_L2
    rw [need_of ⟨by omega, by simp⟩, bnd_eq]
    exact key true cl rfl _
  simp only [rgo, e1, show (0 + 1 : Int) = 1 from rfl, e2]
  unfold style
  rw [valOf_or (c := cl) (o := valOf Str.nil r.Prop_ l none)]
  cases valOf cl r.Prop_ l none <;> rfl
/-- What the reference gathers. -/
theorem gather_eq {l : List Rule} {cl : Str} (hl : l.length ≤ 100) : ∃ out, rfor (l.length : Int) (law_styleOf_L1 l cl) ([] : List Attr) = some out ∧ (out.map (·.Field)).Nodup ∧ (∀ a, a ∈ out ↔ style l cl a.Field = some a.Value) ∧ out.length ≤ 100 := by
  obtain ⟨out, o1, o2, o3, o4⟩ := rfor_inv (n := (l.length : Int)) (step := law_styleOf_L1 l cl) (s0 := ([] : List Attr))
    (fun i s => (s.map (·.Field)).Nodup ∧ (∀ a, a ∈ s ↔ (∃ r ∈ l.take i, (r.Class = Str.nil ∨ r.Class = cl) ∧ r.Prop_ = a.Field) ∧ a.Value = (style l cl a.Field).getD Str.nil) ∧ s.length ≤ i) (by omega) ⟨by simp, by simp, by simp⟩ (fun i s hi hI => by
    obtain ⟨i1, i2, i3⟩ := hI
    have hi' : i < l.length := by omega
    unfold law_styleOf_L1
    rw [need_of ⟨by omega, hi⟩, bnd_eq, gx_nat hi']
    have hco : slices_ContainsFunc_Attr s (fun x0 => law_styleOf_1 x0 l[i]) = some (s.any fun a => decide (a.Field = l[i].Prop_)) := by
      unfold slices_ContainsFunc_Attr slices_IndexFunc_Attr
      rw [rforE_index (fun a => decide (a.Field = l[i].Prop_)) (by omega) (fun j h => by
        unfold slices_IndexFunc_Attr_L1 law_styleOf_1
        rw [need_of ⟨by omega, by omega⟩, gx_nat h, Option.bind_some]
        cases decide (s[j].Field = l[i].Prop_) <;> rfl)]
      have := idx_any (l := s) (p := fun a => decide (a.Field = l[i].Prop_))
      cases hf : s.findIdx? (fun a => decide (a.Field = l[i].Prop_)) with
      | none => rw [hf] at this; simpa using this
      | some q => rw [hf] at this; simpa using this
    by_cases hcl : l[i].Class = Str.nil ∨ l[i].Class = cl
    · have hb : ((!decide (l[i].Class = Str.nil)) && (!decide (l[i].Class = cl))) = false := by
        rcases hcl with e | e <;> simp [e]
      rw [hb, Bool.not_false, gd_true, hco, Option.bind_some, Bool.false_or]
      by_cases hin : ∃ a ∈ s, a.Field = l[i].Prop_
      · have : (s.any fun a => decide (a.Field = l[i].Prop_)) = true := by
          obtain ⟨a, ha, e⟩ := hin
          exact List.any_eq_true.2 ⟨a, ha, by simpa using e⟩
        rw [this, cond_true]
        refine ⟨_, rfl, i1, fun a => ?_, by omega⟩
        rw [i2 a, List.take_succ_eq_append_getElem hi']
        constructor
        · rintro ⟨⟨r, hr, h⟩, hv⟩; exact ⟨⟨r, List.mem_append_left _ hr, h⟩, hv⟩
        · rintro ⟨⟨r, hr, h⟩, hv⟩
          refine ⟨?_, hv⟩
          rcases List.mem_append.1 hr with hr | hr
          · exact ⟨r, hr, h⟩
          · rw [List.mem_singleton] at hr
            subst hr
            obtain ⟨b, hb1, hb2⟩ := hin
            obtain ⟨⟨r', q1, q2, q3⟩, _⟩ := (i2 b).1 hb1
            exact ⟨r', q1, q2, by rw [q3, hb2, h.2]⟩
      · have : (s.any fun a => decide (a.Field = l[i].Prop_)) = false := by
          rw [List.any_eq_false]
          intro a ha e
          exact hin ⟨a, ha, by simpa using e⟩
        rw [this, cond_false, bnd_eq, bnd_eq, refval_eq hl, Option.bind_some, need_of (by rw [room_iff]; simp; omega)]
        refine ⟨_, rfl, ?_, fun a => ?_, by simp; omega⟩
        · rw [List.map_append, List.nodup_append]
          refine ⟨i1, by simp, fun x hx y hy e => ?_⟩
          obtain ⟨a, ha, rfl⟩ := List.mem_map.1 hx
          simp at hy
          exact hin ⟨a, ha, by rw [e, hy]⟩
        · rw [List.mem_append, List.mem_singleton, i2 a, List.take_succ_eq_append_getElem hi']
          constructor
          · rintro (⟨⟨r, hr, h⟩, hv⟩ | rfl)
            · exact ⟨⟨r, List.mem_append_left _ hr, h⟩, hv⟩
            · exact ⟨⟨l[i], List.mem_append_right _ (List.mem_singleton.2 rfl), hcl, rfl⟩, rfl⟩
          · rintro ⟨⟨r, hr, h⟩, hv⟩
            rcases List.mem_append.1 hr with hr | hr
            · exact .inl ⟨⟨r, hr, h⟩, hv⟩
            · rw [List.mem_singleton] at hr
              subst hr
              right
              cases a with
              | mk f v => simp only at h hv ⊢; rw [Attr.mk.injEq]; exact ⟨h.2.symm, by rw [hv, h.2]⟩
    · have hb : ((!decide (l[i].Class = Str.nil)) && (!decide (l[i].Class = cl))) = true := by
        rw [not_or] at hcl; simp [hcl.1, hcl.2]
      rw [hb, Bool.not_true, gd_false, Option.bind_some, Bool.true_or, cond_true]
      refine ⟨_, rfl, i1, fun a => ?_, by omega⟩
      rw [i2 a, List.take_succ_eq_append_getElem hi']
      constructor
      · rintro ⟨⟨r, hr, h⟩, hv⟩; exact ⟨⟨r, List.mem_append_left _ hr, h⟩, hv⟩
      · rintro ⟨⟨r, hr, h⟩, hv⟩
        refine ⟨?_, hv⟩
        rcases List.mem_append.1 hr with hr | hr
        · exact ⟨r, hr, h⟩
        · rw [List.mem_singleton] at hr
          subst hr
          exact absurd h.1 hcl)
  simp only [Int.toNat_natCast, List.take_length] at o3 o4
  refine ⟨out, o1, o2, fun a => ?_, by omega⟩
  rw [o3 a]
  constructor
  · rintro ⟨⟨r, hr, h⟩, hv⟩
    cases hs : style l cl a.Field with
    | none => exact absurd h (style_none.1 hs r hr)
    | some v => rw [hs] at hv; rw [hv]; rfl
  · intro hs
    refine ⟨Classical.byContradiction fun hno => ?_, by rw [hs]; rfl⟩
    have : style l cl a.Field = none := style_none.2 fun r hr h => hno ⟨r, hr, h⟩
    rw [hs] at this; cases this

theorem attrs_fold : ∀ (e : List (Str × Str)) (s : List Attr), s.length + e.length ≤ 1000 → mfold desk_Style_L3 e s = some (s ++ e.map (fun x => (⟨x.1, x.2⟩ : Attr)))
  | [], s, _ => by simp [mfold]
  | x :: e, s, h => by
    rw [List.length_cons] at h
    unfold mfold desk_Style_L3
    rw [need_of (by rw [room_iff]; simp; omega), Option.bind_some]
    have := attrs_fold e (s ++ [(⟨x.1, x.2⟩ : Attr)]) (by simp; omega)
    unfold desk_Style_L3 at this
    rw [this]
    simp
theorem Equal_Attr_self (s : List Attr) (hl : s.length ≤ 1000) : slices_Equal_Attr s s = some true := by
  unfold slices_Equal_Attr
  rw [decide_eq_true rfl, Bool.not_true, cond_false]
  obtain ⟨e, e1, e2⟩ := rforE_inv (n := (s.length : Int)) (step := slices_Equal_Attr_L1 s s) (fin := fun s => (Res.nx s : Res Unit Bool)) (s0 := ()) (fun _ _ => True) (fun e => e = Res.nx ()) (by omega) trivial (fun i u hi _ => by
    left
    unfold slices_Equal_Attr_L1
    rw [need_of ⟨by omega, hi⟩, need_of ⟨by omega, hi⟩, decide_eq_true rfl]
    exact ⟨_, rfl, trivial⟩) (fun u _ => by cases u; rfl)
  rw [e1, e2]; rfl

/-- Both give the same attributes. -/
theorem style_both {l : List Rule} {cl : Str} (he : rulesErr l = 0) (hn : ((!decide (cl = Str.nil)) && (!nameB cl)) = false) : ∃ T, desk_Style l cl = some (T, 0) ∧ law_styleOf l cl = some T ∧ T.length ≤ 1000 := by
  have hl : l.length ≤ 100 := by
    unfold rulesErr at he
    by_cases h : 100 < l.length
    · rw [if_pos h] at he; omega
    · omega
  obtain ⟨m, m1, m2, e0, m3, m4⟩ := values_eq (cl := cl) hl
  obtain ⟨out, o1, o2, o3, o4⟩ := gather_eq (cl := cl) hl
  obtain ⟨t1, t2⟩ := sort_attrs sortC_Attr_1 (fun _ _ => rfl) (l := out) (fun _ _ => trivial) o2
  have hlen : (sortF sortC_Attr_1 out).length ≤ 1000 := by
    obtain ⟨hp, _⟩ := sortF_holds (l := out) (attr_swo sortC_Attr_1 (fun _ _ => rfl)) (fun _ _ => trivial)
    rw [hp.length_eq]; omega
  refine ⟨sortF sortC_Attr_1 out, ?_, ?_, hlen⟩
  · unfold desk_Style
    rw [CheckRules_eq, he, Option.bind_some, decide_eq_true rfl, Bool.not_true, cond_false, isName_eqD]
    have hg : (Option.bind (gd ((!decide (cl = Str.nil))) (some (nameB cl))) fun r1 => (some ((!decide (cl = Str.nil)) && (!r1)) : Option Bool)) = some false := by
      cases hc : decide (cl = Str.nil) with
      | true => rfl
      | false => rw [hc] at hn; simp at hn; rw [hn]; rfl
    obtain ⟨r1, h1, h2⟩ := Option.bind_eq_some_iff.1 hg
    rw [h1, Option.bind_some, Option.some.inj h2, cond_false, bnd_eq, bnd_eq, m1, Option.bind_some]
    refine mrangeK_of m3 fun e he => ?_
    have hel : e.length ≤ 200 := by rw [(he.perm m3).length_eq]; exact m4
    refine ⟨_, attrs_fold e [] (by simp; omega), ?_⟩
    have hnd : ((e.map (fun x => (⟨x.1, x.2⟩ : Attr))).map (·.Field)).Nodup := by
      rw [List.map_map]; exact he.nodup
    obtain ⟨u1, u2⟩ := sort_attrs sortC_Attr (fun _ _ => rfl) (l := e.map (fun x => (⟨x.1, x.2⟩ : Attr))) (fun _ _ => trivial) hnd
    unfold slices_SortFunc_Attr
    rw [List.nil_append, need_of ⟨by simp; omega, fun _ _ => trivial⟩, Option.bind_some]
    have : sortF sortC_Attr (e.map (fun x => (⟨x.1, x.2⟩ : Attr))) = sortF sortC_Attr_1 out := sorted_uniq fieldLt_irr fieldLt_asym u1 t1 fun x => by
      rw [u2, t2, o3 x, ← m2, ← he.mem]
      constructor
      · intro h
        obtain ⟨y, hy, rfl⟩ := List.mem_map.1 h
        exact hy
      · intro h; exact List.mem_map.2 ⟨_, h, rfl⟩
    rw [this]
  · unfold law_styleOf
    rw [o1, Option.bind_some]
    unfold slices_SortFunc_Attr_1
    rw [need_of ⟨by omega, fun _ _ => trivial⟩]
    rfl

theorem desks_eq : law_desks = some true := by
  unfold law_desks
  rw [CheckRules_eq, CheckRules_eq]
  have h1 : rulesErr [] = 0 := rfl
  have h2 : rulesErr [(⟨Str.nil, Str.nil, Str.nil⟩ : Rule)] = 5 := by decide
  rw [h1, h2]; rfl
theorem StylesMatch_true (l : List Rule) (cl : Str) (hf : fits l) (hc : fits cl) : law_StylesMatch l cl = some true := by
  unfold law_StylesMatch
  rw [rulesError_eq l hf, Option.bind_some, desks_eq, CheckRules_eq]
  by_cases he : rulesErr l = 0
  · cases hn : ((!decide (cl = Str.nil)) && (!nameB cl)) with
    | false =>
      obtain ⟨T, t1, t2, t3⟩ := style_both he hn
      have hr : law_StylesMatch_1 l cl = some T := by unfold law_StylesMatch_1; rw [t2]; rfl
      have hg : (Option.bind (gd (!decide (cl = Str.nil)) (some (nameB cl))) fun r4 => (some ((!decide (cl = Str.nil)) && (!r4)) : Option Bool)) = some false := by
        cases hc : decide (cl = Str.nil) with
        | true => rfl
        | false => rw [hc] at hn; simp at hn; rw [hn]; rfl
      obtain ⟨r4, h1, h2⟩ := Option.bind_eq_some_iff.1 hg
      rw [t1, he]
      simp only [Option.bind_some, gd_true, decide_true, Bool.and_self, Bool.true_and, NameOf_eq hc]
      rw [h1, Option.bind_some, Option.some.inj h2, When_eq]
      simp only [Option.bind_some, Bool.false_eq_true, if_false]
      rw [First_eq (by simp)]
      show (Option.bind (law_lists_Attr T 0 0 (law_StylesMatch_1 l cl)) fun r7 => some r7) = _
      unfold law_lists_Attr
      rw [hr]
      simp [Equal_Attr_self T t3]
    | true =>
      have hd : desk_Style l cl = some ([], 5) := by
        unfold desk_Style
        rw [CheckRules_eq, he, Option.bind_some, decide_eq_true rfl, Bool.not_true, cond_false, isName_eqD]
        rw [Bool.and_eq_true] at hn
        rw [hn.1, gd_true, Option.bind_some, hn.2]; rfl
      rw [Bool.and_eq_true] at hn
      rw [hd, he]
      simp only [Option.bind_some, gd_true, decide_true, Bool.and_self, Bool.true_and, NameOf_eq hc, hn.1, hn.2, When_eq, if_true]
      rw [First_eq (by simp)]
      rfl
  · have hd : desk_Style l cl = some ([], rulesErr l) := by
      unfold desk_Style
      rw [CheckRules_eq, Option.bind_some, decide_eq_false he]; rfl
    rw [hd]
    simp only [Option.bind_some, gd_true, decide_true, Bool.and_self, Bool.true_and]
    obtain ⟨r4, h4⟩ : ∃ r4, gd (!decide (cl = Str.nil)) (ref_NameOf cl) = some r4 := by
      rw [NameOf_eq hc]
      cases decide (cl = Str.nil) with
      | true => exact ⟨_, rfl⟩
      | false => exact ⟨_, rfl⟩
    rw [h4, Option.bind_some, When_eq, Option.bind_some, First_eq (by simp), Option.bind_some, firstErr_cons, if_neg he]
    unfold law_lists_Attr
    simp [he]
end Go.DB
