/-
  Operations: their order, and what is wrong with them.
-/
import Derived.Test.YtjnglmeiifcgjaaGreatDoorOppPuName
import Derived.Test.YtjnglmeiifcgjaaGreatDoorOppPuTErr
set_option linter.unusedSimpArgs false
set_option linter.unusedVariables false
namespace Go.DB
open Go Go.RowKit

/-! Order. -/

def cmpOp (a b : DOp) : Int := cmpO a.Stamp.Site.b a.Stamp.No b.Stamp.Site.b b.Stamp.No
theorem cmpOp_swap (a b : DOp) : cmpOp a b = -cmpOp b a := cmpO_swap _ _ _ _
theorem site_ext {a b : Str} (h : a.b = b.b) : a = b := by cases a; cases b; simp at h; rw [h]

theorem Compare_int (a b : Int) : cmp_Compare_int a b = some (numC a b) := by
  unfold cmp_Compare_int cmp_isNaN_int numC
  simp only [decide_true, Bool.not_true, bind_sm, cond_false]
  by_cases c : a < b
  · rw [decide_eq_true c, cond_true, if_pos c]
  · rw [decide_eq_false c, cond_false, if_neg c]
    by_cases d : b < a
    · rw [decide_eq_true d, cond_true, if_pos d]
    · rw [decide_eq_false d, cond_false, if_neg d]
theorem Or_int (x y : Int) : cmp_Or_int [x, y] = some (if x ≠ 0 then x else y) := by
  unfold cmp_Or_int
  rw [rforE_eq (by simp)]
  have e0 : cmp_Or_int_L1 [x, y] 0 () = some (if x = 0 then .nx () else .ab (.ab x)) := by
    unfold cmp_Or_int_L1
    rw [need_of ⟨by omega, by simp⟩, bnd_eq]
    show (bif !decide (x = 0) then _ else _) = _
    by_cases h : x = 0
    · rw [decide_eq_true h, if_pos h]; rfl
    · rw [decide_eq_false h, if_neg h]; rfl
  have e1 : cmp_Or_int_L1 [x, y] 1 () = some (if y = 0 then .nx () else .ab (.ab y)) := by
    unfold cmp_Or_int_L1
    rw [need_of ⟨by omega, by simp⟩, bnd_eq]
    show (bif !decide (y = 0) then _ else _) = _
    by_cases h : y = 0
    · rw [decide_eq_true h, if_pos h]; rfl
    · rw [decide_eq_false h, if_neg h]; rfl
  show bindR (rgoE (cmp_Or_int_L1 [x, y]) (fun s => Res.nx s) 2 0 ()) _ = _
  by_cases h : x = 0
  · by_cases h' : y = 0
    · rw [if_pos h] at e0
      rw [if_pos h'] at e1
      simp only [rgoE, e0, show (0 + 1 : Int) = 1 from rfl, e1, bindR_nx]
      simp [h, h']
    · rw [h] at e0 e1 ⊢
      simp only [rgoE, e0, if_true, show (0 + 1 : Int) = 1 from rfl, e1, if_neg h', bindR_ab]
      simp
  · simp only [rgoE, e0, if_neg h, bindR_ab]
    simp [h]
theorem order_eq (a b : DOp) : edit_order a b = some (cmpOp a b) := by
  unfold edit_order strings_Compare
  rw [Option.bind_some, Compare_int, Option.bind_some, Or_int]
  rfl
theorem byOp_eq (a b : DOp) : ref_byOp a b = some (cmpOp a b) := by
  unfold ref_byOp strings_Compare
  rw [Option.bind_some, Compare_int, Option.bind_some, Or_int]
  rfl

/-! Errors. -/

def formB (x : DOp) : Bool := ((!decide (x.Of = 0)) && !decide (x.Kind = 3)) || ((!decide (x.Id = Str.nil)) && decide (x.Kind = 3)) || (((!decide (x.Field = Str.nil)) || (!decide (x.Value = Str.nil))) && !decide (x.Kind = 1))
def bodyErr (x : DOp) : Int :=
  if x.Kind < 1 ∨ 3 < x.Kind then 1 else if formB x = true then 2 else
  if x.Kind = 3 then (if x.Of < 1 ∨ W (x.Stamp.No - 1) < x.Of then 10 else 0) else
  if (!nameB x.Id || (decide (x.Kind = 1) && !nameB x.Field)) = true then 5 else if x.Kind = 1 then textErr x.Value else 0
theorem checkBody_eq (x : DOp) : edit_checkBody x = some (bodyErr x) := by
  unfold edit_checkBody bodyErr
  by_cases h1 : x.Kind < 1 ∨ 3 < x.Kind
  · rw [if_pos h1]
    have : (decide (x.Kind < 1) || decide (3 < x.Kind)) = true := by simpa using h1
    rw [this]; rfl
  · rw [if_neg h1]
    have : (decide (x.Kind < 1) || decide (3 < x.Kind)) = false := by simpa using h1
    rw [this, cond_false]
    simp only [bnd_eq, isName_eqE, CheckText_eq]
    have hj : (Option.bind (α := Bool) (bif (!decide (x.Of = 0)) && (!decide (x.Kind = 3)) then some ((!decide (x.Of = 0)) && (!decide (x.Kind = 3))) else
        bif (!decide (x.Id = Str.nil)) && decide (x.Kind = 3) then some ((!decide (x.Id = Str.nil)) && decide (x.Kind = 3)) else some (((!decide (x.Field = Str.nil)) || (!decide (x.Value = Str.nil))) && !decide (x.Kind = 1))) fun b => (some b : Option Bool)) = some (formB x) := by
      unfold formB
      cases (!decide (x.Of = 0)) && (!decide (x.Kind = 3)) <;> cases (!decide (x.Id = Str.nil)) && decide (x.Kind = 3) <;> rfl
    obtain ⟨b, hb, hb2⟩ := Option.bind_eq_some_iff.1 hj
    rw [hb, Option.bind_some, Option.some.inj hb2]
    cases hf : formB x with
    | true => rfl
    | false =>
      simp only [cond_false, Bool.false_eq_true, if_false]
      by_cases h3 : x.Kind = 3
      · have h31 : ¬ x.Kind = 1 := by omega
        simp only [if_pos h3, decide_eq_true h3, decide_eq_false h31, Bool.not_true, gd_false, Option.bind_some, Bool.false_and, cond_false, Bool.true_and, bindR_nx]
        by_cases ho : x.Of < 1 ∨ W (x.Stamp.No - 1) < x.Of
        · have : (decide (x.Of < 1) || decide (W (x.Stamp.No - 1) < x.Of)) = true := by simpa using ho
          rw [this, if_pos ho]; rfl
        · have : (decide (x.Of < 1) || decide (W (x.Stamp.No - 1) < x.Of)) = false := by simpa using ho
          rw [this, if_neg ho]; rfl
      · simp only [if_neg h3, decide_eq_false h3, Bool.not_false, gd_true, Option.bind_some, Bool.true_and, Bool.false_and, cond_false]
        cases hn : nameB x.Id with
        | false => rfl
        | true =>
          simp only [Bool.not_true, cond_false, Bool.false_or]
          by_cases hk : x.Kind = 1
          · simp only [decide_eq_true hk, gd_true, Option.bind_some, Bool.true_and, if_pos hk, cond_true]
            cases hfn : nameB x.Field with
            | false => rfl
            | true =>
              simp only [Bool.not_true, cond_false, Bool.false_eq_true, if_false]
              by_cases ht : textErr x.Value = 0
              · rw [ht]; rfl
              · rw [decide_eq_false ht]; rfl
          · simp only [decide_eq_false hk, gd_false, Option.bind_some, Bool.false_and, if_neg hk, cond_false, Bool.false_eq_true, if_false, bindR_nx]
theorem textErr_nil : textErr Str.nil = 0 := textErr_zero.2 ⟨by decide, by decide, rfl⟩
theorem ite_self0 (e : Int) : (if e = 0 then 0 else e) = e := by split <;> simp_all
theorem opError_eq {x : DOp} (h1 : fits x.Id) (h2 : fits x.Field) (h3 : fits x.Value) : ref_opError x = some (bodyErr x) := by
  unfold ref_opError bodyErr
  rw [In_eq, Option.bind_some]
  by_cases hk : x.Kind < 1 ∨ 3 < x.Kind
  · rw [if_pos hk, decide_eq_false (p := 1 ≤ x.Kind ∧ x.Kind ≤ 3) (by omega)]; rfl
  · rw [if_neg hk, decide_eq_true (p := 1 ≤ x.Kind ∧ x.Kind ≤ 3) (by omega), Bool.not_true, cond_false]
    have hfo : ((((!decide (x.Kind = 1)) && ((!decide (x.Field = Str.nil)) || (!decide (x.Value = Str.nil)))) || ((decide (x.Kind = 3)) && (!decide (x.Id = Str.nil)))) || ((!decide (x.Kind = 3)) && (!decide (x.Of = 0)))) = formB x := by
      unfold formB
      cases decide (x.Kind = 1) <;> cases decide (x.Field = Str.nil) <;> cases decide (x.Value = Str.nil) <;> cases decide (x.Kind = 3) <;> cases decide (x.Id = Str.nil) <;> cases decide (x.Of = 0) <;> rfl
    rw [hfo]
    cases hf : formB x with
    | true => rfl
    | false =>
      simp only [cond_false, Bool.false_eq_true, if_false]
      by_cases h3' : x.Kind = 3
      · rw [if_pos h3', decide_eq_true h3', cond_true, In_eq, Option.bind_some, When_eq, Option.bind_some]
        by_cases ho : x.Of < 1 ∨ W (x.Stamp.No - 1) < x.Of
        · rw [if_pos ho, decide_eq_false (by omega)]; rfl
        · rw [if_neg ho, decide_eq_true (by omega)]; rfl
      · rw [if_neg h3', decide_eq_false h3', cond_false, NameOf_eq h1, Option.bind_some, NameOf_eq h2, TextError_eq h3]
        by_cases hk1 : x.Kind = 1
        · rw [decide_eq_true hk1, if_pos hk1]
          cases nameB x.Id <;> cases nameB x.Field <;> simp [When_eq, First_eq, firstErr_cons, ite_self0]
        · rw [decide_eq_false hk1, if_neg hk1]
          have hv : x.Value = Str.nil := by
            unfold formB at hf
            rw [decide_eq_false hk1, decide_eq_false h3'] at hf
            simp at hf
            exact hf.2.2
          rw [hv, textErr_nil]
          cases nameB x.Id <;> cases nameB x.Field <;> simp [When_eq, First_eq, firstErr_cons]
def zeroOp : DOp := ⟨(⟨(0 : Int), Str.nil, (0 : Int)⟩ : Stamp), (0 : Int), Str.nil, Str.nil, Str.nil, (0 : Int)⟩
/-- What the one at a place is compared with. -/
def befOp (l : List DOp) (i : Nat) : DOp := if 0 < i ∧ (gx l ((i : Int) - 1)).Stamp.Site = (gx l (i : Int)).Stamp.Site then gx l ((i : Int) - 1) else zeroOp
def lateOp (l : List DOp) (i : Nat) : Prop := 0 < i ∧ 0 ≤ cmpOp (gx l ((i : Int) - 1)) (gx l (i : Int))
instance (l : List DOp) (i : Nat) : Decidable (lateOp l i) := by unfold lateOp; exact inferInstance
def opAt (l : List DOp) (i : Nat) : Int :=
  firstErr [if nameB (gx l (i : Int)).Stamp.Site = false then 5 else 0, if lateOp l i then 7 else 0,
    if (gx l (i : Int)).Stamp.No ≠ W ((befOp l i).Stamp.No + 1) ∨ (gx l (i : Int)).Stamp.Time < 1 ∨ 1000000000 < (gx l (i : Int)).Stamp.Time then 3 else 0,
    if (gx l (i : Int)).Stamp.Time ≤ (befOp l i).Stamp.Time then 7 else 0, bodyErr (gx l (i : Int))]
def opsErr (l : List DOp) : Int := if 2000 < l.length then 4 else firstErr ((List.range l.length).map (opAt l))
theorem Check_eq (l : List DOp) : edit_Check l = some (opsErr l) := by
  unfold edit_Check opsErr
  by_cases hl : 2000 < l.length
  · rw [if_pos hl, decide_eq_true (p := (2000 : Int) < (l.length : Int)) (by omega), cond_true]
  · rw [if_neg hl, decide_eq_false (p := (2000 : Int) < (l.length : Int)) (by omega), cond_false]
    have := rforE_errS (n := l.length) (step := edit_Check_L1 l) (fin := fun s => (Res.nx s : Res Unit Int)) (fun _ => ()) (opAt l) (fun e => Res.ab e) (by omega) (fun i hi _ => by
      unfold edit_Check_L1
      have hin : inR l (i : Int) := ⟨by omega, by omega⟩
      have hin2 : decide (0 < (i : Int)) = true → inR l (W ((i : Int) - 1)) := fun h => by
        have := of_decide_eq_true h
        rw [Wk (by omega) (by omega)]; exact ⟨by omega, by omega⟩
      rw [need_of hin, bnd_eq, bnd_eq, need_of hin2]
      have hb : (Option.bind (α := DOp) (bif (decide (0 < (i : Int))) && (decide ((((gx l (W ((i : Int) - 1))).Stamp).Site) = (gx l (i : Int)).Stamp.Site)) then (need (inR l (W ((i : Int) - 1))) <| bnd (gx l (W ((i : Int) - 1))) fun v3 => some v3) else some zeroOp) fun b => (some b : Option DOp)) = some (befOp l i) := by
        unfold befOp
        by_cases h0 : 0 < i
        · rw [decide_eq_true (p := 0 < (i : Int)) (by omega), Wk (by omega) (by omega), Bool.true_and]
          by_cases hs : (gx l ((i : Int) - 1)).Stamp.Site = (gx l (i : Int)).Stamp.Site
          · rw [decide_eq_true hs, cond_true, if_pos ⟨h0, hs⟩, need_of ⟨by omega, by omega⟩]; rfl
          · rw [decide_eq_false hs, cond_false, if_neg (fun e => hs e.2)]; rfl
        · rw [decide_eq_false (p := 0 < (i : Int)) (by omega), Bool.false_and, cond_false, if_neg (fun e => h0 e.1)]; rfl
      obtain ⟨b, hb1, hb2⟩ := Option.bind_eq_some_iff.1 hb
      unfold zeroOp at hb1
      rw [hb1, Option.bind_some, Option.some.inj hb2, isName_eqE, Option.bind_some]
      cases hn : nameB (gx l (i : Int)).Stamp.Site with
      | false =>
        have hv : opAt l i = 5 := by unfold opAt; rw [if_pos hn]; rfl
        rw [hv]; rfl
      | true =>
        simp only [Bool.not_true, cond_false]
        rw [need_of hin2, order_eq]
        have ho : (Option.bind (gd (decide (0 < (i : Int))) (some (cmpOp (gx l (W ((i : Int) - 1))) (gx l (i : Int))))) fun r => (some ((decide (0 < (i : Int))) && (decide (0 ≤ r))) : Option Bool)) = some (decide (lateOp l i)) := by
          by_cases h0 : 0 < i
          · rw [decide_eq_true (p := 0 < (i : Int)) (by omega), gd_true, Wk (by omega) (by omega), Option.bind_some]
            simp [lateOp, h0]
          · rw [decide_eq_false (p := 0 < (i : Int)) (by omega)]
            simp [lateOp, h0]
        obtain ⟨r, hr1, hr2⟩ := Option.bind_eq_some_iff.1 ho
        rw [hr1, Option.bind_some, Option.some.inj hr2]
        have hn' : ¬ nameB (gx l (i : Int)).Stamp.Site = false := by rw [hn]; decide
        by_cases hc : lateOp l i
        · have hv : opAt l i = 7 := by unfold opAt; rw [if_neg hn', if_pos hc]; rfl
          rw [decide_eq_true hc, cond_true, hv]; rfl
        · rw [decide_eq_false hc, cond_false, bnd_eq, checkBody_eq]
          simp only [bnd_eq]
          by_cases hno : (gx l (i : Int)).Stamp.No = W ((befOp l i).Stamp.No + 1)
          · rw [decide_eq_true hno, Bool.not_true, cond_false, Option.bind_some]
            by_cases ht : (gx l (i : Int)).Stamp.Time < 1 ∨ 1000000000 < (gx l (i : Int)).Stamp.Time
            · have hb3 : (decide ((gx l (i : Int)).Stamp.Time < 1) || decide (1000000000 < (gx l (i : Int)).Stamp.Time)) = true := by simpa using ht
              have hv : opAt l i = 3 := by unfold opAt; rw [if_neg hn', if_neg hc, if_pos (Or.inr ht)]; rfl
              rw [hb3, cond_true, hv]; rfl
            · have hb3 : (decide ((gx l (i : Int)).Stamp.Time < 1) || decide (1000000000 < (gx l (i : Int)).Stamp.Time)) = false := by simpa using ht
              have hno' : ¬ ((gx l (i : Int)).Stamp.No ≠ W ((befOp l i).Stamp.No + 1) ∨ (gx l (i : Int)).Stamp.Time < 1 ∨ 1000000000 < (gx l (i : Int)).Stamp.Time) := fun e => Or.elim e (fun e => e hno) ht
              rw [hb3, cond_false]
              by_cases hti : (gx l (i : Int)).Stamp.Time ≤ (befOp l i).Stamp.Time
              · have hv : opAt l i = 7 := by unfold opAt; rw [if_neg hn', if_neg hc, if_neg hno', if_pos hti]; rfl
                rw [decide_eq_true hti, cond_true, hv]; rfl
              · have hv : opAt l i = bodyErr (gx l (i : Int)) := by
                  unfold opAt; rw [if_neg hn', if_neg hc, if_neg hno', if_neg hti]; simp only [firstErr_cons, firstErr_nil, if_pos, ite_self0]
                rw [decide_eq_false hti, cond_false, Option.bind_some, hv]
                by_cases hbo : bodyErr (gx l (i : Int)) = 0
                · rw [decide_eq_true hbo, if_pos hbo]; rfl
                · rw [decide_eq_false hbo, if_neg hbo]; rfl
          · have hv : opAt l i = 3 := by unfold opAt; rw [if_neg hn', if_neg hc, if_pos (Or.inl hno)]; rfl
            rw [decide_eq_false hno, Bool.not_false, cond_true, Option.bind_some, cond_true, hv]; rfl)
    rw [this]
    by_cases c : firstErr ((List.range l.length).map (opAt l)) = 0
    · rw [if_pos c, c]; rfl
    · rw [if_neg c]; rfl
theorem ops_tail {l : List DOp} {i : Nat} {y j9 : DOp} (hy : y = gx l (i : Int)) (hf : fits y) (hn : j9.Stamp.No = (befOp l i).Stamp.No) (ht : j9.Stamp.Time = (befOp l i).Stamp.Time) :
    (Option.bind (ref_NameOf y.Stamp.Site) fun r2 =>
      Option.bind (ref_When (!r2) 5) fun r3 =>
      Option.bind (ref_When (decide (lateOp l i)) 7) fun r4 =>
      Option.bind (gd (!(!decide (y.Stamp.No = (W (j9.Stamp.No + 1))))) (ref_In y.Stamp.Time 1 1000000000)) fun r5 =>
      Option.bind (ref_When ((!decide (y.Stamp.No = (W (j9.Stamp.No + 1)))) || (!r5)) 3) fun r6 =>
      Option.bind (ref_When (decide (y.Stamp.Time ≤ j9.Stamp.Time)) 7) fun r7 =>
      Option.bind (ref_opError y) fun r8 =>
      Option.bind (ref_First [r3, r4, r6, r7, r8]) fun e1 =>
      bif !decide (e1 = 0) then (some (Res.ab (Res.ab e1)) : Option (Res DOp (Res DOp Int))) else (some (Res.nx y))) = some (if opAt l i = 0 then Res.nx y else Res.ab (Res.ab (opAt l i))) := by
  obtain ⟨fs, fk, fi, ff, fv, fo⟩ : fits y.Stamp ∧ fits y.Kind ∧ fits y.Id ∧ fits y.Field ∧ fits y.Value ∧ fits y.Of := hf
  have fst : fits y.Stamp.Site := fs.2.1
  simp only [NameOf_eq fst, opError_eq fi ff fv, In_eq, When_eq, Option.bind_some]
  have h6 : (Option.bind (gd (!(!decide (y.Stamp.No = (W (j9.Stamp.No + 1))))) (some (decide (1 ≤ y.Stamp.Time ∧ y.Stamp.Time ≤ 1000000000)))) fun r5 => (some (if ((!decide (y.Stamp.No = (W (j9.Stamp.No + 1)))) || (!r5)) = true then (3 : Int) else 0) : Option Int)) =
      some (if (gx l (i : Int)).Stamp.No ≠ W ((befOp l i).Stamp.No + 1) ∨ (gx l (i : Int)).Stamp.Time < 1 ∨ 1000000000 < (gx l (i : Int)).Stamp.Time then 3 else 0) := by
    rw [← hy, hn]
    by_cases h : y.Stamp.No = W ((befOp l i).Stamp.No + 1)
    · rw [decide_eq_true h]
      by_cases h2 : 1 ≤ y.Stamp.Time ∧ y.Stamp.Time ≤ 1000000000
      · rw [decide_eq_true h2, if_neg (by omega)]; rfl
      · rw [decide_eq_false h2, if_pos (by omega)]; rfl
    · rw [decide_eq_false h, if_pos (Or.inl h)]; rfl
  obtain ⟨r5, h5, h6⟩ := Option.bind_eq_some_iff.1 h6
  rw [h5, Option.bind_some, Option.some.inj h6, First_eq (by simp), Option.bind_some, ht]
  have hv : firstErr [if (!nameB y.Stamp.Site) = true then 5 else 0, if decide (lateOp l i) = true then 7 else 0,
      if (gx l (i : Int)).Stamp.No ≠ W ((befOp l i).Stamp.No + 1) ∨ (gx l (i : Int)).Stamp.Time < 1 ∨ 1000000000 < (gx l (i : Int)).Stamp.Time then 3 else 0,
      if decide (y.Stamp.Time ≤ (befOp l i).Stamp.Time) = true then 7 else 0, bodyErr y] = opAt l i := by
    unfold opAt
    rw [← hy]
    simp only [Bool.not_eq_true', decide_eq_true_eq]
  rw [hv]
  by_cases h0 : opAt l i = 0
  · rw [decide_eq_true h0, if_pos h0]; rfl
  · rw [decide_eq_false h0, if_neg h0]; rfl
set_option maxHeartbeats 2000000 in
theorem OpsError_eq {l : List DOp} (hf : ∀ x ∈ l, fits x) : ref_OpsError l = some (opsErr l) := by
  unfold ref_OpsError opsErr
  by_cases hl : 2000 < l.length
  · rw [if_pos hl, decide_eq_true (p := (2000 : Int) < (l.length : Int)) (by omega), cond_true]
  · rw [if_neg hl, decide_eq_false (p := (2000 : Int) < (l.length : Int)) (by omega), cond_false, bnd_eq]
    have := rforE_errS (n := l.length) (step := ref_OpsError_L1 l) (fin := fun s => (Res.nx s : Res DOp Int)) (fun i => if i = 0 then zeroOp else gx l ((i : Int) - 1)) (opAt l) (fun e => Res.ab e) (by omega) (fun i hi _ => by
      have hin : inR l (i : Int) := ⟨by omega, by omega⟩
      have hfy := hf _ (gx_mem hin)
      have hnext : (if i + 1 = 0 then zeroOp else gx l (((i + 1 : Nat) : Int) - 1)) = gx l (i : Int) := by
        rw [if_neg (by omega)]
        congr 1
        push_cast; omega
      rw [hnext]
      unfold ref_OpsError_L1
      rw [need_of hin, bnd_eq]
      by_cases h0 : i = 0
      · subst h0
        have hb : befOp l 0 = zeroOp := if_neg (fun e => absurd e.1 (by omega))
        have hlt : ¬ lateOp l 0 := fun e => absurd e.1 (by omega)
        rw [if_pos rfl]
        have hd : decide (0 < ((0 : Nat) : Int)) = false := rfl
        rw [hd]
        by_cases hs : (gx l ((0 : Nat) : Int)).Stamp.Site = zeroOp.Stamp.Site
        · rw [decide_eq_true hs, Bool.not_true, cond_false, Option.bind_some, gd_false, Option.bind_some, Bool.and_false, cond_false, Bool.false_and, Option.bind_some, ← decide_eq_false hlt]
          exact ops_tail rfl hfy (by rw [hb]) (by rw [hb])
        · rw [decide_eq_false hs, Bool.not_false, cond_true, Option.bind_some, gd_false, Option.bind_some, Bool.and_false, cond_false, Bool.false_and, Option.bind_some, ← decide_eq_false hlt]
          exact ops_tail rfl hfy (by rw [hb]; rfl) (by rw [hb]; rfl)
      · rw [if_neg h0]
        have hd : decide (0 < (i : Int)) = true := decide_eq_true (by omega)
        have hp : 0 < i := by omega
        rw [hd, Wk (n := (i : Int) - 1) (by omega) (by omega)]
        by_cases hs : (gx l (i : Int)).Stamp.Site = (gx l ((i : Int) - 1)).Stamp.Site
        · have hb : befOp l i = gx l ((i : Int) - 1) := if_pos ⟨hp, hs.symm⟩
          have hlt : decide (cmpOp (gx l (i : Int)) (gx l ((i : Int) - 1)) ≤ 0) = decide (lateOp l i) := by
            rw [decide_eq_decide]
            unfold lateOp
            have := cmpOp_swap (gx l (i : Int)) (gx l ((i : Int) - 1))
            omega
          rw [decide_eq_true hs, Bool.not_true, cond_false, Option.bind_some, gd_true, byOp_eq, Option.bind_some]
          simp only [hs, decide_true, Bool.not_true, Bool.false_and, cond_false, Bool.true_and]
          rw [Option.bind_some, hlt, ← hs]
          exact ops_tail rfl hfy (by rw [hb]) (by rw [hb])
        · have hb : befOp l i = zeroOp := if_neg (fun e => hs e.2.symm)
          have hs' : ∀ h : (gx l ((i : Int) - 1)).Stamp.Site.b = (gx l (i : Int)).Stamp.Site.b, False := fun h => hs (site_ext h).symm
          have hlt : Op.bytesLess (gx l (i : Int)).Stamp.Site.b (gx l ((i : Int) - 1)).Stamp.Site.b = decide (lateOp l i) := by
            rw [bytesLess_cmp, decide_eq_decide]
            unfold lateOp cmpOp
            rw [cmpO_site hs']
            have h1 := cmpB_swap (gx l ((i : Int) - 1)).Stamp.Site.b (gx l (i : Int)).Stamp.Site.b
            have h2 : cmpB (gx l ((i : Int) - 1)).Stamp.Site.b (gx l (i : Int)).Stamp.Site.b ≠ 0 := fun e => hs' (cmpB_zero e)
            omega
          rw [decide_eq_false hs, Bool.not_false, cond_true, Option.bind_some, gd_true, byOp_eq, Option.bind_some]
          simp only [decide_eq_false hs, Bool.not_false, Bool.true_and, cond_true]
          rw [need_of ⟨by omega, by omega⟩, Option.bind_some, hlt]
          have n0 : (0 : Int) = (befOp l i).Stamp.No := by rw [hb]; rfl
          have t0 : (0 : Int) = (befOp l i).Stamp.Time := by rw [hb]; rfl
          exact ops_tail (j9 := ⟨⟨0, (gx l ((i : Int) - 1)).Stamp.Site, 0⟩, (gx l ((i : Int) - 1)).Kind, (gx l ((i : Int) - 1)).Id, (gx l ((i : Int) - 1)).Field, (gx l ((i : Int) - 1)).Value, (gx l ((i : Int) - 1)).Of⟩) rfl hfy n0 t0)
    change rforE _ _ _ zeroOp = _ at this
    unfold zeroOp at this
    rw [this]
    by_cases c : firstErr ((List.range l.length).map (opAt l)) = 0
    · rw [if_pos c, c]; rfl
    · rw [if_neg c]; rfl
end Go.DB
