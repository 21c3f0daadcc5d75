/-
  Operations: their order, and what is wrong with them.
-/
import Derived.Test.YtchnjieebkkhnaaGreatDoorDifPuName
import Derived.Test.YtchnjieebkkhnaaGreatDoorDifPuTErr
set_option linter.unusedSimpArgs false
set_option linter.unusedVariables false
namespace Go.DB
open Go Go.RowKit

theorem sorted_uniq {α : Type} {R : α → α → Prop} (irr : ∀ x, ¬ R x x) (asym : ∀ x y, R x y → R y x → False) : ∀ {a b : List α}, a.Pairwise R → b.Pairwise R → (∀ x, x ∈ a ↔ x ∈ b) → a = b
  | [], [], _, _, _ => rfl
  | [], y :: b, _, _, h => by have := (h y).2 (by simp); simp at this
  | x :: a, [], _, _, h => by have := (h x).1 (by simp); simp at this
  | x :: a, y :: b, ha, hb, h => by
    obtain ⟨a1, a2⟩ := List.pairwise_cons.1 ha
    obtain ⟨b1, b2⟩ := List.pairwise_cons.1 hb
    have hxy : x = y := by
      rcases List.mem_cons.1 ((h x).1 (by simp)) with e | e
      · exact e
      · rcases List.mem_cons.1 ((h y).2 (by simp)) with e' | e'
        · exact e'.symm
        · exact (asym _ _ (a1 y e') (b1 x e)).elim
    subst hxy
    congr 1
    refine sorted_uniq irr asym a2 b2 fun z => ⟨fun hz => ?_, fun hz => ?_⟩
    · rcases List.mem_cons.1 ((h z).1 (by simp [hz])) with e | e
      · subst e; exact (irr _ (a1 _ hz)).elim
      · exact e
    · rcases List.mem_cons.1 ((h z).2 (by simp [hz])) with e | e
      · subst e; exact (irr _ (b1 _ hz)).elim
      · exact e

/-! Order. -/

def cmpOp (a b : DOp) : Int := cmpO a.Stamp.Site.b a.Stamp.No b.Stamp.Site.b b.Stamp.No
theorem site_ext {a b : Str} (h : a.b = b.b) : a = b := by cases a; cases b; simp at h; rw [h]

theorem Compare_int (a b : Int) : cmp_Compare_int a b = some (numC a b) := by
  unfold cmp_Compare_int cmp_isNaN_int numC
  simp only [decide_true, Bool.not_true, bind_sm, cond_false]
  by_cases c : a < b
  · rw [decide_eq_true c, cond_true, if_pos c]
  · rw [decide_eq_false c, cond_false, if_neg c]
    by_cases d : b < a
    · rw [decide_eq_true d, cond_true, if_pos d]
    · rw [decide_eq_false d, cond_false, if_neg d]
theorem Or_int (x y : Int) : cmp_Or_int [x, y] = some (if x ≠ 0 then x else y) := by
  unfold cmp_Or_int
  rw [rforE_eq (by simp)]
  have e0 : cmp_Or_int_L1 [x, y] 0 () = some (if x = 0 then .nx () else .ab (.ab x)) := by
    unfold cmp_Or_int_L1
    rw [need_of ⟨by omega, by simp⟩, bnd_eq]
    show (bif !decide (x = 0) then _ else _) = _
    by_cases h : x = 0
    · rw [decide_eq_true h, if_pos h]; rfl
    · rw [decide_eq_false h, if_neg h]; rfl
  have e1 : cmp_Or_int_L1 [x, y] 1 () = some (if y = 0 then .nx () else .ab (.ab y)) := by
    unfold cmp_Or_int_L1
    rw [need_of ⟨by omega, by simp⟩, bnd_eq]
    show (bif !decide (y = 0) then _ else _) = _
    by_cases h : y = 0
    · rw [decide_eq_true h, if_pos h]; rfl
    · rw [decide_eq_false h, if_neg h]; rfl
  show bindR (rgoE (cmp_Or_int_L1 [x, y]) (fun s => Res.nx s) 2 0 ()) _ = _
  by_cases h : x = 0
  · by_cases h' : y = 0
    · rw [if_pos h] at e0
      rw [if_pos h'] at e1
      simp only [rgoE, e0, show (0 + 1 : Int) = 1 from rfl, e1, bindR_nx]
      simp [h, h']
    · rw [h] at e0 e1 ⊢
      simp only [rgoE, e0, if_true, show (0 + 1 : Int) = 1 from rfl, e1, if_neg h', bindR_ab]
      simp
  · simp only [rgoE, e0, if_neg h, bindR_ab]
    simp [h]
theorem order_eq (a b : DOp) : edit_order a b = some (cmpOp a b) := by
  unfold edit_order strings_Compare
  rw [Option.bind_some, Compare_int, Option.bind_some, Or_int]
  rfl
/-! Errors. -/

def formB (x : DOp) : Bool := ((!decide (x.Of = 0)) && !decide (x.Kind = 3)) || ((!decide (x.Id = Str.nil)) && decide (x.Kind = 3)) || (((!decide (x.Field = Str.nil)) || (!decide (x.Value = Str.nil))) && !decide (x.Kind = 1))
def bodyErr (x : DOp) : Int :=
  if x.Kind < 1 ∨ 3 < x.Kind then 1 else if formB x = true then 2 else
  if x.Kind = 3 then (if x.Of < 1 ∨ W (x.Stamp.No - 1) < x.Of then 10 else 0) else
  if (!nameB x.Id || (decide (x.Kind = 1) && !nameB x.Field)) = true then 5 else if x.Kind = 1 then textErr x.Value else 0
theorem checkBody_eq (x : DOp) : edit_checkBody x = some (bodyErr x) := by
  unfold edit_checkBody bodyErr
  by_cases h1 : x.Kind < 1 ∨ 3 < x.Kind
  · rw [if_pos h1]
    have : (decide (x.Kind < 1) || decide (3 < x.Kind)) = true := by simpa using h1
    rw [this]; rfl
  · rw [if_neg h1]
    have : (decide (x.Kind < 1) || decide (3 < x.Kind)) = false := by simpa using h1
    rw [this, cond_false]
    simp only [bnd_eq, isName_eqE, CheckText_eq]
    have hj : (Option.bind (α := Bool) (bif (!decide (x.Of = 0)) && (!decide (x.Kind = 3)) then some ((!decide (x.Of = 0)) && (!decide (x.Kind = 3))) else
        bif (!decide (x.Id = Str.nil)) && decide (x.Kind = 3) then some ((!decide (x.Id = Str.nil)) && decide (x.Kind = 3)) else some (((!decide (x.Field = Str.nil)) || (!decide (x.Value = Str.nil))) && !decide (x.Kind = 1))) fun b => (some b : Option Bool)) = some (formB x) := by
      unfold formB
      cases (!decide (x.Of = 0)) && (!decide (x.Kind = 3)) <;> cases (!decide (x.Id = Str.nil)) && decide (x.Kind = 3) <;> rfl
    obtain ⟨b, hb, hb2⟩ := Option.bind_eq_some_iff.1 hj
    rw [hb, Option.bind_some, Option.some.inj hb2]
    cases hf : formB x with
    | true => rfl
    | false =>
      simp only [cond_false, Bool.false_eq_true, if_false]
      by_cases h3 : x.Kind = 3
      · have h31 : ¬ x.Kind = 1 := by omega
        simp only [if_pos h3, decide_eq_true h3, decide_eq_false h31, Bool.not_true, gd_false, Option.bind_some, Bool.false_and, cond_false, Bool.true_and, bindR_nx]
        by_cases ho : x.Of < 1 ∨ W (x.Stamp.No - 1) < x.Of
        · have : (decide (x.Of < 1) || decide (W (x.Stamp.No - 1) < x.Of)) = true := by simpa using ho
          rw [this, if_pos ho]; rfl
        · have : (decide (x.Of < 1) || decide (W (x.Stamp.No - 1) < x.Of)) = false := by simpa using ho
          rw [this, if_neg ho]; rfl
      · simp only [if_neg h3, decide_eq_false h3, Bool.not_false, gd_true, Option.bind_some, Bool.true_and, Bool.false_and, cond_false]
        cases hn : nameB x.Id with
        | false => rfl
        | true =>
          simp only [Bool.not_true, cond_false, Bool.false_or]
          by_cases hk : x.Kind = 1
          · simp only [decide_eq_true hk, gd_true, Option.bind_some, Bool.true_and, if_pos hk, cond_true]
            cases hfn : nameB x.Field with
            | false => rfl
            | true =>
              simp only [Bool.not_true, cond_false, Bool.false_eq_true, if_false]
              by_cases ht : textErr x.Value = 0
              · rw [ht]; rfl
              · rw [decide_eq_false ht]; rfl
          · simp only [decide_eq_false hk, gd_false, Option.bind_some, Bool.false_and, if_neg hk, cond_false, Bool.false_eq_true, if_false, bindR_nx]
theorem ite_self0 (e : Int) : (if e = 0 then 0 else e) = e := by split <;> simp_all
def zeroOp : DOp := ⟨(⟨(0 : Int), Str.nil, (0 : Int)⟩ : Stamp), (0 : Int), Str.nil, Str.nil, Str.nil, (0 : Int)⟩
/-- What the one at a place is compared with. -/
def befOp (l : List DOp) (i : Nat) : DOp := if 0 < i ∧ (gx l ((i : Int) - 1)).Stamp.Site = (gx l (i : Int)).Stamp.Site then gx l ((i : Int) - 1) else zeroOp
def lateOp (l : List DOp) (i : Nat) : Prop := 0 < i ∧ 0 ≤ cmpOp (gx l ((i : Int) - 1)) (gx l (i : Int))
instance (l : List DOp) (i : Nat) : Decidable (lateOp l i) := by unfold lateOp; exact inferInstance
def opAt (l : List DOp) (i : Nat) : Int :=
  firstErr [if nameB (gx l (i : Int)).Stamp.Site = false then 5 else 0, if lateOp l i then 7 else 0,
    if (gx l (i : Int)).Stamp.No ≠ W ((befOp l i).Stamp.No + 1) ∨ (gx l (i : Int)).Stamp.Time < 1 ∨ 1000000000 < (gx l (i : Int)).Stamp.Time then 3 else 0,
    if (gx l (i : Int)).Stamp.Time ≤ (befOp l i).Stamp.Time then 7 else 0, bodyErr (gx l (i : Int))]
def opsErr (l : List DOp) : Int := if 2000 < l.length then 4 else firstErr ((List.range l.length).map (opAt l))
theorem Check_eq (l : List DOp) : edit_Check l = some (opsErr l) := by
  unfold edit_Check opsErr
  by_cases hl : 2000 < l.length
  · rw [if_pos hl, decide_eq_true (p := (2000 : Int) < (l.length : Int)) (by omega), cond_true]
  · rw [if_neg hl, decide_eq_false (p := (2000 : Int) < (l.length : Int)) (by omega), cond_false]
    have := rforE_errS (n := l.length) (step := edit_Check_L1 l) (fin := fun s => (Res.nx s : Res Unit Int)) (fun _ => ()) (opAt l) (fun e => Res.ab e) (by omega) (fun i hi _ => by
      unfold edit_Check_L1
      have hin : inR l (i : Int) := ⟨by omega, by omega⟩
      have hin2 : decide (0 < (i : Int)) = true → inR l (W ((i : Int) - 1)) := fun h => by
        have := of_decide_eq_true h
        rw [Wk (by omega) (by omega)]; exact ⟨by omega, by omega⟩
      rw [need_of hin, bnd_eq, bnd_eq, need_of hin2]
      have hb : (Option.bind (α := DOp) (bif (decide (0 < (i : Int))) && (decide ((((gx l (W ((i : Int) - 1))).Stamp).Site) = (gx l (i : Int)).Stamp.Site)) then (need (inR l (W ((i : Int) - 1))) <| bnd (gx l (W ((i : Int) - 1))) fun v3 => some v3) else some zeroOp) fun b => (some b : Option DOp)) = some (befOp l i) := by
        unfold befOp
        by_cases h0 : 0 < i
        · rw [decide_eq_true (p := 0 < (i : Int)) (by omega), Wk (by omega) (by omega), Bool.true_and]
          by_cases hs : (gx l ((i : Int) - 1)).Stamp.Site = (gx l (i : Int)).Stamp.Site
          · rw [decide_eq_true hs, cond_true, if_pos ⟨h0, hs⟩, need_of ⟨by omega, by omega⟩]; rfl
          · rw [decide_eq_false hs, cond_false, if_neg (fun e => hs e.2)]; rfl
        · rw [decide_eq_false (p := 0 < (i : Int)) (by omega), Bool.false_and, cond_false, if_neg (fun e => h0 e.1)]; rfl
      obtain ⟨b, hb1, hb2⟩ := Option.bind_eq_some_iff.1 hb
      unfold zeroOp at hb1
      rw [hb1, Option.bind_some, Option.some.inj hb2, isName_eqE, Option.bind_some]
      cases hn : nameB (gx l (i : Int)).Stamp.Site with
      | false =>
        have hv : opAt l i = 5 := by unfold opAt; rw [if_pos hn]; rfl
        rw [hv]; rfl
      | true =>
        simp only [Bool.not_true, cond_false]
        rw [need_of hin2, order_eq]
        have ho : (Option.bind (gd (decide (0 < (i : Int))) (some (cmpOp (gx l (W ((i : Int) - 1))) (gx l (i : Int))))) fun r => (some ((decide (0 < (i : Int))) && (decide (0 ≤ r))) : Option Bool)) = some (decide (lateOp l i)) := by
          by_cases h0 : 0 < i
          · rw [decide_eq_true (p := 0 < (i : Int)) (by omega), gd_true, Wk (by omega) (by omega), Option.bind_some]
            simp [lateOp, h0]
          · rw [decide_eq_false (p := 0 < (i : Int)) (by omega)]
            simp [lateOp, h0]
        obtain ⟨r, hr1, hr2⟩ := Option.bind_eq_some_iff.1 ho
        rw [hr1, Option.bind_some, Option.some.inj hr2]
        have hn' : ¬ nameB (gx l (i : Int)).Stamp.Site = false := by rw [hn]; decide
        by_cases hc : lateOp l i
        · have hv : opAt l i = 7 := by unfold opAt; rw [if_neg hn', if_pos hc]; rfl
          rw [decide_eq_true hc, cond_true, hv]; rfl
        · rw [decide_eq_false hc, cond_false, bnd_eq, checkBody_eq]
          simp only [bnd_eq]
          by_cases hno : (gx l (i : Int)).Stamp.No = W ((befOp l i).Stamp.No + 1)
          · rw [decide_eq_true hno, Bool.not_true, cond_false, Option.bind_some]
            by_cases ht : (gx l (i : Int)).Stamp.Time < 1 ∨ 1000000000 < (gx l (i : Int)).Stamp.Time
            · have hb3 : (decide ((gx l (i : Int)).Stamp.Time < 1) || decide (1000000000 < (gx l (i : Int)).Stamp.Time)) = true := by simpa using ht
              have hv : opAt l i = 3 := by unfold opAt; rw [if_neg hn', if_neg hc, if_pos (Or.inr ht)]; rfl
              rw [hb3, cond_true, hv]; rfl
            · have hb3 : (decide ((gx l (i : Int)).Stamp.Time < 1) || decide (1000000000 < (gx l (i : Int)).Stamp.Time)) = false := by simpa using ht
              have hno' : ¬ ((gx l (i : Int)).Stamp.No ≠ W ((befOp l i).Stamp.No + 1) ∨ (gx l (i : Int)).Stamp.Time < 1 ∨ 1000000000 < (gx l (i : Int)).Stamp.Time) := fun e => Or.elim e (fun e => e hno) ht
              rw [hb3, cond_false]
              by_cases hti : (gx l (i : Int)).Stamp.Time ≤ (befOp l i).Stamp.Time
              · have hv : opAt l i = 7 := by unfold opAt; rw [if_neg hn', if_neg hc, if_neg hno', if_pos hti]; rfl
                rw [decide_eq_true hti, cond_true, hv]; rfl
              · have hv : opAt l i = bodyErr (gx l (i : Int)) := by
                  unfold opAt; rw [if_neg hn', if_neg hc, if_neg hno', if_neg hti]; simp only [firstErr_cons, firstErr_nil, if_pos, ite_self0]
                rw [decide_eq_false hti, cond_false, Option.bind_some, hv]
                by_cases hbo : bodyErr (gx l (i : Int)) = 0
                · rw [decide_eq_true hbo, if_pos hbo]; rfl
                · rw [decide_eq_false hbo, if_neg hbo]; rfl
          · have hv : opAt l i = 3 := by unfold opAt; rw [if_neg hn', if_neg hc, if_pos (Or.inl hno)]; rfl
            rw [decide_eq_false hno, Bool.not_false, cond_true, Option.bind_some, cond_true, hv]; rfl)
    rw [this]
    by_cases c : firstErr ((List.range l.length).map (opAt l)) = 0
    · rw [if_pos c, c]; rfl
    · rw [if_neg c]; rfl
end Go.DB
