/-
  Things: what is wrong with them.
-/
import Derived.Test.YtchnjieebkkhnaaGreatDoorDifPuOps
set_option linter.unusedSimpArgs false
set_option linter.unusedVariables false
namespace Go.DB
open Go Go.RowKit

theorem firstErr_snoc (x : Int) : ∀ l : List Int, firstErr (l ++ [x]) = if firstErr l = 0 then x else firstErr l
  | [] => by
    show firstErr [x] = if firstErr [] = 0 then x else _
    rw [firstErr_cons, firstErr_nil, if_pos rfl]
    split
    · rename_i h; exact h.symm
    · rfl
  | e :: l => by
    rw [List.cons_append, firstErr_cons, firstErr_cons, firstErr_snoc x l]
    by_cases h : e = 0
    · rw [if_pos h, if_pos h]
    · rw [if_neg h, if_neg h, if_neg h]
def lateAttr (l : List Attr) (i : Nat) : Bool := decide (0 < (i : Int)) && (Op.bytesLess (gx l (i : Int)).Field.b ((gx l ((i : Int) - 1)).Field).b || (gx l (i : Int)).Field.b == ((gx l ((i : Int) - 1)).Field).b)
def attrAt (l : List Attr) (i : Nat) : Int :=
  firstErr [if nameB (gx l (i : Int)).Field = false then 5 else 0, if lateAttr l i = true then 7 else 0, textErr (gx l (i : Int)).Value]
def attrsErr (l : List Attr) : Int := firstErr ((List.range l.length).map (attrAt l))
def lateThing (l : List Thing) (i : Nat) : Bool := decide (0 < (i : Int)) && (Op.bytesLess (gx l (i : Int)).Id.b ((gx l ((i : Int) - 1)).Id).b || (gx l (i : Int)).Id.b == ((gx l ((i : Int) - 1)).Id).b)
def thHead (l : List Thing) (i : Nat) : List Int := [if nameB (gx l (i : Int)).Id = false then 5 else 0, if lateThing l i = true then 7 else 0, if (gx l (i : Int)).Attrs.length = 0 then 9 else 0, if 20 < (gx l (i : Int)).Attrs.length then 4 else 0]
def thAt (l : List Thing) (i : Nat) : Int := firstErr (thHead l i ++ [attrsErr (gx l (i : Int)).Attrs])
/-- What is wrong with things. -/
def thErr (l : List Thing) : Int := if 2000 < l.length then 4 else firstErr ((List.range l.length).map (thAt l))
theorem attrs_check (v : Thing) (hl : v.Attrs.length ≤ 20) : rforE (v.Attrs.length : Int) (edit_CheckThings_L2 v) (fun s => (Res.nx s : Res Unit (Res Unit Int))) () = some (if attrsErr v.Attrs = 0 then Res.nx () else Res.ab (Res.ab (attrsErr v.Attrs))) :=
  rforE_errS (n := v.Attrs.length) (step := edit_CheckThings_L2 v) (fin := fun s => (Res.nx s : Res Unit (Res Unit Int))) (fun _ => ()) (attrAt v.Attrs) (fun e => Res.ab (Res.ab e)) (by omega) (fun i hi _ => by
    have hin : inR v.Attrs (i : Int) := ⟨by omega, by omega⟩
    unfold edit_CheckThings_L2
    rw [need_of hin, bnd_eq, isName_eqE, Option.bind_some]
    cases hn : nameB (gx v.Attrs (i : Int)).Field with
    | false =>
      have hv : attrAt v.Attrs i = 5 := by unfold attrAt; rw [if_pos hn]; rfl
      rw [hv]; rfl
    | true =>
      have hn' : ¬ nameB (gx v.Attrs (i : Int)).Field = false := by rw [hn]; decide
      rw [Bool.not_true, cond_false, need_of (fun h => by
        have := of_decide_eq_true h
        rw [Wk (by omega) (by omega)]; exact ⟨by omega, by omega⟩), Wk (n := (i : Int) - 1) (by omega) (by omega)]
      show (bif lateAttr v.Attrs i then _ else _) = _
      cases hlt : lateAttr v.Attrs i with
      | true =>
        have hv : attrAt v.Attrs i = 7 := by unfold attrAt; rw [if_neg hn', if_pos hlt]; rfl
        rw [cond_true, hv]; rfl
      | false =>
        have hv : attrAt v.Attrs i = textErr (gx v.Attrs (i : Int)).Value := by
          unfold attrAt; rw [if_neg hn', if_neg (by rw [hlt]; decide)]
          simp only [firstErr_cons, firstErr_nil, if_true, ite_self0]
        rw [cond_false, CheckText_eq, Option.bind_some, hv]
        by_cases ht : textErr (gx v.Attrs (i : Int)).Value = 0
        · rw [decide_eq_true ht, if_pos ht]; rfl
        · rw [decide_eq_false ht, if_neg ht]; rfl)
theorem CheckThings_eq (l : List Thing) : edit_CheckThings l = some (thErr l) := by
  unfold edit_CheckThings thErr
  by_cases hl : 2000 < l.length
  · rw [if_pos hl, decide_eq_true (p := (2000 : Int) < (l.length : Int)) (by omega), cond_true]
  · rw [if_neg hl, decide_eq_false (p := (2000 : Int) < (l.length : Int)) (by omega), cond_false]
    have := rforE_errS (n := l.length) (step := edit_CheckThings_L1 l) (fin := fun s => (Res.nx s : Res Unit Int)) (fun _ => ()) (thAt l) (fun e => Res.ab e) (by omega) (fun i hi _ => by
      have hin : inR l (i : Int) := ⟨by omega, by omega⟩
      unfold edit_CheckThings_L1
      rw [need_of hin, bnd_eq, isName_eqE, Option.bind_some]
      unfold thAt
      rw [firstErr_snoc]
      cases hn : nameB (gx l (i : Int)).Id with
      | false =>
        have hv : firstErr (thHead l i) = 5 := by unfold thHead; rw [if_pos hn]; rfl
        rw [hv]; rfl
      | true =>
        have hn' : ¬ nameB (gx l (i : Int)).Id = false := by rw [hn]; decide
        rw [Bool.not_true, cond_false, need_of (fun h => by
          have := of_decide_eq_true h
          rw [Wk (by omega) (by omega)]; exact ⟨by omega, by omega⟩), Wk (n := (i : Int) - 1) (by omega) (by omega)]
        show (bif lateThing l i then _ else _) = _
        cases hlt : lateThing l i with
        | true =>
          have hv : firstErr (thHead l i) = 7 := by unfold thHead; rw [if_neg hn', if_pos hlt]; rfl
          rw [cond_true, hv]; rfl
        | false =>
          have hlt' : ¬ lateThing l i = true := by rw [hlt]; decide
          rw [cond_false]
          by_cases h0 : (gx l (i : Int)).Attrs.length = 0
          · have hv : firstErr (thHead l i) = 9 := by unfold thHead; rw [if_neg hn', if_neg hlt', if_pos h0]; rfl
            rw [decide_eq_true (by omega), cond_true, hv]; rfl
          · rw [decide_eq_false (by omega), cond_false]
            by_cases h20 : 20 < (gx l (i : Int)).Attrs.length
            · have hv : firstErr (thHead l i) = 4 := by unfold thHead; rw [if_neg hn', if_neg hlt', if_neg h0, if_pos h20]; rfl
              rw [decide_eq_true (by omega), cond_true, hv]; rfl
            · have hv : firstErr (thHead l i) = 0 := by unfold thHead; rw [if_neg hn', if_neg hlt', if_neg h0, if_neg h20]; rfl
              rw [decide_eq_false (by omega), cond_false, attrs_check _ (by omega), hv, if_pos rfl])
    rw [this]
    by_cases c : firstErr ((List.range l.length).map (thAt l)) = 0
    · rw [if_pos c, c]; rfl
    · rw [if_neg c]; rfl
theorem attrs_error (v : Thing) (hl : v.Attrs.length ≤ 20) (hf : ∀ x ∈ v.Attrs, fits x) : rforE (v.Attrs.length : Int) (ref_ThingsError_L2 v) (fun s => (Res.nx s : Res Unit (Res Unit Int))) () = some (if attrsErr v.Attrs = 0 then Res.nx () else Res.ab (Res.ab (attrsErr v.Attrs))) :=
  rforE_errS (n := v.Attrs.length) (step := ref_ThingsError_L2 v) (fin := fun s => (Res.nx s : Res Unit (Res Unit Int))) (fun _ => ()) (attrAt v.Attrs) (fun e => Res.ab (Res.ab e)) (by omega) (fun i hi _ => by
    have hin : inR v.Attrs (i : Int) := ⟨by omega, by omega⟩
    obtain ⟨f1, f2⟩ : fits (gx v.Attrs (i : Int)).Field ∧ fits (gx v.Attrs (i : Int)).Value := hf _ (gx_mem hin)
    unfold ref_ThingsError_L2
    rw [need_of hin, bnd_eq, NameOf_eq f1, Option.bind_some, When_eq, Option.bind_some, Wk (n := max (i : Int) 1 - 1) (by omega) (by omega), need_of (fun h => by have := of_decide_eq_true h; exact ⟨by omega, by omega⟩)]
    have hlate : (decide (0 < (i : Int)) && (Op.bytesLess (gx v.Attrs (i : Int)).Field.b ((gx v.Attrs (max (i : Int) 1 - 1)).Field).b || (gx v.Attrs (i : Int)).Field.b == ((gx v.Attrs (max (i : Int) 1 - 1)).Field).b)) = lateAttr v.Attrs i := by
      unfold lateAttr
      by_cases h0 : 0 < i
      · rw [show max (i : Int) 1 - 1 = (i : Int) - 1 by omega]
      · rw [decide_eq_false (p := 0 < (i : Int)) (by omega), Bool.false_and, Bool.false_and]
    rw [hlate, When_eq, Option.bind_some, TextError_eq f2, Option.bind_some, First_eq (by simp), Option.bind_some]
    have hv : firstErr [if (!nameB (gx v.Attrs (i : Int)).Field) = true then 5 else 0, if lateAttr v.Attrs i = true then 7 else 0, textErr (gx v.Attrs (i : Int)).Value] = attrAt v.Attrs i := by
      unfold attrAt
      simp only [Bool.not_eq_true']
    rw [hv]
    by_cases h0 : attrAt v.Attrs i = 0
    · rw [decide_eq_true h0, if_pos h0]; rfl
    · rw [decide_eq_false h0, if_neg h0]; rfl)
theorem ThingsError_eq {l : List Thing} (hf : ∀ x ∈ l, fits x) : ref_ThingsError l = some (thErr l) := by
  unfold ref_ThingsError thErr
  by_cases hl : 2000 < l.length
  · rw [if_pos hl, decide_eq_true (p := (2000 : Int) < (l.length : Int)) (by omega), cond_true]
  · rw [if_neg hl, decide_eq_false (p := (2000 : Int) < (l.length : Int)) (by omega), cond_false]
    have := rforE_errS (n := l.length) (step := ref_ThingsError_L1 l) (fin := fun s => (Res.nx s : Res Unit Int)) (fun _ => ()) (thAt l) (fun e => Res.ab e) (by omega) (fun i hi _ => by
      have hin : inR l (i : Int) := ⟨by omega, by omega⟩
      obtain ⟨f1, f2⟩ : fits (gx l (i : Int)).Id ∧ fits (gx l (i : Int)).Attrs := hf _ (gx_mem hin)
      have hal : ((gx l (i : Int)).Attrs.length : Int) ≤ 9223372036854775807 := by have := f2.1; omega
      unfold ref_ThingsError_L1
      rw [need_of hin, bnd_eq, NameOf_eq f1, Option.bind_some, When_eq, Option.bind_some, Wk (n := max (i : Int) 1 - 1) (by omega) (by omega), need_of (fun h => by have := of_decide_eq_true h; exact ⟨by omega, by omega⟩)]
      have hlate : (decide (0 < (i : Int)) && (Op.bytesLess (gx l (i : Int)).Id.b ((gx l (max (i : Int) 1 - 1)).Id).b || (gx l (i : Int)).Id.b == ((gx l (max (i : Int) 1 - 1)).Id).b)) = lateThing l i := by
        unfold lateThing
        by_cases h0 : 0 < i
        · rw [show max (i : Int) 1 - 1 = (i : Int) - 1 by omega]
        · rw [decide_eq_false (p := 0 < (i : Int)) (by omega), Bool.false_and, Bool.false_and]
      rw [hlate, When_eq, Option.bind_some, When_eq, Option.bind_some, When_eq, Option.bind_some, First_eq (by simp), Option.bind_some]
      have hv : firstErr [if (!nameB (gx l (i : Int)).Id) = true then 5 else 0, if lateThing l i = true then 7 else 0, if decide (((gx l (i : Int)).Attrs.length : Int) = 0) = true then 9 else 0, if decide (20 < ((gx l (i : Int)).Attrs.length : Int)) = true then 4 else 0] = firstErr (thHead l i) := by
        unfold thHead
        have e1 : (((gx l (i : Int)).Attrs.length : Int) = 0) = ((gx l (i : Int)).Attrs.length = 0) := propext ⟨fun h => by omega, fun h => by omega⟩
        have e2 : (20 < ((gx l (i : Int)).Attrs.length : Int)) = (20 < (gx l (i : Int)).Attrs.length) := propext ⟨fun h => by omega, fun h => by omega⟩
        simp only [Bool.not_eq_true', decide_eq_true_eq, e1, e2]
      rw [hv]
      unfold thAt
      rw [firstErr_snoc]
      by_cases h0 : firstErr (thHead l i) = 0
      · have h20 : ¬ 20 < (gx l (i : Int)).Attrs.length := fun c => by
          have := firstErr_zero.1 h0 (if 20 < (gx l (i : Int)).Attrs.length then 4 else 0) (by unfold thHead; simp)
          rw [if_pos c] at this; omega
        rw [decide_eq_true h0, if_pos h0, Bool.not_true, cond_false, attrs_error _ (by omega) f2.2]
      · rw [decide_eq_false h0, if_neg h0, if_neg h0]; rfl)
    rw [this]
    by_cases c : firstErr ((List.range l.length).map (thAt l)) = 0
    · rw [if_pos c, c]; rfl
    · rw [if_neg c]; rfl
/-- Right things. -/
structure RightT (l : List Thing) : Prop where
  len : l.length ≤ 2000
  id : ∀ x ∈ l, nameB x.Id = true
  some : ∀ x ∈ l, 0 < x.Attrs.length ∧ x.Attrs.length ≤ 20
  field : ∀ x ∈ l, ∀ a ∈ x.Attrs, nameB a.Field = true ∧ textErr a.Value = 0
  ids : l.Pairwise (fun x y => cmpB x.Id.b y.Id.b < 0)
  fields : ∀ x ∈ l, x.Attrs.Pairwise (fun a b => cmpB a.Field.b b.Field.b < 0)
theorem pairwise_adj {α : Type} (R : α → α → Prop) (tr : ∀ a b c, R a b → R b c → R a c) {l : List α} (h : ∀ (j : Nat) (hj : j < l.length) (h0 : 0 < j), R (l[j - 1]'(by omega)) l[j]) : l.Pairwise R := by
  refine List.pairwise_iff_getElem.2 fun i j hi hj hij => ?_
  have key : ∀ (d i j : Nat) (hij : j = i + 1 + d) (hj : j < l.length), R (l[i]'(by omega)) l[j] := by
    intro d
    induction d with
    | zero => intro i j hij hj; obtain rfl : j = i + 1 := by omega
              exact h (i + 1) hj (by omega)
    | succ d ih => intro i j hij hj; exact tr _ _ _ (ih i (j - 1) (by omega) (by omega)) (h j hj (by omega))
  exact key (j - i - 1) i j (by omega) hj
theorem late_no {a b : List UInt8} (h : (Op.bytesLess a b || a == b) = false) : cmpB b a < 0 := by
  rw [Bool.or_eq_false_iff, bytesLess_cmp] at h
  have h1 := of_decide_eq_false h.1
  have h2 := beq_eq_false_iff_ne.1 h.2
  have h3 := cmpB_swap a b
  have h4 : cmpB a b ≠ 0 := fun e => h2 (cmpB_zero e)
  omega
theorem thErr_right {l : List Thing} (h : thErr l = 0) : RightT l := by
  unfold thErr at h
  by_cases hl : 2000 < l.length
  · rw [if_pos hl] at h; omega
  rw [if_neg hl] at h
  have hz : ∀ i : Nat, (hi : i < l.length) → thAt l i = 0 := fun i hi => firstErr_zero.1 h _ (List.mem_map.2 ⟨i, List.mem_range.2 hi, rfl⟩)
  have hh : ∀ i : Nat, (hi : i < l.length) → nameB l[i].Id = true ∧ lateThing l i = false ∧ 0 < l[i].Attrs.length ∧ l[i].Attrs.length ≤ 20 ∧ attrsErr l[i].Attrs = 0 := fun i hi => by
    have h0 := firstErr_zero.1 (hz i hi)
    unfold thHead at h0
    have h1 := h0 (if nameB (gx l (i : Int)).Id = false then 5 else 0) (by simp)
    have h2 := h0 (if lateThing l i = true then 7 else 0) (by simp)
    have h3 := h0 (if (gx l (i : Int)).Attrs.length = 0 then 9 else 0) (by simp)
    have h4 := h0 (if 20 < (gx l (i : Int)).Attrs.length then 4 else 0) (by simp)
    have h5 := h0 (attrsErr (gx l (i : Int)).Attrs) (by simp)
    rw [gx_nat hi] at h1 h3 h4 h5
    refine ⟨?_, ?_, ?_, ?_, h5⟩
    · cases c : nameB l[i].Id with
      | true => rfl
      | false => rw [if_pos c] at h1; omega
    · cases c : lateThing l i with
      | false => rfl
      | true => rw [c] at h2; simp at h2
    · refine Nat.pos_of_ne_zero fun c => ?_
      rw [if_pos c] at h3; omega
    · refine Nat.le_of_not_lt fun c => ?_
      rw [if_pos c] at h4; omega
  have ha : ∀ i : Nat, (hi : i < l.length) → ∀ k : Nat, (hk : k < l[i].Attrs.length) → nameB l[i].Attrs[k].Field = true ∧ lateAttr l[i].Attrs k = false ∧ textErr l[i].Attrs[k].Value = 0 := fun i hi k hk => by
    have h0 := (hh i hi).2.2.2.2
    have h0 := firstErr_zero.1 h0 (attrAt l[i].Attrs k) (List.mem_map.2 ⟨k, List.mem_range.2 hk, rfl⟩)
    have h0 := firstErr_zero.1 h0
    have h1 := h0 (if nameB (gx l[i].Attrs (k : Int)).Field = false then 5 else 0) (by simp)
    have h2 := h0 (if lateAttr l[i].Attrs k = true then 7 else 0) (by simp)
    have h3 := h0 (textErr (gx l[i].Attrs (k : Int)).Value) (by simp)
    rw [gx_nat hk] at h1 h3
    refine ⟨?_, ?_, h3⟩
    · cases c : nameB l[i].Attrs[k].Field with
      | true => rfl
      | false => rw [if_pos c] at h1; omega
    · cases c : lateAttr l[i].Attrs k with
      | false => rfl
      | true => rw [c] at h2; simp at h2
  have tr : ∀ a b c : List UInt8, cmpB a b < 0 → cmpB b c < 0 → cmpB a c < 0 := fun a b c h1 h2 => (cmpB_trans (by omega) (by omega)).2 (.inl h1)
  refine ⟨by omega, fun x hx => ?_, fun x hx => ?_, fun x hx a hax => ?_, ?_, fun x hx => ?_⟩
  · obtain ⟨i, hi, rfl⟩ := List.getElem_of_mem hx
    exact (hh i hi).1
  · obtain ⟨i, hi, rfl⟩ := List.getElem_of_mem hx
    exact ⟨(hh i hi).2.2.1, (hh i hi).2.2.2.1⟩
  · obtain ⟨i, hi, rfl⟩ := List.getElem_of_mem hx
    obtain ⟨k, hk, rfl⟩ := List.getElem_of_mem hax
    exact ⟨(ha i hi k hk).1, (ha i hi k hk).2.2⟩
  · refine pairwise_adj (fun x y : Thing => cmpB x.Id.b y.Id.b < 0) (fun a b c => tr _ _ _) fun j hj h0 => ?_
    have h1 := (hh j hj).2.1
    unfold lateThing at h1
    rw [decide_eq_true (p := 0 < (j : Int)) (by omega), Bool.true_and, show (j : Int) - 1 = ((j - 1 : Nat) : Int) by omega, gx_nat hj, gx_nat (by omega)] at h1
    exact late_no h1
  · obtain ⟨i, hi, rfl⟩ := List.getElem_of_mem hx
    refine pairwise_adj (fun a b : Attr => cmpB a.Field.b b.Field.b < 0) (fun a b c => tr _ _ _) fun j hj h0 => ?_
    have h1 := (ha i hi j hj).2.1
    unfold lateAttr at h1
    rw [decide_eq_true (p := 0 < (j : Int)) (by omega), Bool.true_and, show (j : Int) - 1 = ((j - 1 : Nat) : Int) by omega, gx_nat hj, gx_nat (by omega)] at h1
    exact late_no h1
end Go.DB
