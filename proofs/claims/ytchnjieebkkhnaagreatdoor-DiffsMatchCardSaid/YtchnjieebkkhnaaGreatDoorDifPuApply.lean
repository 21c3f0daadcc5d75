/-
  Operations that are done on things; what differs makes the one of the other: the law.
-/
import Derived.Test.YtchnjieebkkhnaaGreatDoorDifPuDiffs2
set_option linter.unusedSimpArgs false
set_option linter.unusedVariables false
namespace Go.DB
open Go Go.RowKit

abbrev TM := GMap Str (GMap Str Str)
/-- What is wrong with an operation. -/
def applyE (s : TM) (x : DOp) : Int :=
  if x.Kind ≠ 1 ∧ x.Kind ≠ 2 then 1 else if nameB x.Id = false ∨ (x.Kind = 1 ∧ nameB x.Field = false) then 5 else
  if x.Kind = 1 then textErr x.Value else if s.has x.Id = false then 10 else 0
abbrev ApR := Res TM (List Thing × Int)
noncomputable def applyF (x : DOp) (s : TM) : Option (Res TM ApR) := some (if applyE s x = 0 then .nx (doM s x) else .ab (.ab (([] : List Thing), applyE s x)))
theorem doM_set {s : TM} {x : DOp} (h : x.Kind ≠ 2) : (if s.has x.Id = true then s else s.set x.Id GMap.nil).set x.Id (((if s.has x.Id = true then s else s.set x.Id GMap.nil).getD x.Id GMap.nil).set x.Field x.Value) = doM s x := by
  unfold doM
  rw [if_neg h]
  cases c : s.has x.Id with
  | true => rw [if_pos rfl]
  | false => rw [if_neg (by decide), set_getD, set_set, getD_no c]
theorem Apply_step (ops : List DOp) (i : Int) (s : TM) (hi : inR ops i) : edit_Apply_L1 ops i s = applyF (gx ops i) s := by
  unfold edit_Apply_L1 applyF
  rw [need_of hi, bnd_eq, bnd_eq]
  generalize gx ops i = x
  by_cases hk : x.Kind ≠ 1 ∧ x.Kind ≠ 2
  · rw [decide_eq_false hk.1, decide_eq_false hk.2]
    have : applyE s x = 1 := by unfold applyE; rw [if_pos hk]
    rw [this]; rfl
  · have hb : (!decide (x.Kind = 1) && !decide (x.Kind = 2)) = false := by
      rw [Bool.eq_false_iff]; intro e
      simp only [Bool.and_eq_true, Bool.not_eq_true', decide_eq_false_iff_not] at e
      exact hk e
    rw [hb, cond_false, isName_eqE, Option.bind_some, isName_eqE]
    simp only [bnd_eq]
    cases hn : nameB x.Id with
    | false =>
      have : applyE s x = 5 := by unfold applyE; rw [if_neg hk, if_pos (.inl hn)]
      rw [this]; rfl
    | true =>
      by_cases h1 : x.Kind = 1
      · rw [decide_eq_true h1]
        simp only [Bool.not_true, cond_false, gd_true, Option.bind_some, Bool.true_and]
        cases hf : nameB x.Field with
        | false =>
          have : applyE s x = 5 := by unfold applyE; rw [if_neg hk, if_pos (.inr ⟨h1, hf⟩)]
          rw [this]; rfl
        | true =>
          have : applyE s x = textErr x.Value := by
            unfold applyE
            rw [if_neg hk, if_neg (fun e => by rcases e with e | e; rw [hn] at e; cases e; rw [hf] at e; cases e.2), if_pos h1]
          rw [this, Bool.not_true, cond_false, cond_true, CheckText_eq, Option.bind_some]
          by_cases ht : textErr x.Value = 0
          · rw [decide_eq_true ht, if_pos ht, Bool.not_true, cond_false, bindR_nx, do_eq]; rfl
          · rw [decide_eq_false ht, if_neg ht]; rfl
      · rw [decide_eq_false h1]
        simp only [Bool.not_true, cond_false, gd_false, Option.bind_some, Bool.false_and]
        cases hh : s.has x.Id with
        | false =>
          have : applyE s x = 10 := by
            unfold applyE
            rw [if_neg hk, if_neg (fun e => by rcases e with e | e; rw [hn] at e; cases e; exact h1 e.1), if_neg h1, if_pos hh]
          rw [this]; rfl
        | true =>
          have : applyE s x = 0 := by
            unfold applyE
            rw [if_neg hk, if_neg (fun e => by rcases e with e | e; rw [hn] at e; cases e; exact h1 e.1), if_neg h1, if_neg (by rw [hh]; decide)]
          rw [this, Bool.not_true, cond_false, bindR_nx, do_eq]; rfl
theorem ApplyOps_step (ops : List DOp) (i : Int) (s : TM) (hi : inR ops i) (hf : ∀ x ∈ ops, fits x) : ref_ApplyOps_L1 ops i s = applyF (gx ops i) s := by
  have hfx := hf _ (gx_mem hi)
  unfold ref_ApplyOps_L1 applyF
  rw [need_of hi, bnd_eq]
  generalize gx ops i = x at hfx
  obtain ⟨_, _, f1, f2, f3, _⟩ : fits x.Stamp ∧ fits x.Kind ∧ fits x.Id ∧ fits x.Field ∧ fits x.Value ∧ fits x.Of := hfx
  by_cases hk : x.Kind ≠ 1 ∧ x.Kind ≠ 2
  · rw [decide_eq_false hk.1, decide_eq_false hk.2]
    have : applyE s x = 1 := by unfold applyE; rw [if_pos hk]
    rw [this]; rfl
  · have hb : (!decide (x.Kind = 1) && !decide (x.Kind = 2)) = false := by
      rw [Bool.eq_false_iff]; intro e
      simp only [Bool.and_eq_true, Bool.not_eq_true', decide_eq_false_iff_not] at e
      exact hk e
    rw [hb, cond_false, NameOf_eq f1, Option.bind_some, NameOf_eq f2, TextError_eq f3]
    cases hn : nameB x.Id with
    | false =>
      have : applyE s x = 5 := by unfold applyE; rw [if_neg hk, if_pos (.inl hn)]
      rw [this]
      simp only [Bool.not_false, Bool.not_true, Bool.false_and, gd_false, Option.bind_some, Bool.true_or, When_eq, if_true]
      rw [First_eq (by simp)]
      simp only [Option.bind_some, firstErr_cons, firstErr_nil]
      rfl
    | true =>
      by_cases h1 : x.Kind = 1
      · have h2 : ¬ x.Kind = 2 := by omega
        rw [decide_eq_true h1, decide_eq_false h2]
        simp only [Bool.not_true, Bool.not_false, Bool.true_and, gd_true, Option.bind_some, Bool.false_or, When_eq, Bool.false_and, Bool.false_eq_true, if_false]
        cases hfd : nameB x.Field with
        | false =>
          have : applyE s x = 5 := by unfold applyE; rw [if_neg hk, if_pos (.inr ⟨h1, hfd⟩)]
          rw [this, First_eq (by simp)]
          simp only [Option.bind_some, firstErr_cons, firstErr_nil, Bool.not_false, if_true]
          rfl
        | true =>
          have : applyE s x = textErr x.Value := by
            unfold applyE
            rw [if_neg hk, if_neg (fun e => by rcases e with e | e; rw [hn] at e; cases e; rw [hfd] at e; cases e.2), if_pos h1]
          rw [this, First_eq (by simp)]
          simp only [Option.bind_some, firstErr_cons, firstErr_nil, Bool.not_true, Bool.false_eq_true, if_false, if_true, decide_true, cond_false]
          by_cases ht : textErr x.Value = 0
          · rw [decide_eq_true ht, if_pos ht, Bool.not_true, cond_false]
            have hd := doM_set (s := s) (x := x) h2
            cases c : s.has x.Id with
            | true =>
              rw [c, if_pos rfl] at hd
              rw [Bool.not_true, cond_false, Option.bind_some, need_of c, hd]
            | false =>
              rw [c, if_neg (by decide)] at hd
              rw [Bool.not_false, cond_true, Option.bind_some, need_of set_has, hd]
          · rw [decide_eq_false ht, if_neg ht]; rfl
      · have h2 : x.Kind = 2 := Decidable.byContradiction fun e => hk ⟨h1, e⟩
        rw [decide_eq_false h1, decide_eq_true h2]
        simp only [Bool.not_true, Bool.not_false, Bool.true_and, Bool.and_false, gd_false, Option.bind_some, Bool.false_or, When_eq, Bool.false_and, Bool.false_eq_true, if_false, cond_false, cond_true]
        rw [First_eq (by simp)]
        simp only [Option.bind_some, firstErr_cons, firstErr_nil, if_true]
        cases hh : s.has x.Id with
        | false =>
          have : applyE s x = 10 := by
            unfold applyE
            rw [if_neg hk, if_neg (fun e => by rcases e with e | e; rw [hn] at e; cases e; exact h1 e.1), if_neg h1, if_pos hh]
          rw [this]; rfl
        | true =>
          have : applyE s x = 0 := by
            unfold applyE
            rw [if_neg hk, if_neg (fun e => by rcases e with e | e; rw [hn] at e; cases e; exact h1 e.1), if_neg h1, if_neg (by rw [hh]; decide)]
          rw [this]
          have hd : doM s x = s.del x.Id := by unfold doM; rw [if_pos h2]
          rw [hd]; rfl
/-- All keys and values of a map fit. -/
def FitTM (m : TM) : Prop := ∀ k e, m.f k = some e → fits k ∧ ∀ f v, e.f f = some v → fits f ∧ fits v
theorem FitTM.doM {m : TM} (h : FitTM m) {x : DOp} (hx : fits x) : FitTM (doM m x) := by
  obtain ⟨_, _, f1, f2, f3, _⟩ : fits x.Stamp ∧ fits x.Kind ∧ fits x.Id ∧ fits x.Field ∧ fits x.Value ∧ fits x.Of := hx
  intro k e hk
  unfold DB.doM at hk
  split at hk
  · have hk : (if k = x.Id then none else m.f k) = some e := hk
    split at hk
    · cases hk
    · exact h k e hk
  · have hk : (if k = x.Id then some ((m.getD x.Id GMap.nil).set x.Field x.Value) else m.f k) = some e := hk
    split at hk
    · rename_i c
      obtain rfl := Option.some.inj hk
      refine ⟨c ▸ f1, fun f v hf => ?_⟩
      have hf : (if f = x.Field then some x.Value else (m.getD x.Id GMap.nil).f f) = some v := hf
      split at hf
      · rename_i d
        exact ⟨d ▸ f2, (Option.some.inj hf) ▸ f3⟩
      · unfold GMap.getD at hf
        cases q : m.f x.Id with
        | none => rw [q] at hf; cases hf
        | some e => rw [q] at hf; exact (h _ e q).2 f v hf
    · exact h k e hk
theorem FitTM.mapT {l : List Thing} (h : RightT l) (hf : ∀ x ∈ l, fits x) : FitTM (mapT l) := fun k e hk => by
  obtain ⟨t, ht, e'⟩ := List.mem_map.1 (((mapT_lists h.ids).mem k e).2 hk)
  obtain ⟨rfl, rfl⟩ := Prod.mk.inj e'
  have hft : fits t.Id ∧ fits t.Attrs := hf t ht
  refine ⟨hft.1, fun f v hv => ?_⟩
  obtain ⟨a, ha, e'⟩ := List.mem_map.1 (((attrM_lists (h.fields t ht)).mem f v).2 hv)
  obtain ⟨rfl, rfl⟩ := Prod.mk.inj e'
  exact hft.2.2 a ha
theorem getD_of {K V : Type} {m : GMap K V} {k : K} {v z : V} (h : m.f k = some v) : m.getD k z = v := by unfold GMap.getD; rw [h]; rfl
theorem FitTM.things {m : TM} (h : FitTM m) {N : Nat} (hN : N ≤ 2199023255551) (hs : Small m N) : ∀ x ∈ thingsL m, fits x := fun x hx => by
  obtain ⟨⟨q, hq, hql⟩, hin⟩ := hs
  unfold thingsL at hx
  obtain ⟨k, hk, rfl⟩ := List.mem_map.1 hx
  have hh := (keys_mem hq).1 hk
  obtain ⟨e, he⟩ : ∃ e, m.f k = some e := by
    unfold GMap.has at hh
    cases c : m.f k with
    | none => rw [c] at hh; cases hh
    | some e => exact ⟨e, rfl⟩
  obtain ⟨le, hle, hll⟩ := hin k e he
  obtain ⟨h1, h2⟩ := h k e he
  show fits k ∧ fits (attrsL (m.getD k GMap.nil))
  rw [getD_of he]
  refine ⟨h1, ?_, fun y hy => ?_⟩
  · unfold attrsL
    rw [List.length_map, keys_len hle]; omega
  · unfold attrsL at hy
    obtain ⟨f, hf, rfl⟩ := List.mem_map.1 hy
    have hh := (keys_mem hle).1 hf
    obtain ⟨v, hv⟩ : ∃ v, e.f f = some v := by
      unfold GMap.has at hh
      cases c : e.f f with
      | none => rw [c] at hh; cases hh
      | some v => exact ⟨v, rfl⟩
    have := h2 f v hv
    show fits f ∧ fits (e.getD f Str.nil)
    rw [getD_of hv]; exact this
theorem apply_end : ∀ (ops : List DOp) (s : TM) (N : Nat), Small s N → FitTM s → (∀ x ∈ ops, fits x) → ∃ r, lgoE applyF (fun s => (Res.nx s : ApR)) ops s = some r ∧ ((∃ e, e ≠ 0 ∧ r = .ab (([] : List Thing), e)) ∨ ∃ m, r = .nx m ∧ Small m (N + ops.length) ∧ FitTM m)
  | [], s, N, h1, h2, _ => ⟨_, rfl, .inr ⟨s, rfl, h1, h2⟩⟩
  | x :: ops, s, N, h1, h2, h3 => by
    unfold lgoE applyF
    by_cases c : applyE s x = 0
    · simp only [if_pos c]
      obtain ⟨r, e1, e2⟩ := apply_end ops (doM s x) (N + 1) (h1.doM x) (h2.doM (h3 x (by simp))) (fun y hy => h3 y (by simp [hy]))
      refine ⟨r, e1, e2.imp id fun ⟨m, a, b, d⟩ => ⟨m, a, ?_, d⟩⟩
      rw [List.length_cons, show N + (ops.length + 1) = N + 1 + ops.length by omega]; exact b
    · simp only [if_neg c]
      exact ⟨_, rfl, .inl ⟨_, c, rfl⟩⟩
theorem Apply_both {l : List Thing} {ops : List DOp} (h : thErr l = 0) (hl : ∀ x ∈ l, fits x) (ho : ∀ x ∈ ops, fits x) (hf : fewL ops) : ∃ r : List Thing × Int, edit_Apply l ops = some r ∧ ref_ApplyOps l ops = some r ∧ (r.2 ≠ 0 → r.1 = []) ∧ (r.2 = 0 → thErr r.1 = 0) := by
  have hr := thErr_right h
  unfold fewL at hf
  unfold edit_Apply ref_ApplyOps
  rw [CheckThings_eq, h, Option.bind_some, decide_eq_true (rfl : (0 : Int) = 0), Bool.not_true, cond_false, thingsOf_eq hr, MapOf_eq hr, Option.bind_some, Option.bind_some]
  rw [rforE_list applyF (by omega) (fun i s hi => Apply_step ops i s hi), rforE_list applyF (by omega) (fun i s hi => ApplyOps_step ops i s hi ho)]
  obtain ⟨r, e1, e2⟩ := apply_end ops (mapT l) 2000 (mapT_small hr) (FitTM.mapT hr hl) ho
  rw [e1]
  rcases e2 with ⟨e, he, rfl⟩ | ⟨m, rfl, hs, hm⟩
  · exact ⟨([], e), rfl, rfl, fun _ => rfl, fun h => absurd h he⟩
  · have hs' : Small m 2199023255551 := by
      obtain ⟨⟨q, a, b⟩, c⟩ := hs
      exact ⟨⟨q, a, by omega⟩, fun k e hk => by obtain ⟨q, a, b⟩ := c k e hk; exact ⟨q, a, by omega⟩⟩
    have hT := ThingsError_eq (hm.things (Nat.le_refl _) hs')
    rw [bindR_nx, bindR_nx, listed_eq hs', ThingsOf_eq hs', Option.bind_some, Option.bind_some, CheckThings_eq, hT, Option.bind_some]
    by_cases z : thErr (thingsL m) = 0
    · rw [decide_eq_true z]
      exact ⟨(thingsL m, 0), rfl, rfl, fun e => absurd rfl e, fun _ => z⟩
    · rw [decide_eq_false z]
      exact ⟨([], thErr (thingsL m)), rfl, rfl, fun _ => rfl, fun e => absurd e z⟩
end Go.DB
