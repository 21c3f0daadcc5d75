/-
  Operations that are added, undone, and done again: the law.
-/
import Derived.Test.YtfpmjncooelplaaDoorAddPuAdds1
import Derived.Test.YtfpmjncooelplaaDoorAddPuEdits
set_option linter.unusedSimpArgs false
set_option linter.unusedVariables false
namespace Go.DB
open Go Go.RowKit

theorem siteError_eq {l : List DOp} (h : opsErr l = 0) {site : Str} (fs : fits site) : ref_siteError l site = some (firstErr [if nameB site = true then 0 else 5, if l.length = 2000 then 14 else 0, if 1000000000 < tmF l l.length + 1 then 3 else 0]) := by
  unfold ref_siteError
  rw [NameOf_eq fs, Option.bind_some, When_eq, Option.bind_some, When_eq, Option.bind_some, next_eq h, Option.bind_some, When_eq, Option.bind_some, First_eq (by simp), Option.bind_some]
  congr 3
  · cases nameB site <;> rfl
  · congr 1
    · by_cases c : l.length = 2000
      · rw [if_pos c, decide_eq_true (by omega), if_pos rfl]
      · rw [if_neg c, decide_eq_false (by omega), if_neg (by simp)]
    · congr 1
      by_cases c : 1000000000 < tmF l l.length + 1
      · rw [if_pos c, decide_eq_true c, if_pos rfl]
      · rw [if_neg c, decide_eq_false c, if_neg (by simp)]
theorem siteErr_val {l : List DOp} (hl : l.length < 2000) (site : Str) : firstErr [if nameB site = true then 0 else 5, if l.length = 2000 then 14 else 0, if 1000000000 < tmF l l.length + 1 then 3 else 0] =
    if nameB site = true then (if 1000000000 < tmF l l.length + 1 then 3 else 0) else 5 := by
  rw [if_neg (show ¬ l.length = 2000 by omega)]
  cases nameB site with
  | false => simp
  | true =>
    by_cases c : 1000000000 < tmF l l.length + 1
    · simp [c]
    · simp [c]
theorem Add_both {l : List DOp} (h : opsErr l = 0) (hl : l.length < 2000) {site : Str} {kind : Int} {id field value : Str} (fs : fits site) (fi : fits id) (ff : fits field) (fv : fits value) :
    ∃ r : List DOp × Int, edit_Add l site kind id field value = some r ∧ ref_AddTo l site kind id field value = some r ∧ r.1.length ≤ 2001 := by
  let x : DOp := ⟨⟨0, site, 0⟩, kind, id, field, value, 0⟩
  have hN : (⟨⟨tmF l l.length + 1, site, noF l site l.length⟩, kind, id, field, value, 0⟩ : DOp) = newOp l x := rfl
  unfold edit_Add ref_AddTo
  rw [Check_eq, h, Option.bind_some, next_eq h, Option.bind_some, bnd_eq, NameOf_eq fs, Option.bind_some, When_eq, Option.bind_some, When_eq, Option.bind_some, siteError_eq h fs, Option.bind_some, siteErr_val hl, hN,
    opError_eq (x := newOp l x) fi ff fv, Option.bind_some, First_eq (by simp), Option.bind_some, isName_eqE]
  simp only [decide_true, Bool.not_true, cond_false, Option.bind_some]
  cases hn : nameB site with
  | false => exact ⟨([], 5), rfl, rfl, by simp⟩
  | true =>
    simp only [Bool.not_true, cond_false, if_true, Bool.false_eq_true, if_false, firstErr_cons]
    cases hk : (!decide (kind = 1)) && (!decide (kind = 2)) with
    | true => exact ⟨([], 1), rfl, rfl, by simp⟩
    | false =>
      simp only [cond_false, Bool.false_eq_true, if_false, if_true]
      rcases further_eq h hl (x := x) rfl with ⟨c, e⟩ | ⟨c, p, hI, e⟩
      · rw [show edit_further l ⟨⟨0, site, 0⟩, kind, id, field, value, 0⟩ = _ from e, if_pos c]
        exact ⟨([], 3), rfl, rfl, by simp⟩
      · rw [show edit_further l ⟨⟨0, site, 0⟩, kind, id, field, value, 0⟩ = _ from e, if_neg (show ¬ 1000000000 < tmF l l.length + 1 by omega)]
        simp only [Option.bind_some, decide_true, Bool.not_true, cond_false, if_true, firstErr_nil]
        rw [Check_eq, opsErr_ins h hl hI hn c, Option.bind_some]
        have e0 : (if bodyErr (newOp l x) = 0 then 0 else bodyErr (newOp l x)) = bodyErr (newOp l x) := by split <;> simp_all
        try rw [e0]
        by_cases hb : bodyErr (newOp l x) = 0
        · rw [hb]
          simp only [decide_true, Bool.not_true, cond_false]
          rw [put_eq h hI, Option.bind_some]
          exact ⟨_, rfl, rfl, by simp only; rw [insP_len hI.le]; omega⟩
        · rw [decide_eq_false hb]
          exact ⟨([], bodyErr (newOp l x)), rfl, rfl, by simp⟩
theorem undone_both {l : List DOp} (h : opsErr l = 0) (hl : l.length < 2000) {site : Str} (fs : fits site) {redo : Bool} {find : List DOp → List Bool → Option Int} {k : Int} (hk : find l (cntL l) = some k) (hk2 : k < 0 ∨ inR l k)
    (hm : ∃ m, rfor (l.length : Int) (ref_UndoIn_L1 l redo site (cntL l)) (0, GMap.nil) = some (if k < 0 then 0 else (gx l k).Stamp.No, m)) :
    ∃ r : List DOp × Int, edit_undone l site find = some r ∧ ref_UndoIn l site redo = some r ∧ r.1.length ≤ 2001 := by
  let x : DOp := ⟨⟨0, site, 0⟩, 3, Str.nil, Str.nil, Str.nil, 0⟩
  obtain ⟨m, hm⟩ := hm
  unfold edit_undone ref_UndoIn
  rw [Check_eq, h, Option.bind_some, siteError_eq h fs, Option.bind_some, siteErr_val hl, isName_eqE]
  simp only [decide_true, Bool.not_true, cond_false, Option.bind_some]
  cases hn : nameB site with
  | false => exact ⟨([], 5), rfl, rfl, by simp⟩
  | true =>
    simp only [Bool.not_true, cond_false, if_true]
    rcases further_eq h hl (x := x) rfl with ⟨c, e⟩ | ⟨c, p, hI, e⟩
    · rw [show edit_further l ⟨⟨0, site, 0⟩, 3, Str.nil, Str.nil, Str.nil, 0⟩ = _ from e, if_pos c]
      exact ⟨([], 3), rfl, rfl, by simp⟩
    · rw [show edit_further l ⟨⟨0, site, 0⟩, 3, Str.nil, Str.nil, Str.nil, 0⟩ = _ from e, if_neg (by omega)]
      simp only [Option.bind_some, decide_true, Bool.not_true, cond_false]
      rw [counting_eq h, CountingOf_eq h, Option.bind_some, Option.bind_some, hk, Option.bind_some, bnd_eq, hm, Option.bind_some]
      simp only
      by_cases c0 : k < 0
      · rw [decide_eq_true c0, if_pos c0]
        exact ⟨([], 12), rfl, rfl, by simp⟩
      · have hkin : inR l k := hk2.resolve_left c0
        obtain ⟨j, rfl⟩ : ∃ j : Nat, k = j := ⟨k.toNat, by obtain ⟨a, b⟩ := hkin; omega⟩
        have hj : j < l.length := by obtain ⟨a, b⟩ := hkin; omega
        have hnb := no_bd h j hj
        rw [decide_eq_false c0, if_neg c0, cond_false, decide_eq_false (show ¬ (gx l (j : Int)).Stamp.No = 0 by show ¬ (opI l j).Stamp.No = 0; omega), cond_false, next_eq h, Option.bind_some]
        have hlen := insP_len (y := newOp l x) hI.le
        have hple := hI.le
        have hl2 := (opsErr_len h).1
        have hfind : (insP l (newOp l x) p).findIdx? (fun o => (decide (o.Stamp.Site = site) && decide (o.Kind = 3)) && decide (o.Of = 0)) = some p := by
          rw [List.findIdx?_eq_some_iff_getElem]
          refine ⟨by omega, ?_, fun i hi => ?_⟩
          · have := insP_at (y := newOp l x) hI.le
            unfold opI at this
            rw [gx_nat (by omega)] at this
            rw [this]
            show ((decide (site = site) && decide ((3 : Int) = 3)) && decide ((0 : Int) = 0)) = true
            simp
          · have := insP_lo (y := newOp l x) hI.le hi
            unfold opI at this
            rw [gx_nat (by omega)] at this
            rw [this]
            simp only [Bool.and_eq_true, decide_eq_true_eq, not_and]
            intro h1 h2
            have := (undo_of h (show i < l.length by omega) h1.2).1
            unfold opI at this
            omega
        rw [IndexFunc_DOp_eq _ (fun x0 => edit_undone_1 x0 site) (fun o => (decide (o.Stamp.Site = site) && decide (o.Kind = 3)) && decide (o.Of = 0)) (by omega) (fun o _ => rfl), hfind, Option.bind_some, need_of hkin, bnd_eq]
        simp only
        have hat : gx (insP l (newOp l x) p) (p : Int) = newOp l x := insP_at hI.le
        rw [need_of ⟨by omega, by omega⟩, hat, Int.toNat_natCast, insP_set hI.le]
        rw [put_eq h (hI.other (z := ⟨⟨tmF l l.length + 1, site, noF l site l.length⟩, 3, Str.nil, Str.nil, Str.nil, (gx l (j : Int)).Stamp.No⟩) rfl), Option.bind_some]
        exact ⟨_, rfl, rfl, by simp only; rw [insP_len hI.le]; omega⟩
theorem getD_setA {m : GMap Int Int} {k x v : Int} : (m.set k v).getD x 0 = if x = k then v else m.getD x 0 := by
  unfold GMap.getD GMap.set
  simp only
  split <;> rfl
theorem Undo_find {l : List DOp} (h : opsErr l = 0) (site : Str) :
    ∃ k : Int, edit_Undo_1 l (cntL l) site = some k ∧ (k < 0 ∨ inR l k) ∧ ∃ m, rfor (l.length : Int) (ref_UndoIn_L1 l false site (cntL l)) (0, GMap.nil) = some (if k < 0 then 0 else (gx l k).Stamp.No, m) := by
  have hl := (opsErr_len h).1
  have hc := cntL_len l
  obtain ⟨s, t, p1, p2, p3⟩ := rfor_inv2 (n := (l.length : Int)) (step := edit_Undo_1_L1 l site (cntL l)) (step' := ref_UndoIn_L1 l false site (cntL l)) (s0 := (-1 : Int)) (t0 := ((0 : Int), (GMap.nil : GMap Int Int)))
    (fun i s t => (s = -1 ∧ t.1 = 0) ∨ ∃ j : Nat, j < i ∧ j < l.length ∧ s = (j : Int) ∧ t.1 = (opI l j).Stamp.No) (by omega) (.inl ⟨rfl, rfl⟩) (fun i s t hi hI => by
      have hi' : i < l.length := by omega
      unfold edit_Undo_1_L1 ref_UndoIn_L1
      rw [need_of ⟨by omega, by omega⟩, need_of ⟨by omega, by omega⟩]
      simp only [bnd_eq]
      have hI' : ∀ s' t' : Int, (s' = s ∧ t' = t.1) → (s' = -1 ∧ t' = 0) ∨ ∃ j : Nat, j < i + 1 ∧ j < l.length ∧ s' = (j : Int) ∧ t' = (opI l j).Stamp.No := fun s' t' e => by
        rw [e.1, e.2]
        rcases hI with e | ⟨j, a, b, c⟩
        · exact .inl e
        · exact .inr ⟨j, by omega, b, c⟩
      rw [need_of (fun _ => ⟨by omega, by omega⟩), cntL_at hi']
      by_cases c : (gx l (i : Int)).Stamp.Site = site
      · rw [decide_eq_true c]
        simp only [Bool.true_and, Bool.not_true, cond_false, Bool.and_false, Bool.false_and]
        rw [need_of (fun _ => ⟨by omega, by omega⟩), need_of (fun h => by cases h), Bool.and_comm]
        cases (!decide ((gx l (i : Int)).Kind = 3)) && cntB l i with
        | true =>
          simp only [cond_true]
          exact ⟨_, _, rfl, rfl, .inr ⟨i, by omega, hi', rfl, rfl⟩⟩
        | false =>
          simp only [cond_false]
          exact ⟨_, _, rfl, rfl, hI' _ _ ⟨rfl, rfl⟩⟩
      · rw [decide_eq_false c]
        simp only [Bool.false_and, cond_false, Bool.not_false, cond_true]
        exact ⟨_, _, rfl, rfl, hI' _ _ ⟨rfl, rfl⟩⟩)
  refine ⟨s, by unfold edit_Undo_1; rw [p1]; rfl, ?_, t.2, ?_⟩
  · rcases p3 with ⟨e, _⟩ | ⟨j, _, b, c, _⟩
    · exact .inl (by omega)
    · exact .inr ⟨by omega, by omega⟩
  · rw [p2]
    congr 1
    refine Prod.ext ?_ rfl
    simp only
    rcases p3 with ⟨e, e'⟩ | ⟨j, _, b, c, d⟩
    · rw [e', if_pos (by omega)]
    · rw [d, if_neg (by omega), c]
theorem Redo_find {l : List DOp} (h : opsErr l = 0) (site : Str) :
    ∃ k : Int, edit_Redo_1 l (cntL l) site = some k ∧ (k < 0 ∨ inR l k) ∧ ∃ m, rfor (l.length : Int) (ref_UndoIn_L1 l true site (cntL l)) (0, GMap.nil) = some (if k < 0 then 0 else (gx l k).Stamp.No, m) := by
  have hl := (opsErr_len h).1
  have hc := cntL_len l
  obtain ⟨s, t, p1, p2, p3, _⟩ := rfor_inv2 (n := (l.length : Int)) (step := edit_Redo_1_L1 l site (cntL l)) (step' := ref_UndoIn_L1 l true site (cntL l)) (s0 := (-1 : Int)) (t0 := ((0 : Int), (GMap.nil : GMap Int Int)))
    (fun i s t => ((s = -1 ∧ t.1 = 0) ∨ ∃ j : Nat, j < i ∧ j < l.length ∧ s = (j : Int) ∧ t.1 = (opI l j).Stamp.No) ∧ ∀ j : Nat, j < i → j < l.length → (opI l j).Stamp.Site = site → t.2.getD (opI l j).Stamp.No 0 = (opI l j).Kind) (by omega) ⟨.inl ⟨rfl, rfl⟩, fun j hj => by omega⟩ (fun i s t hi hI => by
      have hi' : i < l.length := by omega
      obtain ⟨hI, hK⟩ := hI
      have hnb := no_bd h i hi'
      unfold edit_Redo_1_L1 ref_UndoIn_L1
      rw [need_of ⟨by omega, by omega⟩, need_of ⟨by omega, by omega⟩]
      simp only [bnd_eq]
      have hI' : ∀ s' t' : Int, (s' = s ∧ t' = t.1) → (s' = -1 ∧ t' = 0) ∨ ∃ j : Nat, j < i + 1 ∧ j < l.length ∧ s' = (j : Int) ∧ t' = (opI l j).Stamp.No := fun s' t' e => by
        rw [e.1, e.2]
        rcases hI with e | ⟨j, a, b, c⟩
        · exact .inl e
        · exact .inr ⟨j, by omega, b, c⟩
      by_cases c : (opI l i).Stamp.Site = site
      · have hK' : ∀ j : Nat, j < i + 1 → j < l.length → (opI l j).Stamp.Site = site → (t.2.set (opI l i).Stamp.No (opI l i).Kind).getD (opI l j).Stamp.No 0 = (opI l j).Kind := fun j j1 j2 j3 => by
          rw [getD_setA]
          by_cases e : (opI l j).Stamp.No = (opI l i).Stamp.No
          · rw [if_pos e, no_inj h j2 hi' (j3.trans c.symm) e]
          · rw [if_neg e]
            exact hK j (by
              rcases Nat.lt_or_eq_of_le (Nat.lt_succ_iff.1 j1) with q | q
              · exact q
              · subst q; exact absurd rfl e) j2 j3
        rw [decide_eq_true (show (gx l (i : Int)).Stamp.Site = site from c)]
        simp only [Bool.not_true, cond_false, Bool.and_true]
        by_cases hk : (gx l (i : Int)).Kind = 3
        · rw [decide_eq_true hk]
          simp only [Bool.not_true, cond_false, Bool.false_and, Bool.true_and]
          obtain ⟨ho, t0, t1, t2, t3, t4⟩ := undo_of h hi' hk
          have hw : W (W ((i : Int) - (opI l i).Stamp.No) + (opI l i).Of) = (t0 : Int) := by
            rw [Wk (n := (i : Int) - (opI l i).Stamp.No) (by omega) (by omega), Wk (by omega) (by omega)]; omega
          rw [need_of ⟨by omega, by omega⟩, hw, need_of (fun _ => ⟨by omega, by omega⟩), need_of (fun h => by cases h), need_of (fun _ => ⟨by omega, by omega⟩), cntL_at hi']
          have hof : (t.2.set (opI l i).Stamp.No (opI l i).Kind).getD (opI l i).Of 0 = (opI l t0).Kind := by
            rw [← t4]; exact hK' t0 (by omega) (by omega) (t3.trans c)
          have hof' : (t.2.set (gx l (i : Int)).Stamp.No (gx l (i : Int)).Kind).getD (gx l (i : Int)).Of 0 = (gx l (t0 : Int)).Kind := hof
          rw [hk] at hof' hK'
          rw [hk, hof']
          cases cntB l i && !decide ((gx l (t0 : Int)).Kind = 3) with
          | true =>
            simp only [cond_true]
            exact ⟨_, _, rfl, rfl, .inr ⟨i, by omega, hi', rfl, rfl⟩, hK'⟩
          | false =>
            simp only [cond_false]
            exact ⟨_, _, rfl, rfl, hI' _ _ ⟨rfl, rfl⟩, hK'⟩
        · rw [decide_eq_false hk]
          simp only [Bool.not_false, cond_true]
          exact ⟨_, _, rfl, rfl, .inl ⟨rfl, rfl⟩, hK'⟩
      · rw [decide_eq_false (show ¬ (gx l (i : Int)).Stamp.Site = site from c)]
        simp only [Bool.not_false, cond_true]
        exact ⟨_, _, rfl, rfl, hI' _ _ ⟨rfl, rfl⟩, fun j j1 j2 j3 => hK j (by
          rcases Nat.lt_or_eq_of_le (Nat.lt_succ_iff.1 j1) with q | q
          · exact q
          · subst q; exact absurd j3 c) j2 j3⟩)
  refine ⟨s, by unfold edit_Redo_1; rw [p1]; rfl, ?_, t.2, ?_⟩
  · rcases p3 with ⟨e, _⟩ | ⟨j, _, b, c, _⟩
    · exact .inl (by omega)
    · exact .inr ⟨by omega, by omega⟩
  · rw [p2]
    congr 1
    refine Prod.ext ?_ rfl
    simp only
    rcases p3 with ⟨e, e'⟩ | ⟨j, _, b, c, d⟩
    · rw [e', if_pos (by omega)]
    · rw [d, if_neg (by omega), c]
theorem Undo_both {l : List DOp} (h : opsErr l = 0) (hl : l.length < 2000) {site : Str} (fs : fits site) : ∃ r : List DOp × Int, edit_Undo l site = some r ∧ ref_UndoIn l site false = some r ∧ r.1.length ≤ 2001 := by
  obtain ⟨k, k1, k2, k3⟩ := Undo_find h site
  obtain ⟨r, r1, r2, r3⟩ := undone_both h hl fs (find := fun x0 x1 => edit_Undo_1 x0 x1 site) k1 k2 k3
  exact ⟨r, by unfold edit_Undo; rw [r1]; rfl, r2, r3⟩
theorem Redo_both {l : List DOp} (h : opsErr l = 0) (hl : l.length < 2000) {site : Str} (fs : fits site) : ∃ r : List DOp × Int, edit_Redo l site = some r ∧ ref_UndoIn l site true = some r ∧ r.1.length ≤ 2001 := by
  obtain ⟨k, k1, k2, k3⟩ := Redo_find h site
  obtain ⟨r, r1, r2, r3⟩ := undone_both h hl fs (find := fun x0 x1 => edit_Redo_1 x0 x1 site) k1 k2 k3
  exact ⟨r, by unfold edit_Redo; rw [r1]; rfl, r2, r3⟩
theorem undone_bad {l : List DOp} (h : opsErr l ≠ 0) (site : Str) (find : List DOp → List Bool → Option Int) : edit_undone l site find = some ([], opsErr l) := by
  unfold edit_undone
  rw [Check_eq, Option.bind_some, decide_eq_false h]; rfl

theorem AddsMatch_true (l : List DOp) (site : Str) (kind : Int) (id field value : Str) (fl : fits l) (fs : fits site) (fi : fits id) (ff : fits field) (fv : fits value) : law_AddsMatch l site kind id field value = some true := by
  unfold law_AddsMatch
  rw [OpsError_eq fl.2, Option.bind_some]
  by_cases h : opsErr l = 0
  case neg =>
    rw [decide_eq_false h]
    simp only [Bool.false_and, cond_false]
    have ha : edit_Add l site kind id field value = some ([], opsErr l) := by
      unfold edit_Add
      rw [Check_eq, Option.bind_some, decide_eq_false h]; rfl
    have hu : edit_Undo l site = some ([], opsErr l) := by unfold edit_Undo; rw [undone_bad h]; rfl
    have hr : edit_Redo l site = some ([], opsErr l) := by unfold edit_Redo; rw [undone_bad h]; rfl
    rw [ha, hu, hr]
    simp only [Option.bind_some, edits_eq, Bool.not_true, Bool.not_false, Bool.or_true, cond_true]
    simp
  rw [h]
  by_cases hl : 200 < l.length
  · rw [decide_eq_true (show (200 : Int) < (l.length : Int) by omega)]
    simp only [decide_true, Bool.and_self, cond_true, edits_eq, Option.bind_some]
  rw [decide_eq_false (show ¬ (200 : Int) < (l.length : Int) by omega)]
  simp only [Bool.and_false, cond_false]
  obtain ⟨a, a1, a2, a3⟩ := Add_both h (by omega) (kind := kind) fs fi ff fv
  obtain ⟨u, u1, u2, u3⟩ := Undo_both h (by omega) fs
  obtain ⟨r, r1, r2, r3⟩ := Redo_both h (by omega) fs
  rw [a1, u1, r1, edits_eq]
  simp only [Option.bind_some, decide_true, Bool.not_true, Bool.or_self, cond_false]
  rw [a2, u2, r2]
  simp only [Option.bind_some, decide_true, gd_true, Equal_Op_self a.1 (by omega), Equal_Op_self u.1 (by omega), Equal_Op_self r.1 (by omega), Bool.and_self]
end Go.DB
