/-
  Undoing and doing again, as the program does it.
-/
import Derived.Test.YtlkebjlooppdlaaGreatDoorTEMPuMeet2
set_option linter.unusedSimpArgs false
set_option linter.unusedVariables false
namespace Go.DB
open Go Go.RowKit

/-- The undoing of an operation. -/
def undoOp (l : List DOp) (site : Str) (of : Int) : DOp := ⟨⟨tmF l l.length + 1, site, noF l site l.length⟩, 3, Str.nil, Str.nil, Str.nil, of⟩
theorem undoOp_body {l : List DOp} (h : opsErr l = 0) {site : Str} {j : Nat} (hj : j < l.length) (hs : (opI l j).Stamp.Site = site) : bodyErr (undoOp l site (opI l j).Stamp.No) = 0 := by
  have hf : Fresh l (undoOp l site (opI l j).Stamp.No) := noF_cases l site l.length
  have h1 := hf.lt h hj hs
  have h2 := (no_bd h j hj).1
  have h3 := noF_bd h site (Nat.le_refl l.length)
  unfold bodyErr
  rw [if_neg (show ¬ ((undoOp l site (opI l j).Stamp.No).Kind < 1 ∨ 3 < (undoOp l site (opI l j).Stamp.No).Kind) by show ¬ ((3 : Int) < 1 ∨ (3 : Int) < 3); omega)]
  have hfo : formB (undoOp l site (opI l j).Stamp.No) = false := by
    unfold formB undoOp
    simp
  rw [hfo, if_neg (by decide), if_pos (show (undoOp l site (opI l j).Stamp.No).Kind = 3 from rfl)]
  have h4 : (undoOp l site (opI l j).Stamp.No).Stamp.No = noF l site l.length := rfl
  have h5 : (undoOp l site (opI l j).Stamp.No).Of = (opI l j).Stamp.No := rfl
  rw [h4] at h1 ⊢
  rw [h5, Wk (by omega) (by omega), if_neg (by omega)]
theorem undone_eq {l : List DOp} (h : opsErr l = 0) {site : Str} {find : List DOp → List Bool → Option Int} {k : Int} (hk : find l (cntL l) = some k) (hk2 : k < 0 ∨ ∃ j : Nat, k = j ∧ j < l.length ∧ (opI l j).Stamp.Site = site) :
    ∃ r : List DOp × Int, edit_undone l site find = some r ∧ ((r.1 = [] ∧ r.2 ≠ 0 ∧ (0 ≤ k → nameB site = true → r.2 = 3 ∨ r.2 = 14)) ∨
      (r.2 = 0 ∧ nameB site = true ∧ ∃ j : Nat, k = j ∧ j < l.length ∧ (opI l j).Stamp.Site = site ∧ ∃ p, Ins l (undoOp l site (opI l j).Stamp.No) p ∧ r.1 = insP l (undoOp l site (opI l j).Stamp.No) p ∧ opsErr r.1 = 0)) := by
  let x : DOp := ⟨⟨0, site, 0⟩, 3, Str.nil, Str.nil, Str.nil, 0⟩
  have hl2 := (opsErr_len h).1
  unfold edit_undone
  rw [Check_eq, h, Option.bind_some, isName_eqE]
  simp only [decide_true, Bool.not_true, cond_false, Option.bind_some]
  cases hn : nameB site with
  | false => exact ⟨([], 5), rfl, .inl ⟨rfl, by decide, fun _ e => by cases e⟩⟩
  | true =>
    simp only [Bool.not_true, cond_false, if_true]
    by_cases hl : l.length = 2000
    · have e : edit_further l ⟨⟨0, site, 0⟩, 3, Str.nil, Str.nil, Str.nil, 0⟩ = some ([], 14) := by
        unfold edit_further
        rw [decide_eq_true (by omega), cond_true]
      rw [e]
      exact ⟨([], 14), rfl, .inl ⟨rfl, by decide, fun _ _ => .inr rfl⟩⟩
    · rcases further_eq h (by omega) (x := x) rfl with ⟨c, e⟩ | ⟨c, p, hI, e⟩
      · rw [show edit_further l ⟨⟨0, site, 0⟩, 3, Str.nil, Str.nil, Str.nil, 0⟩ = _ from e]
        exact ⟨([], 3), rfl, .inl ⟨rfl, by decide, fun _ _ => .inl rfl⟩⟩
      · rw [show edit_further l ⟨⟨0, site, 0⟩, 3, Str.nil, Str.nil, Str.nil, 0⟩ = _ from e]
        simp only [Option.bind_some, decide_true, Bool.not_true, cond_false]
        rw [counting_eq h, Option.bind_some, hk, Option.bind_some]
        by_cases c0 : k < 0
        · rw [decide_eq_true c0]
          exact ⟨([], 12), rfl, .inl ⟨rfl, by decide, fun e => by omega⟩⟩
        · obtain ⟨j, rfl, hj, hsj⟩ := hk2.resolve_left c0
          have hkin : inR l (j : Int) := ⟨by omega, by omega⟩
          rw [decide_eq_false c0, cond_false]
          have hlen := insP_len (y := newOp l x) hI.le
          have hple := hI.le
          have hfind : (insP l (newOp l x) p).findIdx? (fun o => (decide (o.Stamp.Site = site) && decide (o.Kind = 3)) && decide (o.Of = 0)) = some p := by
            rw [List.findIdx?_eq_some_iff_getElem]
            refine ⟨by omega, ?_, fun i hi => ?_⟩
            · have := insP_at (y := newOp l x) hI.le
              unfold opI at this
              rw [gx_nat (by omega)] at this
              rw [this]
              show ((decide (site = site) && decide ((3 : Int) = 3)) && decide ((0 : Int) = 0)) = true
              simp
            · have := insP_lo (y := newOp l x) hI.le hi
              unfold opI at this
              rw [gx_nat (by omega)] at this
              rw [this]
              simp only [Bool.and_eq_true, decide_eq_true_eq, not_and]
              intro h1 h2
              have := (undo_of h (show i < l.length by omega) h1.2).1
              unfold opI at this
              omega
          rw [IndexFunc_DOp_eq _ (fun x0 => edit_undone_1 x0 site) (fun o => (decide (o.Stamp.Site = site) && decide (o.Kind = 3)) && decide (o.Of = 0)) (by omega) (fun o _ => rfl), hfind, Option.bind_some, need_of hkin, bnd_eq]
          simp only
          have hat : gx (insP l (newOp l x) p) (p : Int) = newOp l x := insP_at hI.le
          rw [need_of ⟨by omega, by omega⟩, hat, Int.toNat_natCast, insP_set hI.le]
          have hI2 : Ins l (undoOp l site (opI l j).Stamp.No) p := hI.other rfl
          exact ⟨(insP l (undoOp l site (opI l j).Stamp.No) p, 0), rfl, .inr ⟨rfl, trivial, j, rfl, hj, hsj, p, hI2, rfl, by
            show opsErr (insP l (undoOp l site (opI l j).Stamp.No) p) = 0
            rw [opsErr_ins h (by omega) hI2 hn c]; exact undoOp_body h hj hsj⟩⟩
theorem Undo_at {l : List DOp} (h : opsErr l = 0) (site : Str) :
    ∃ k : Int, edit_Undo_1 l (cntL l) site = some k ∧ (k < 0 ∨ ∃ j : Nat, k = j ∧ j < l.length ∧ (opI l j).Stamp.Site = site ∧ (opI l j).Kind ≠ 3) := by
  have hl := (opsErr_len h).1
  have hc := cntL_len l
  obtain ⟨s, p1, p2⟩ := rfor_inv (n := (l.length : Int)) (step := edit_Undo_1_L1 l site (cntL l)) (s0 := (-1 : Int))
    (fun i s => s = -1 ∨ ∃ j : Nat, s = (j : Int) ∧ j < l.length ∧ (opI l j).Stamp.Site = site ∧ (opI l j).Kind ≠ 3) (by omega) (.inl rfl) (fun i s hi hI => by
      have hi' : i < l.length := by omega
      unfold edit_Undo_1_L1
      rw [need_of ⟨by omega, by omega⟩]
      simp only [bnd_eq]
      rw [need_of (fun _ => ⟨by omega, by omega⟩), cntL_at hi']
      by_cases c : (gx l (i : Int)).Stamp.Site = site
      · rw [decide_eq_true c]
        simp only [Bool.true_and]
        by_cases k3 : (gx l (i : Int)).Kind = 3
        · rw [decide_eq_true k3]
          simp only [Bool.not_true, Bool.and_false, cond_false]
          exact ⟨_, rfl, hI⟩
        · rw [decide_eq_false k3]
          cases cntB l i with
          | true => exact ⟨_, rfl, .inr ⟨i, rfl, hi', c, k3⟩⟩
          | false => exact ⟨_, rfl, hI⟩
      · rw [decide_eq_false c]
        simp only [Bool.false_and, cond_false]
        exact ⟨_, rfl, hI⟩)
  refine ⟨s, by unfold edit_Undo_1; rw [p1]; rfl, ?_⟩
  rcases p2 with e | ⟨j, a, b⟩
  · exact .inl (by omega)
  · exact .inr ⟨j, a, b⟩
/-- In what was just undone, the undoing is what Redo finds. -/
theorem Redo_at {l : List DOp} (h : opsErr l = 0) {site : Str} {p : Nat} (hp : p < l.length) (hs : (opI l p).Stamp.Site = site) (k3 : (opI l p).Kind = 3) (hc : cntB l p = true) (hlast : ∀ i : Nat, p < i → i < l.length → (opI l i).Stamp.Site ≠ site)
    (ht : ∀ t : Nat, t < l.length → (opI l t).Stamp.Site = site → (opI l t).Stamp.No = (opI l p).Of → (opI l t).Kind ≠ 3) : edit_Redo_1 l (cntL l) site = some (p : Int) := by
  have hl := (opsErr_len h).1
  have hcl := cntL_len l
  obtain ⟨s, p1, p2⟩ := rfor_inv (n := (l.length : Int)) (step := edit_Redo_1_L1 l site (cntL l)) (s0 := (-1 : Int))
    (fun i s => p < i → s = (p : Int)) (by omega) (fun e => by omega) (fun i s hi hI => by
      have hi' : i < l.length := by omega
      have hnb := no_bd h i hi'
      unfold edit_Redo_1_L1
      rw [need_of ⟨by omega, by omega⟩]
      simp only [bnd_eq]
      by_cases c : (gx l (i : Int)).Stamp.Site = site
      · have hip : i ≤ p := by
          rcases Nat.lt_or_ge p i with q | q
          · exact absurd c (hlast i q hi')
          · exact q
        rw [decide_eq_true c]
        simp only [Bool.not_true, cond_false, Bool.and_true]
        by_cases hk : (gx l (i : Int)).Kind = 3
        · rw [decide_eq_true hk]
          simp only [Bool.not_true, cond_false, Bool.false_and, Bool.true_and]
          obtain ⟨ho, t0, t1, t2, t3, t4⟩ := undo_of h hi' hk
          have hw : W (W ((i : Int) - (opI l i).Stamp.No) + (opI l i).Of) = (t0 : Int) := by
            rw [Wk (n := (i : Int) - (opI l i).Stamp.No) (by omega) (by omega), Wk (by omega) (by omega)]; omega
          rw [need_of ⟨by omega, by omega⟩, hw, need_of (fun _ => ⟨by omega, by omega⟩), cntL_at hi']
          by_cases q : i = p
          · subst q
            have hk0 := ht t0 (by omega) (t3.trans c) t4
            have hk1 : ¬ (gx l (t0 : Int)).Kind = 3 := hk0
            rw [hc, decide_eq_false hk1]
            exact ⟨_, rfl, fun _ => rfl⟩
          · cases cntB l i && !decide ((gx l (t0 : Int)).Kind = 3) with
            | true => exact ⟨_, rfl, fun e => by omega⟩
            | false => exact ⟨_, rfl, fun e => by omega⟩
        · rw [decide_eq_false hk]
          simp only [Bool.not_false, cond_true]
          refine ⟨_, rfl, fun e => ?_⟩
          obtain rfl : i = p := by omega
          exact absurd k3 hk
      · rw [decide_eq_false c]
        simp only [Bool.not_false, cond_true]
        refine ⟨_, rfl, fun e => ?_⟩
        by_cases q : i = p
        · subst q; exact absurd hs c
        · exact hI (by omega))
  have : s = (p : Int) := p2 (by omega)
  unfold edit_Redo_1
  rw [p1, this]; rfl
/-- Undo, then Redo. -/
theorem undo_redo {l : List DOp} (h : opsErr l = 0) (site : Str) :
    ∃ u : List DOp × Int, edit_Undo l site = some u ∧ (u.2 ≠ 0 ∨ (∃ r : List DOp × Int, edit_Redo u.1 site = some r ∧ ((r.1 = [] ∧ (r.2 = 3 ∨ r.2 = 14)) ∨ (r.2 = 0 ∧ opsErr r.1 = 0 ∧ someL r.1 = someL l)))) := by
  obtain ⟨k, k1, k2⟩ := Undo_at h site
  obtain ⟨u, u1, u2⟩ := undone_eq h (find := fun x0 x1 => edit_Undo_1 x0 x1 site) k1 (by
    rcases k2 with k2 | ⟨j, a, b, c, d⟩
    · exact .inl k2
    · exact .inr ⟨j, a, b, c⟩)
  refine ⟨u, by unfold edit_Undo; rw [u1]; rfl, ?_⟩
  rcases u2 with ⟨_, e, _⟩ | ⟨e, hn, j, hkj, hj, hsj, p, hI, hu, hu0⟩
  · exact .inl e
  · right
    have kj3 : (opI l j).Kind ≠ 3 := by
      rcases k2 with k2 | ⟨j', a, b, c, d⟩
      · omega
      · obtain rfl : j = j' := by omega
        exact d
    have hlen := insP_len (y := undoOp l site (opI l j).Stamp.No) hI.le
    have hple := hI.le
    have hat : opI u.1 p = undoOp l site (opI l j).Stamp.No := by rw [hu]; exact insP_at hI.le
    have hno : ∀ x ∈ u.1, x.Stamp.Site = site → x.Stamp.No ≤ (undoOp l site (opI l j).Stamp.No).Stamp.No := fun x hx hs => by
      rw [hu, insP_mem, List.mem_append, List.mem_singleton] at hx
      rcases hx with hx | rfl
      · have := hI.no.no h hx hs; omega
      · omega
    have hlast : ∀ i : Nat, p < i → i < u.1.length → (opI u.1 i).Stamp.Site ≠ site := fun i h1 h2 e => by
      have h3 := opI_lt hu0 h1 h2
      rw [hat] at h3
      have h4 := (op_numC (x := undoOp l site (opI l j).Stamp.No) (y := opI u.1 i) e.symm).1 h3
      have := hno _ (mem_op h2) e
      omega
    have hcz : cntB u.1 p = true := by
      rw [cntB_eq, Bool.not_eq_true', List.any_eq_false]
      intro i hi
      have hi : i < u.1.length := by simpa using hi
      intro e
      simp only [Bool.and_eq_true, decide_eq_true_eq] at e
      have e2 := e.2
      unfold undoB at e2
      simp only [Bool.and_eq_true, decide_eq_true_eq] at e2
      exact hlast i e.1.1 hi (by rw [e2.1.2, hat]; rfl)
    have hR := Redo_at hu0 (site := site) (p := p) (by rw [hu]; omega) (by rw [hat]; rfl) (by rw [hat]; rfl) hcz hlast (fun t t1 t2 t3 => by
      rw [hat] at t3
      have t3 : (opI u.1 t).Stamp.No = (opI l j).Stamp.No := t3
      have hm := mem_op t1
      rw [hu, insP_mem, List.mem_append, List.mem_singleton] at hm
      rcases hm with hm | hm
      · obtain ⟨i, hi, e⟩ := op_mem hm
        rw [← hu] at e
        rw [← e] at t2 t3 ⊢
        rw [no_inj h hi hj (t2.trans hsj.symm) t3]
        exact kj3
      · have := hI.no.lt h hj hsj
        rw [← hu] at hm
        rw [hm] at t3
        omega)
    obtain ⟨r, r1, r2⟩ := undone_eq hu0 (site := site) (find := fun x0 x1 => edit_Redo_1 x0 x1 site) hR (.inr ⟨p, rfl, by rw [hu]; omega, by rw [hat]; rfl⟩)
    refine ⟨r, by unfold edit_Redo; rw [r1]; rfl, ?_⟩
    rcases r2 with ⟨a, _, b⟩ | ⟨a, _, j', hj', _, _, q, hI2, hr, hr0⟩
    · exact .inl ⟨a, b (by omega) hn⟩
    · right
      refine ⟨a, hr0, ?_⟩
      obtain rfl : p = j' := by omega
      rw [hr] at hr0 ⊢
      rw [hat] at hI2 hr0 ⊢
      rw [hu] at hI2 hr0 hu0 ⊢
      exact someL_again h hI rfl hu0 hI2 rfl rfl rfl hr0
end Go.DB
