/-
  Right operations: sorted, with numbers from one on.
-/
import Derived.Test.YtfpmjncooelplaaDoorAddPuOps
set_option linter.unusedSimpArgs false
set_option linter.unusedVariables false
namespace Go.DB
open Go Go.RowKit

def ltOp (a b : DOp) : Prop := cmpOp a b < 0
theorem ltOp_irr (a : DOp) : ¬ ltOp a a := by unfold ltOp; rw [cmpOp_self]; omega
theorem ltOp_asym (a b : DOp) (h : ltOp a b) (h' : ltOp b a) : False := by
  unfold ltOp at *
  have := cmpOp_swap a b
  omega
theorem op_swo {Q : DOp → Prop} (cf : { x : DOp // Q x } → { x : DOp // Q x } → Int) (hc : ∀ x y, cf x y = cmpOp x.1 y.1) : Sort.SWO (Proofs.ltOf cf) := by
  have h : ∀ x y, Proofs.ltOf cf x y = decide (cmpOp x.1 y.1 < 0) := fun x y => by unfold Proofs.ltOf; rw [hc]
  constructor
  · intro x; rw [h, cmpOp_self]; rfl
  · intro x y z h1 h2
    rw [h] at *
    simp only [decide_eq_true_eq] at *
    exact (cmpOp_trans (Int.le_of_lt h1) (Int.le_of_lt h2)).2 (.inl h1)
  · intro x y z h1 h2
    rw [h] at *
    simp only [decide_eq_false_iff_not, Int.not_lt] at *
    have e1 := cmpOp_swap x.1 y.1
    have e2 := cmpOp_swap y.1 z.1
    have e3 := cmpOp_swap x.1 z.1
    have := (cmpOp_trans (a := z.1) (b := y.1) (c := x.1) (by omega) (by omega)).1
    omega
/-- Operations that are sorted, no two of which have the same key. -/
theorem sort_ops {Q : DOp → Prop} [Inhabited { x : DOp // Q x }] (cf : { x : DOp // Q x } → { x : DOp // Q x } → Int) (hc : ∀ x y, cf x y = cmpOp x.1 y.1) {l : List DOp} (hq : ∀ x ∈ l, Q x) (hn : l.Pairwise (fun x y => cmpOp x y ≠ 0)) :
    (sortF cf l).Pairwise ltOp ∧ (∀ x, x ∈ sortF cf l ↔ x ∈ l) ∧ (sortF cf l).length = l.length := by
  obtain ⟨hp, hs⟩ := sortF_holds (l := l) (op_swo cf hc) hq
  have hn' : (sortF cf l).Pairwise (fun x y => cmpOp x y ≠ 0) := (hp.pairwise_iff (fun {x y} h e => h (by have := cmpOp_swap x y; omega))).2 hn
  refine ⟨List.pairwise_iff_getElem.2 fun i j hi hj hij => ?_, fun x => hp.mem_iff, hp.length_eq⟩
  have h1 := hs i j hij hj (hq _ (hp.mem_iff.1 (List.getElem_mem _))) (hq _ (hp.mem_iff.1 (List.getElem_mem _)))
  rw [hc] at h1
  have h2 := List.pairwise_iff_getElem.1 hn' i j hi hj hij
  have h3 := cmpOp_swap (sortF cf l)[i] (sortF cf l)[j]
  unfold ltOp
  simp only at h1
  omega

/-! Two lists in one. -/

theorem opsErr_len {l : List DOp} (h : opsErr l = 0) : l.length ≤ 2000 ∧ ∀ i, i < l.length → opAt l i = 0 := by
  unfold opsErr at h
  by_cases c : 2000 < l.length
  · rw [if_pos c] at h; omega
  · rw [if_neg c] at h
    exact ⟨by omega, fun i hi => firstErr_zero.1 h _ (List.mem_map.2 ⟨i, List.mem_range.2 hi, rfl⟩)⟩
theorem opAt_zero {l : List DOp} {i : Nat} (h : opAt l i = 0) : ¬ lateOp l i ∧ (gx l (i : Int)).Stamp.No = W ((befOp l i).Stamp.No + 1) := by
  unfold opAt at h
  have h2 := firstErr_zero.1 h (if lateOp l i then 7 else 0) (by simp)
  have h3 := firstErr_zero.1 h (if (gx l (i : Int)).Stamp.No ≠ W ((befOp l i).Stamp.No + 1) ∨ (gx l (i : Int)).Stamp.Time < 1 ∨ 1000000000 < (gx l (i : Int)).Stamp.Time then 3 else 0) (by simp)
  refine ⟨fun c => by rw [if_pos c] at h2; omega, Decidable.byContradiction fun c => ?_⟩
  rw [if_pos (.inl c)] at h3; omega
theorem opsErr_sorted {l : List DOp} (h : opsErr l = 0) : l.Pairwise ltOp := by
  obtain ⟨hl, hz⟩ := opsErr_len h
  have hadj : ∀ j : Nat, (hj : j < l.length) → 0 < j → ltOp (l[j - 1]'(by omega)) l[j] := fun j hj h0 => by
    have h1 := (opAt_zero (hz j hj)).1
    unfold lateOp at h1
    unfold ltOp
    rw [show (j : Int) - 1 = ((j - 1 : Nat) : Int) by omega, gx_nat hj, gx_nat (by omega)] at h1
    exact Int.not_le.1 fun e => h1 ⟨h0, e⟩
  refine List.pairwise_iff_getElem.2 fun i j hi hj hij => ?_
  have key : ∀ (d i j : Nat) (hij : j = i + 1 + d) (hj : j < l.length), ltOp (l[i]'(by omega)) l[j] := by
    intro d
    induction d with
    | zero => intro i j hij hj; obtain rfl : j = i + 1 := by omega
              exact hadj (i + 1) hj (by omega)
    | succ d ih =>
      intro i j hij hj
      have h1 := ih i (j - 1) (by omega) (by omega)
      have h2 := hadj j hj (by omega)
      unfold ltOp at *
      exact (cmpOp_trans (by omega) (by omega)).2 (.inl h1)
  exact key (j - i - 1) i j (by omega) hj
end Go.DB
