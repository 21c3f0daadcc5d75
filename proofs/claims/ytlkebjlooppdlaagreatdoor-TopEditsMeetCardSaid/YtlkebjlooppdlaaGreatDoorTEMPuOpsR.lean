/-
  Right operations: sorted, with numbers from one on.
-/
import Derived.Test.YtlkebjlooppdlaaGreatDoorTEMPuOps
set_option linter.unusedSimpArgs false
set_option linter.unusedVariables false
namespace Go.DB
open Go Go.RowKit

def ltOp (a b : DOp) : Prop := cmpOp a b < 0
theorem ltOp_irr (a : DOp) : ¬ ltOp a a := by unfold ltOp; rw [cmpOp_self]; omega
theorem ltOp_asym (a b : DOp) (h : ltOp a b) (h' : ltOp b a) : False := by
  unfold ltOp at *
  have := cmpOp_swap a b
  omega
/-! Two lists in one. -/

theorem opsErr_len {l : List DOp} (h : opsErr l = 0) : l.length ≤ 2000 ∧ ∀ i, i < l.length → opAt l i = 0 := by
  unfold opsErr at h
  by_cases c : 2000 < l.length
  · rw [if_pos c] at h; omega
  · rw [if_neg c] at h
    exact ⟨by omega, fun i hi => firstErr_zero.1 h _ (List.mem_map.2 ⟨i, List.mem_range.2 hi, rfl⟩)⟩
theorem opAt_zero {l : List DOp} {i : Nat} (h : opAt l i = 0) : ¬ lateOp l i ∧ (gx l (i : Int)).Stamp.No = W ((befOp l i).Stamp.No + 1) := by
  unfold opAt at h
  have h2 := firstErr_zero.1 h (if lateOp l i then 7 else 0) (by simp)
  have h3 := firstErr_zero.1 h (if (gx l (i : Int)).Stamp.No ≠ W ((befOp l i).Stamp.No + 1) ∨ (gx l (i : Int)).Stamp.Time < 1 ∨ 1000000000 < (gx l (i : Int)).Stamp.Time then 3 else 0) (by simp)
  refine ⟨fun c => by rw [if_pos c] at h2; omega, Decidable.byContradiction fun c => ?_⟩
  rw [if_pos (.inl c)] at h3; omega
theorem opsErr_sorted {l : List DOp} (h : opsErr l = 0) : l.Pairwise ltOp := by
  obtain ⟨hl, hz⟩ := opsErr_len h
  have hadj : ∀ j : Nat, (hj : j < l.length) → 0 < j → ltOp (l[j - 1]'(by omega)) l[j] := fun j hj h0 => by
    have h1 := (opAt_zero (hz j hj)).1
    unfold lateOp at h1
    unfold ltOp
    rw [show (j : Int) - 1 = ((j - 1 : Nat) : Int) by omega, gx_nat hj, gx_nat (by omega)] at h1
    exact Int.not_le.1 fun e => h1 ⟨h0, e⟩
  refine List.pairwise_iff_getElem.2 fun i j hi hj hij => ?_
  have key : ∀ (d i j : Nat) (hij : j = i + 1 + d) (hj : j < l.length), ltOp (l[i]'(by omega)) l[j] := by
    intro d
    induction d with
    | zero => intro i j hij hj; obtain rfl : j = i + 1 := by omega
              exact hadj (i + 1) hj (by omega)
    | succ d ih =>
      intro i j hij hj
      have h1 := ih i (j - 1) (by omega) (by omega)
      have h2 := hadj j hj (by omega)
      unfold ltOp at *
      exact (cmpOp_trans (by omega) (by omega)).2 (.inl h1)
  exact key (j - i - 1) i j (by omega) hj
end Go.DB
