/-
  Right operations: sorted, with numbers from one on.
-/
import Derived.Test.YtjnglmeiifcgjaaGreatDoorOppPuOps
set_option linter.unusedSimpArgs false
set_option linter.unusedVariables false
namespace Go.DB
open Go Go.RowKit

def ltOp (a b : DOp) : Prop := cmpOp a b < 0
/-! Two lists in one. -/

theorem opsErr_len {l : List DOp} (h : opsErr l = 0) : l.length ≤ 2000 ∧ ∀ i, i < l.length → opAt l i = 0 := by
  unfold opsErr at h
  by_cases c : 2000 < l.length
  · rw [if_pos c] at h; omega
  · rw [if_neg c] at h
    exact ⟨by omega, fun i hi => firstErr_zero.1 h _ (List.mem_map.2 ⟨i, List.mem_range.2 hi, rfl⟩)⟩
theorem opAt_zero {l : List DOp} {i : Nat} (h : opAt l i = 0) : ¬ lateOp l i ∧ (gx l (i : Int)).Stamp.No = W ((befOp l i).Stamp.No + 1) := by
  unfold opAt at h
  have h2 := firstErr_zero.1 h (if lateOp l i then 7 else 0) (by simp)
  have h3 := firstErr_zero.1 h (if (gx l (i : Int)).Stamp.No ≠ W ((befOp l i).Stamp.No + 1) ∨ (gx l (i : Int)).Stamp.Time < 1 ∨ 1000000000 < (gx l (i : Int)).Stamp.Time then 3 else 0) (by simp)
  refine ⟨fun c => by rw [if_pos c] at h2; omega, Decidable.byContradiction fun c => ?_⟩
  rw [if_pos (.inl c)] at h3; omega
end Go.DB
