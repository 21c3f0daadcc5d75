/-
  Boxes are checked, in plain words.
-/
import Derived.Test.YtbogpbomhmabhaaGreatDoorSkePuGeo
set_option linter.unusedSimpArgs false
set_option linter.unusedVariables false
namespace Go.DB
open Go Go.RowKit

def okB (b : Box) : Prop := -1000000 ≤ b.X ∧ b.X ≤ 1000000 ∧ -1000000 ≤ b.Y ∧ b.Y ≤ 1000000 ∧ 1 ≤ b.W_ ∧ b.W_ ≤ 20000 ∧ 1 ≤ b.H ∧ b.H ≤ 20000
instance (b : Box) : Decidable (okB b) := by unfold okB; infer_instance
def boxErr (b : Box) : Int := if okB b then 0 else 3
theorem boxErr_zero {b : Box} : boxErr b = 0 ↔ okB b := by unfold boxErr; split <;> simp_all
theorem CheckBox_eq (b : Box) : geom_CheckBox b = some (boxErr b) := by
  unfold geom_CheckBox geom_out boxErr
  simp only [bind_sm]
  by_cases h : okB b
  · rw [if_pos h]
    unfold okB at h
    have e1 : (decide (b.X < -1000000) || decide (1000000 < b.X)) = false := by simp; omega
    have e2 : (decide (b.Y < -1000000) || decide (1000000 < b.Y)) = false := by simp; omega
    simp only [e1, e2, Bool.not_false, gd_true, bind_sm, Bool.or_self, Bool.false_or]
    have e3 : (((decide (b.W_ < 1) || decide (20000 < b.W_)) || decide (b.H < 1)) || decide (20000 < b.H)) = false := by simp; omega
    rw [e3]; rfl
  · rw [if_neg h]
    unfold okB at h
    cases h1 : (decide (b.X < -1000000) || decide (1000000 < b.X)) with
    | true => simp
    | false =>
      cases h2 : (decide (b.Y < -1000000) || decide (1000000 < b.Y)) with
      | true => simp
      | false =>
        simp only [Bool.not_false, gd_true, bind_sm, Bool.or_self, Bool.false_or]
        have e3 : (((decide (b.W_ < 1) || decide (20000 < b.W_)) || decide (b.H < 1)) || decide (20000 < b.H)) = true := by
          simp at h1 h2 ⊢; omega
        rw [e3]; rfl
theorem BoxError_eq (b : Box) : ref_BoxError b = some (boxErr b) := by
  unfold ref_BoxError boxErr
  simp only [PointError_eq, In_eq, When_eq, bind_sm]
  have hF : ∀ a c : Int, ref_First [a, c] = some (firstErr [a, c]) := fun a c => First_eq (by simp)
  by_cases h : okB b
  · rw [if_pos h]
    unfold okB at h
    have e1 : ptErr ⟨b.X, b.Y⟩ = 0 := ptErr_zero.2 (by unfold okP; simp only; omega)
    have e2 : decide (1 ≤ b.W_ ∧ b.W_ ≤ 20000) = true := by simp; omega
    have e3 : decide (1 ≤ b.H ∧ b.H ≤ 20000) = true := by simp; omega
    simp [e1, e2, e3, hF]
  · rw [if_neg h]
    unfold okB at h
    by_cases c : ptErr ⟨b.X, b.Y⟩ = 0
    · have c' := ptErr_zero.1 c
      unfold okP at c'
      simp only at c'
      by_cases c2 : 1 ≤ b.W_ ∧ b.W_ ≤ 20000
      · have e2 : decide (1 ≤ b.W_ ∧ b.W_ ≤ 20000) = true := by simpa using c2
        have e3 : decide (1 ≤ b.H ∧ b.H ≤ 20000) = false := by simp; omega
        simp [c, e2, e3, hF]
      · have e2 : decide (1 ≤ b.W_ ∧ b.W_ ≤ 20000) = false := by simpa using c2
        simp [c, e2, hF]
    · have e1 : ptErr ⟨b.X, b.Y⟩ = 3 := (ptErr_cases _).resolve_left c
      rw [e1]
      cases decide (1 ≤ b.W_ ∧ b.W_ ≤ 20000) <;> cases decide (1 ≤ b.H ∧ b.H ≤ 20000) <;> simp [hF]
end Go.DB
