/-
  Boxes are checked, in plain words.
-/
import Derived.Test.YtjkfpjpepjjhlaaTnbPuGeo
set_option linter.unusedSimpArgs false
set_option linter.unusedVariables false
namespace Go.DB
open Go Go.RowKit

def okB (b : Box) : Prop := -1000000 ≤ b.X ∧ b.X ≤ 1000000 ∧ -1000000 ≤ b.Y ∧ b.Y ≤ 1000000 ∧ 1 ≤ b.W_ ∧ b.W_ ≤ 20000 ∧ 1 ≤ b.H ∧ b.H ≤ 20000
instance (b : Box) : Decidable (okB b) := by unfold okB; infer_instance
def boxErr (b : Box) : Int := if okB b then 0 else 3
theorem boxErr_zero {b : Box} : boxErr b = 0 ↔ okB b := by unfold boxErr; split <;> simp_all
theorem CheckBox_eq (b : Box) : geom_CheckBox b = some (boxErr b) := by
  unfold geom_CheckBox geom_out boxErr
  simp only [bind_sm]
  by_cases h : okB b
  · rw [if_pos h]
    unfold okB at h
    have e1 : (decide (b.X < -1000000) || decide (1000000 < b.X)) = false := by simp; omega
    have e2 : (decide (b.Y < -1000000) || decide (1000000 < b.Y)) = false := by simp; omega
    simp only [e1, e2, Bool.not_false, gd_true, bind_sm, Bool.or_self, Bool.false_or]
    have e3 : (((decide (b.W_ < 1) || decide (20000 < b.W_)) || decide (b.H < 1)) || decide (20000 < b.H)) = false := by simp; omega
    rw [e3]; rfl
  · rw [if_neg h]
    unfold okB at h
    cases h1 : (decide (b.X < -1000000) || decide (1000000 < b.X)) with
    | true => simp
    | false =>
      cases h2 : (decide (b.Y < -1000000) || decide (1000000 < b.Y)) with
      | true => simp
      | false =>
        simp only [Bool.not_false, gd_true, bind_sm, Bool.or_self, Bool.false_or]
        have e3 : (((decide (b.W_ < 1) || decide (20000 < b.W_)) || decide (b.H < 1)) || decide (20000 < b.H)) = true := by
          simp at h1 h2 ⊢; omega
        rw [e3]; rfl
theorem boxes_ok {l : List Box} (h : firstErr (l.map boxErr) = 0) : ∀ b ∈ l, okB b := fun b hb => by
  have := firstErr_zero.1 h (boxErr b) (List.mem_map.2 ⟨b, hb, rfl⟩)
  exact boxErr_zero.1 this

end Go.DB
