/-
  Maps in plain Lean: maps that are told by a set of keys, and loops over maps.
-/
import Derived.Test.YtchnjieebkkhnaaGreatDoorDifPuRef
set_option linter.unusedSimpArgs false
set_option linter.unusedVariables false
namespace Go.DB
open Go Go.RowKit

section
open Classical
/-- f at the keys of X. -/
noncomputable def gm {V : Type} (X : Int → Prop) (f : Int → V) : GMap Int V := ⟨fun v => if X v then some (f v) else none⟩
end

/-- The greatest of a set of numbers, if there are some. -/
def Mx (S : Int → Prop) (s : Int × Bool) : Prop := (s = (0, false) ∧ ∀ x, ¬ S x) ∨ (s.2 = true ∧ S s.1 ∧ ∀ x, S x → x ≤ s.1)
theorem Mx.add {S : Int → Prop} {s : Int × Bool} (h : Mx S s) (y : Int) : Mx (fun x => S x ∨ x = y) (bif (!s.2 || decide (s.1 < y)) then (y, true) else s) := by
  rcases h with ⟨rfl, h⟩ | ⟨h1, h2, h3⟩
  · simp only [Bool.not_false, Bool.true_or, cond_true]
    exact .inr ⟨rfl, .inr rfl, fun x hx => by
      rcases hx with hx | hx
      · exact absurd hx (h x)
      · omega⟩
  · rw [h1]
    by_cases hy : s.1 < y
    · simp only [Bool.not_true, Bool.false_or, decide_eq_true hy, cond_true]
      exact .inr ⟨rfl, .inr rfl, fun x hx => by
        rcases hx with hx | hx
        · have := h3 x hx; omega
        · omega⟩
    · simp only [Bool.not_true, Bool.false_or, decide_eq_false hy, cond_false]
      exact .inr ⟨h1, .inl h2, fun x hx => by
        rcases hx with hx | hx
        · exact h3 x hx
        · omega⟩
end Go.DB
