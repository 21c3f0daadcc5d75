/-
  What Measure and Wrap give.
-/
import Derived.Test.YthopjimlhjgoiaaDoorWkwPuWrap2
import Derived.Test.YthopjimlhjgoiaaDoorWkwPuErrs
import Derived.Test.YthopjimlhjgoiaaDoorExContains
set_option linter.unusedSimpArgs false
set_option linter.unusedVariables false
namespace Go.DB
open Go Go.RowKit

theorem Measure_eq (f : Font) (s : Str) : shape_Measure f s = some (if firstErr [fontErr f, textErr s, if hasByte s 10 = true then 2 else 0] = 0 then (mw f s.b, 0) else (0, firstErr [fontErr f, textErr s, if hasByte s 10 = true then 2 else 0])) := by
  unfold shape_Measure
  rw [checkBoth_eq, Option.bind_some]
  by_cases h1 : fontErr f = 0
  · by_cases h2 : textErr s = 0
    · have hf := fontErr_zero.1 h1
      have hs := (textErr_zero.1 h2).1
      simp only [h1, h2, firstErr_cons, if_true]
      unfold strings_Contains
      rw [need_of (show (⟨[10]⟩ : Str).b.length = 1 from rfl), Option.bind_some, measure_eq hf (by omega)]
      show (bif !decide (firstErr [] = 0) then _ else bif hasByte s 10 then _ else _) = _
      cases hasByte s 10 <;> simp [firstErr]
    · simp [h1, h2]
  · simp [h1]
theorem Wrap_eq (f : Font) (s : Str) (width : Int) : shape_Wrap f s width = some (if firstErr [fontErr f, textErr s, if 1 ≤ width ∧ width ≤ 20000 then 0 else 3] = 0 then ((wrapB f width s.b).map Str.mk, 0) else ([], firstErr [fontErr f, textErr s, if 1 ≤ width ∧ width ≤ 20000 then 0 else 3])) := by
  unfold shape_Wrap
  rw [checkBoth_eq, Option.bind_some]
  by_cases h1 : fontErr f = 0
  · by_cases h2 : textErr s = 0
    · have hf := fontErr_zero.1 h1
      have hs := (textErr_zero.1 h2).1
      simp only [h1, h2, firstErr_cons, if_true]
      by_cases hw : 1 ≤ width ∧ width ≤ 20000
      · have : (decide (width < 1) || decide (20000 < width)) = false := by simp; omega
        rw [this, cond_false, wrap_eq hf (by omega) (t := s.b) (by omega), Option.bind_some]
        simp [hw, firstErr]
      · have : (decide (width < 1) || decide (20000 < width)) = true := by simp; omega
        rw [this, cond_true]
        simp [hw, firstErr]
    · simp [h1, h2]
  · simp [h1]
end Go.DB
