/-
  Texts are checked, in plain words.
-/
import Derived.Test.YthopjimlhjgoiaaDoorWkwPuText
import Derived.Test.YthopjimlhjgoiaaDoorWkwPuTErr
set_option linter.unusedSimpArgs false
set_option linter.unusedVariables false
namespace Go.DB
open Go Go.RowKit

theorem checkBoth_eq (f : Font) (s : Str) : shape_checkBoth f s = some (firstErr [fontErr f, textErr s]) := by
  unfold shape_checkBoth
  rw [CheckFont_eq, Option.bind_some]
  by_cases h : fontErr f = 0
  · simp [h, CheckText_eq]
  · simp [h]

end Go.DB
