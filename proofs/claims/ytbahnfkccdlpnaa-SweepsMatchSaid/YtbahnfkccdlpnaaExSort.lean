/-
  What the library's sort of integers comes to.
-/
import Derived.Test.YtbahnfkccdlpnaaCoreC
import Derived.Shelf.SortM.Plain
import Derived.Shelf.SortM.SortNone
set_option linter.unusedSimpArgs false
set_option linter.unusedVariables false
namespace Go.DB
open Go Go.RowKit

noncomputable def sortI (l : List Int) : List Int := l.mergeSort fun x y => decide (x ≤ y)

end Go.DB
