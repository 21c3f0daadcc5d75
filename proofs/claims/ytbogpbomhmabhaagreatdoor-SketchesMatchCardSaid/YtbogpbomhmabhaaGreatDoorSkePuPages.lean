/-
  What every law on diagrams asks first.
-/
import Derived.Test.YtbogpbomhmabhaaGreatDoorSkePuDoc4
set_option linter.unusedSimpArgs false
set_option linter.unusedVariables false
namespace Go.DB
open Go Go.RowKit

end Go.DB
