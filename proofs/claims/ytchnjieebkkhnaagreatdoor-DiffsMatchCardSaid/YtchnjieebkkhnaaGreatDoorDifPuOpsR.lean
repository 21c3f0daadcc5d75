/-
  Right operations: sorted, with numbers from one on.
-/
import Derived.Test.YtchnjieebkkhnaaGreatDoorDifPuOps
set_option linter.unusedSimpArgs false
set_option linter.unusedVariables false
namespace Go.DB
open Go Go.RowKit

def ltOp (a b : DOp) : Prop := cmpOp a b < 0
/-! Two lists in one. -/

end Go.DB
