/-
  A tree of one node is right, one of none is not.
-/
import Derived.Test.YtakkmmhjohadaaaTopPuRef
set_option linter.unusedSimpArgs false
set_option linter.unusedVariables false
namespace Go.DB
open Go Go.RowKit

end Go.DB
