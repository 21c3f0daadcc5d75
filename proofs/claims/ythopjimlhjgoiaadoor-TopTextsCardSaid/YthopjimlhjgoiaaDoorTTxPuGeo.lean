/-
  Points and paths are looked at alike.
-/
import Derived.Test.YthopjimlhjgoiaaDoorTTxPuRef
set_option linter.unusedSimpArgs false
set_option linter.unusedVariables false
namespace Go.DB
open Go Go.RowKit

end Go.DB
