/-
  Maps in plain Lean: maps that are told by a set of keys, and loops over maps.
-/
import Derived.Test.YtclcheggnlhamaaDoorTSePuRef
set_option linter.unusedSimpArgs false
set_option linter.unusedVariables false
namespace Go.DB
open Go Go.RowKit
section
open Classical
end
end Go.DB
