/-
  Operations by time, then by site, then by number.
-/
import Derived.Test.YtchnjieebkkhnaaGreatDoorExCmp
set_option linter.unusedSimpArgs false
set_option linter.unusedVariables false
namespace Go.DB
open Go Go.RowKit

def cmpL (t : Int) (s : List UInt8) (n : Int) (t' : Int) (s' : List UInt8) (n' : Int) : Int := if numC t t' ≠ 0 then numC t t' else cmpO s n s' n'
end Go.DB
