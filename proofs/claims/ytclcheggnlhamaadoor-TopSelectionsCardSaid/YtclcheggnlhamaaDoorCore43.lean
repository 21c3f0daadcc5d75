/-
  Rows into which the elements of other rows are put: capacities, parts up to the capacity, copies into a row of one's own, zeros behind a row.
-/
import Derived.Test.YtclcheggnlhamaaDoorCoreG
import Derived.Lib.Overlaps
import Derived.Lib.AppendZerosOnto
set_option linter.unusedVariables false
set_option linter.unusedSimpArgs false
namespace Go.DB
open Go Go.RowKit
section
variable {P : Program} {Q : Exit → Act → World → Prop} {n : Nat} {F : Fr} {L : Slots} {B : Owns}
end
section
variable {P : Program} {ops : Array Oper} {fs : Nat} {L : Slots} {B : Owns} {ty : TypeId} {pos : String} {after : Array Edge} {d : Option Tmp} {xr : List Nat}
end
end Go.DB
