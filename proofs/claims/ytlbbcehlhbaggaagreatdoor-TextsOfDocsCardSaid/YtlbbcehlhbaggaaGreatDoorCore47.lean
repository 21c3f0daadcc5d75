/-
  Rows of small elements that may become very long.
-/
import Derived.Test.YtlbbcehlhbaggaaGreatDoorCore46
set_option linter.unusedSimpArgs false
set_option linter.unusedVariables false
namespace Go.DB
open Go Go.RowKit

/-- A row that may become very long: its elements take at most 64 bytes. -/
def RowOKW (P : Program) (T E : TypeId) (α : Type) [Rep α] : Prop := RowOK P T E α ∧ ((P.info? E).all fun i => i.bytes ≤ 64) = true
/-- l has room, if its elements are small. -/
def roomW (n : Nat) : Prop := n ≤ 2199023255552
/-- A list that fits into memory, if its elements take at least 71 bytes. -/
def fewL {α : Type} (l : List α) : Prop := l.length ≤ 2000000000000
section
variable {P : Program} {ops : Array Oper} {fs : Nat} {L : Slots} {B : Owns} {ty : TypeId} {pos : String} {after : Array Edge}
end
end Go.DB
