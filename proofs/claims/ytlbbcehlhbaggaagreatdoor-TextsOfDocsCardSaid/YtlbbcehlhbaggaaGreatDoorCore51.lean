/-
  A map of one's own that is written no more from the range over it on.
-/
import Derived.Test.YtlbbcehlhbaggaaGreatDoorCore50
set_option linter.unusedSimpArgs false
set_option linter.unusedVariables false
namespace Go.DB
open Go Go.RowKit

section
variable {P : Program} {ops : Array Oper} {fs : Nat} {L : Slots} {B : Owns} {G : Prop}
variable {ty : TypeId} {pos : String} {after : Array Edge} {T kt et : TypeId}
end
section
variable {P : Program} {ops : Array Oper} {fs : Nat} {L : Slots} {B : Owns} {G : Prop}
variable {ty : TypeId} {pos : String} {after : Array Edge} {g : Option (Nat × Bool)} {xr : List Nat} {d : Option Tmp}
variable {K K2 V : Type} [Rep K] [DecidableEq K] [MKey K] [Rep K2] [Rep V] {T kt et : TypeId} {m : GMap K (GMap K2 V)} {k : K} {hole : Option (K × Value)}
end
end Go.DB
