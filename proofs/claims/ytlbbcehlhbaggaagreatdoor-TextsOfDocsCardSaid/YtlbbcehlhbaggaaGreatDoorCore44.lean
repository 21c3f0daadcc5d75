/-
  Results in pairs whose first part owns memory.
-/
import Derived.Test.YtlbbcehlhbaggaaGreatDoorCore43
set_option linter.unusedSimpArgs false
set_option linter.unusedVariables false
namespace Go.DB
open Go Go.RowKit

/-- A pair whose first part owns memory. -/
def tupC (C : CPred) : CPred where
  p := fun M D v w => ∃ a b, v = .tuple #[a, b] ∧ C.p M D a w
  inM := fun M D v w ⟨a, b, _, h⟩ => C.inM M D a w h
  law := fun M M' D v w w' hk hm hD ⟨a, b, e, h⟩ => ⟨a, b, e, C.law M M' D a w w' hk hm hD h⟩

section
variable {P : Program} {ops : Array Oper} {fs : Nat} {L : Slots} {B : Owns} {ty : TypeId} {pos : String} {after : Array Edge} {g : Option (Nat × Bool)}

end

section
variable {P : Program} {ops : Array Oper} {fs : Nat} {L : Slots} {B : Owns} {d : Option Tmp} {ty : TypeId} {pos : String} {after : Array Edge} {g : Option (Nat × Bool)} {G : Prop}
variable {K V : Type} [Rep K] [DecidableEq K] [MKey K] [Rep V] {m : GMap K V} {k : K} {z : V} {T kt et : TypeId}
end
end Go.DB
