/-
  Arrays in place.
-/
import Derived.Test.YtbahnfkccdlpnaaCore29
set_option linter.unusedVariables false
set_option linter.unusedSimpArgs false
namespace Go.DB
open Go Go.RowKit

abbrev Arr.at0 {n : Nat} {α : Type} [Inhabited α] (x : Arr n α) : α := gx x.l 0
abbrev Arr.at1 {n : Nat} {α : Type} [Inhabited α] (x : Arr n α) : α := gx x.l 1
abbrev Arr.at2 {n : Nat} {α : Type} [Inhabited α] (x : Arr n α) : α := gx x.l 2
abbrev Arr.at3 {n : Nat} {α : Type} [Inhabited α] (x : Arr n α) : α := gx x.l 3
instance : Inhabited Raw := ⟨⟨.slice none 0 0⟩⟩
section
variable {P : Program} {ops : Array Oper} {fs : Nat} {L : Slots} {B : Owns} {G : Prop}
variable {d : Option Tmp} {ty : TypeId} {pos : String} {after : Array Edge} {g : Option (Nat × Bool)} {xr : List Nat}
end
end Go.DB
