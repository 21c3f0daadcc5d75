/-
  Functions that are values without captures, and write what they are given.
-/
import Derived.Test.YthopjimlhjgoiaaDoorCore17
set_option linter.unusedVariables false
namespace Go.DB
open Go Go.RowKit
variable {L : Slots} {G : Prop}

theorem Opd.funcC {f : Nat} : Opd L G (.func f) (cloV f []) := fun _ _ => ⟨[], rfl, trivial⟩

end Go.DB
