/-
  Diagrams whose roots are moved, each by its own numbers: the document's way, and the program's.
-/
import Derived.Test.YtclcheggnlhamaaDoorTSePuMove2
set_option linter.unusedSimpArgs false
set_option linter.unusedVariables false
namespace Go.DB
open Go Go.RowKit
def idK (d : Doc) (k : Int) : Str := (gx d.Nodes k).Id
theorem rootOf_mem {d : Doc} {R : List Int} {j : Nat} {k : Int} (h : rootOf d R j = some k) : k ∈ R ∧ subB d.Nodes k.toNat j = true :=
 ⟨List.mem_of_find?_eq_some h, by have := List.find?_some h; simpa using this⟩
noncomputable def lockR (d : Doc) (R : List Int) (f : Int → Int × Int) (j : Nat) : Bool := match rootOf d R j with | some k => (gx d.Nodes (j : Int)).Locked && !decide (f k = (0, 0)) | none => false
end Go.DB
