/-
  DocsAreThings: what the program makes of a diagram as things, and of things as a diagram, is what the document says, for every diagram and all things.
-/
import Derived.Test.YtenpeohfmbilaaaGreatDoorDatLawA
import Derived.Test.YtenpeohfmbilaaaGreatDoorCards
import Derived.Test.YtenpeohfmbilaaaGreatDoorTie
namespace Go.Proofs.YtenpeohfmbilaaaGreatDoor
open Go Go.DB Go.RowKit Go.ChangeShapes Go.WideShapes Go.ChangeAt
set_option maxRecDepth 100000
set_option linter.unusedVariables false
theorem zqL : (Rows.docsAreThingsRow.inPlace == Tryz.prog.inPlace 3) = true := by kernel_rfl
theorem zqN : (Rows.docsAreThingsRow.unfollowed == Tryz.prog.unfollowed 3) = true := by kernel_rfl
theorem zqM : (Rows.docsAreThingsRow.recurses == Tryz.prog.recurses 3) = true := by kernel_rfl
theorem zqO : (Rows.docsAreThingsRow.named == Tryz.prog.varsNamed 3) = true := by kernel_rfl
theorem zqP : joinedFacts Tryz.prog 3 Tryz.f3 Rows.docsAreThingsSpec Rows.docsAreThingsRow = true := by
 unfold joinedFacts
 rw [zqL, zqN, zqM, zqO]
 kernel_rfl
theorem DocsAreThings_holds : Rows.DocsAreThingsSaid :=
 OpenClaim.holds_of_wide 3 Tryz.f3 rfl rfl rfl rfl rfl rfl rfl ⟨rfl, rfl, rfl, rfl, rfl⟩ rfl rfl rfl rfl rfl (by kernel_rfl) Tryz.func3 zqP
  (of_decide_eq_true (by kernel_rfl)) (by unfold Func.isWrapper; rw [if_neg (of_decide_eq_false (by kernel_rfl))]; exact ⟨rfl, rfl⟩)
  (fun os started H enc _ => znM os started H enc)
end Go.Proofs.YtenpeohfmbilaaaGreatDoor
