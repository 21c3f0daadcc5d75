/-
  TopDocsLead: a diagram comes back from its text, from its things, from what makes them, and from a session, for every diagram, every diagram before it and all rules.
-/
import Derived.Test.YtokamljonkipbaaGreatDoorTdlLawA
import Derived.Test.YtokamljonkipbaaGreatDoorCards
import Derived.Test.YtokamljonkipbaaGreatDoorTie
namespace Go.Proofs.YtokamljonkipbaaGreatDoor
open Go Go.DB Go.RowKit Go.ChangeShapes Go.WideShapes Go.ChangeAt
set_option maxRecDepth 100000
set_option linter.unusedVariables false
theorem zrU : (Rows.topDocsLeadRow.inPlace == Tryz.prog.inPlace 3) = true := by kernel_rfl
theorem zrW : (Rows.topDocsLeadRow.unfollowed == Tryz.prog.unfollowed 3) = true := by kernel_rfl
theorem zrV : (Rows.topDocsLeadRow.recurses == Tryz.prog.recurses 3) = true := by kernel_rfl
theorem zrX : (Rows.topDocsLeadRow.named == Tryz.prog.varsNamed 3) = true := by kernel_rfl
theorem zrY : joinedFacts Tryz.prog 3 Tryz.f3 Rows.topDocsLeadSpec Rows.topDocsLeadRow = true := by
 unfold joinedFacts
 rw [zrU, zrW, zrV, zrX]
 kernel_rfl
theorem TopDocsLead_holds : Rows.TopDocsLeadSaid :=
 OpenClaim.holds_of_wide 3 Tryz.f3 rfl rfl rfl rfl rfl rfl rfl ⟨rfl, rfl, rfl, rfl, rfl⟩ rfl rfl rfl rfl rfl (by kernel_rfl) Tryz.func3 zrY
  (of_decide_eq_true (by kernel_rfl)) (by unfold Func.isWrapper; rw [if_neg (of_decide_eq_false (by kernel_rfl))]; exact ⟨rfl, rfl⟩)
  (fun os started H enc _ => zos os started H enc)
end Go.Proofs.YtokamljonkipbaaGreatDoor
