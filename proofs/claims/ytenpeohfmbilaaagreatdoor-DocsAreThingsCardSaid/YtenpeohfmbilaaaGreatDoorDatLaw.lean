/-
  DocsAreThings: what the program makes of a diagram as things, and of things as a diagram, is what the document says, for every diagram and all things.
-/
import Derived.Test.YtenpeohfmbilaaaGreatDoorDatLawB
import Derived.Test.YtenpeohfmbilaaaGreatDoorCards
import Derived.Test.YtenpeohfmbilaaaGreatDoorTie
namespace Go.Proofs.YtenpeohfmbilaaaGreatDoor
open Go Go.DB Go.RowKit Go.ChangeShapes Go.WideShapes Go.ChangeAt
set_option maxRecDepth 100000
set_option linter.unusedSimpArgs false
set_option linter.unusedVariables false
theorem DocsAreThings_card : Rows.DocsAreThingsCardSaid :=
 Claim7.holds_tied_plain_at .later [] [.data, .data, .data, .data, .sentinel, .sentinel, .listed, .data, .pinned] true (true, "82473a09e9319964e454f306d4afa370160141e484d5da6747fb868bb82f2d4b") true DocsAreThings_holds (fun _ h => by cases h) (by kernel_rfl) (fun _ h => by cases h) docsAreThings_row_tie rfl ⟨rfl, rfl⟩ (by kernel_rfl) rfl
  (fun f fn hf hfn => by
   obtain rfl : f = 3 := Option.some.inj ((show Tryz.prog.funcNamed "drawboard/drawlaw1.DocsAreThings" = some 3 by kernel_rfl).symm.trans hf) |>.symm
   obtain rfl : fn = Tryz.f3 := (Option.some.inj (Tryz.func3.symm.trans hfn)).symm
   exact ⟨by kernel_rfl, fun j t ht => by
    rw [Tryz.params3] at ht
    have hm : t ∈ [25, 26] := by simpa using Array.mem_of_getElem? ht
    have hall : ([25, 26].all fun u => !Tryz.prog.wantsStandIn u) = true := by kernel_rfl
    exact (show Tryz.prog.wantsStandIn t = false by simpa using List.all_eq_true.1 hall t hm)⟩)
  (by kernel_rfl)
end Go.Proofs.YtenpeohfmbilaaaGreatDoor
