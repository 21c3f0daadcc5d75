/-
  TopDocsLead: a diagram comes back from its text, from its things, from what makes them, and from a session, for every diagram, every diagram before it and all rules.
-/
import Derived.Test.YtokamljonkipbaaGreatDoorTdlLawB
import Derived.Test.YtokamljonkipbaaGreatDoorCards
import Derived.Test.YtokamljonkipbaaGreatDoorTie
namespace Go.Proofs.YtokamljonkipbaaGreatDoor
open Go Go.DB Go.RowKit Go.ChangeShapes Go.WideShapes Go.ChangeAt
set_option maxRecDepth 100000
set_option linter.unusedSimpArgs false
set_option linter.unusedVariables false
theorem zpl : Tryz.prog.mainIs = some (true, ("d4f1fc9a251d4dd6133a3ffdb587c14a87c14e0e7d95dac6bdd2837b90f71e0d").toList) := by kernel_rfl
theorem zpk : true = Tryz.prog.looks [] := by kernel_rfl
theorem ziR : Tryz.prog.funcNamed "drawboard/drawtop.TopDocsLead" = some 3 := by kernel_rfl
theorem zrm {P : Program} (h : P.funcs.any Func.goes = false) (f : FuncId) : P.goes f = false := by
 have hx : ∀ fn ∈ P.funcs.toList, Func.goes fn = false := fun fn hfn => by
  have := Array.any_eq_false.1 h
  obtain ⟨i, hi, e⟩ := List.getElem_of_mem hfn
  have h2 := this i (by simpa using hi)
  rw [← e]
  simpa using h2
 unfold Program.goes
 rw [h, Bool.and_false, Bool.or_false]
 apply Bool.eq_false_iff.2
 intro hc
 simp only [List.any_eq_true, Array.any_eq_true'] at hc
 obtain ⟨g, _, hg⟩ := hc
 cases hq : P.funcs[g]? with
 | none => rw [hq] at hg; simp at hg
 | some fn =>
  rw [hq] at hg
  have := hx fn (by rw [Array.mem_toList_iff]; exact Array.mem_of_getElem? hq)
  simp [this] at hg
theorem zpi : Tryz.prog.funcs.any Func.goes = false := by kernel_rfl
theorem zpj : false = Rows.topDocsLeadRow.goesBy Tryz.prog := by
 unfold OpenClaim.goesBy Program.goesAt Program.goesFrom
 rw [show Rows.topDocsLeadRow.func = "drawboard/drawtop.TopDocsLead" from rfl, ziR, show Rows.topDocsLeadRow.start = .entering from rfl, Option.any_some, zrm zpi]
 rfl
theorem TopDocsLead_card : Rows.TopDocsLeadCardSaid :=
 Claim7.holds_tied_plain_at .later [] [.data, .data, .data, .data, .sentinel, .sentinel, .pinned] true (true, "d4f1fc9a251d4dd6133a3ffdb587c14a87c14e0e7d95dac6bdd2837b90f71e0d") true TopDocsLead_holds (fun _ h => by cases h) (by kernel_rfl) (fun _ h => by cases h) topDocsLead_row_tie rfl ⟨rfl, rfl⟩ zpl rfl
  (fun f fn hf hfn => by
   obtain rfl : f = 3 := Option.some.inj ((ziR).symm.trans hf) |>.symm
   obtain rfl : fn = Tryz.f3 := (Option.some.inj (Tryz.func3.symm.trans hfn)).symm
   exact ⟨zpk, fun j t ht => by
    rw [Tryz.params3] at ht
    have hm : t ∈ [25, 25, 26] := by simpa using Array.mem_of_getElem? ht
    have hall : ([25, 25, 26].all fun u => !Tryz.prog.wantsStandIn u) = true := by kernel_rfl
    exact (show Tryz.prog.wantsStandIn t = false by simpa using List.all_eq_true.1 hall t hm)⟩)
  zpj
end Go.Proofs.YtokamljonkipbaaGreatDoor
