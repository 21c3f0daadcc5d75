/-
  What every law on diagrams asks first.
-/
import Derived.Test.YtclcheggnlhamaaGreatDoorMGBPuDoc4
set_option linter.unusedSimpArgs false
set_option linter.unusedVariables false
namespace Go.DB
open Go Go.RowKit

theorem rforE_none {α σ O : Type} {step : Int → σ → Option (Res σ O)} {fin : σ → O} {s : σ} : rforE (([] : List α).length : Int) step fin s = some (fin s) := by
  rw [rforE_eq (by simp)]; rfl
theorem pages_eq : law_pages = some true := by
  unfold law_pages
  have e1 : page_Check (⟨([] : (List DNode)), ([] : (List DEdge))⟩ : Doc) = some 0 := by
    unfold page_Check
    dsimp only
    rw [bnd_eq, rforE_none, bindR_nx, viewOf_eq (by simp) (by simp), Option.bind_some, Option.bind_some]
    have : page_view_checkGroups (viewD ⟨[], []⟩) = some 0 := by
      unfold page_view_checkGroups
      have hv : (viewD ⟨[], []⟩).d.Nodes = [] := rfl
      rw [hv, rforE_none, bindR_nx, rforE_none, bindR_nx, rforE_none, bindR_nx, rforE_none, bindR_nx]
    rw [this, Option.bind_some, rforE_none, bindR_nx, rforE_none, bindR_nx]
    rfl
  have e2 : page_Check (⟨[(⟨Str.nil, (0 : Int), (⟨(0 : Int), (0 : Int), (0 : Int), (0 : Int)⟩ : Box), Str.nil, Str.nil, Str.nil, false⟩ : DNode)], ([] : (List DEdge))⟩ : Doc) = some 5 := by
    unfold page_Check
    simp only [List.length_nil, List.length_cons, bnd_eq]
    rw [rforE_eq (by simp)]
    have : ((0 + 1 : Nat) : Int).toNat = 1 := rfl
    rw [this]
    simp only [rgoE]
    have : page_Check_L1 (⟨[(⟨Str.nil, (0 : Int), (⟨(0 : Int), (0 : Int), (0 : Int), (0 : Int)⟩ : Box), Str.nil, Str.nil, Str.nil, false⟩ : DNode)], ([] : (List DEdge))⟩ : Doc) 0 GMap.nil = some (Res.ab (Res.ab 5)) := by
      unfold page_Check_L1
      rw [need_of ⟨by omega, by simp⟩, bnd_eq, checkNode_eq]
      simp [gx, nodeErr, nameB, Str.nil]
    rw [this]
    rfl
  rw [e1, Option.bind_some]
  simp only [decide_true, gd_true]
  rw [e2]
  rfl
end Go.DB
