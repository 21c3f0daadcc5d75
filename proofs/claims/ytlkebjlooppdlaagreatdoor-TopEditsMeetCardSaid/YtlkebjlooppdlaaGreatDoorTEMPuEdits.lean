/-
  Operations are looked at.
-/
import Derived.Test.YtlkebjlooppdlaaGreatDoorTEMPuOpsR
set_option linter.unusedSimpArgs false
set_option linter.unusedVariables false
namespace Go.DB
open Go Go.RowKit

theorem Equal_Op_self (s : List DOp) (hl : (s.length : Int) ≤ 9223372036854775807) : slices_Equal_Op s s = some true := by
  unfold slices_Equal_Op
  simp only [decide_true, Bool.not_true, cond_false]
  rw [rforE_same rfl hl (fun i hi => by
    unfold slices_Equal_Op_L1
    rw [need_of ⟨by omega, by omega⟩, need_of ⟨by omega, by omega⟩, gx_nat hi]
    simp), if_pos rfl]
  rfl
end Go.DB
