/-
  Operations are looked at.
-/
import Derived.Test.YtlkebjlooppdlaaGreatDoorStmPuOpsR
set_option linter.unusedSimpArgs false
set_option linter.unusedVariables false
namespace Go.DB
open Go Go.RowKit

theorem edits_eq : law_edits = some true := by
  unfold law_edits
  rw [Check_eq, Option.bind_some, Check_eq]
  have h0 : opsErr [] = 0 := rfl
  have h5 : opsErr [zeroOp] = 5 := by
    unfold opsErr
    rw [if_neg (by simp)]
    show firstErr [opAt [zeroOp] 0] = 5
    have : opAt [zeroOp] 0 = 5 := by
      unfold opAt
      have : nameB (gx [zeroOp] ((0 : Nat) : Int)).Stamp.Site = false := by
        cases h : nameB (gx [zeroOp] ((0 : Nat) : Int)).Stamp.Site with
        | false => rfl
        | true => exact absurd rfl (nameB_ne h)
      rw [if_pos this]; rfl
    rw [this]; rfl
  rw [h0]
  unfold zeroOp at h5
  rw [h5]; rfl

end Go.DB
