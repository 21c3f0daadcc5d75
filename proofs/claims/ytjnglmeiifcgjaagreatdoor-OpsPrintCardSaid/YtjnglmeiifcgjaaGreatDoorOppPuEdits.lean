/-
  Operations are looked at.
-/
import Derived.Test.YtjnglmeiifcgjaaGreatDoorOppPuOpsR
set_option linter.unusedSimpArgs false
set_option linter.unusedVariables false
namespace Go.DB
open Go Go.RowKit

theorem Equal_Op_self (s : List DOp) (hl : (s.length : Int) ≤ 9223372036854775807) : slices_Equal_Op s s = some true := by
  unfold slices_Equal_Op
  simp only [decide_true, Bool.not_true, cond_false]
  rw [rforE_same rfl hl (fun i hi => by
    unfold slices_Equal_Op_L1
    rw [need_of ⟨by omega, by omega⟩, need_of ⟨by omega, by omega⟩, gx_nat hi]
    simp), if_pos rfl]
  rfl
theorem edits_eq : law_edits = some true := by
  unfold law_edits
  rw [Check_eq, Option.bind_some, Check_eq]
  have h0 : opsErr [] = 0 := rfl
  have h5 : opsErr [zeroOp] = 5 := by
    unfold opsErr
    rw [if_neg (by simp)]
    show firstErr [opAt [zeroOp] 0] = 5
    have : opAt [zeroOp] 0 = 5 := by
      unfold opAt
      have : nameB (gx [zeroOp] ((0 : Nat) : Int)).Stamp.Site = false := by
        cases h : nameB (gx [zeroOp] ((0 : Nat) : Int)).Stamp.Site with
        | false => rfl
        | true => exact absurd rfl (nameB_ne h)
      rw [if_pos this]; rfl
    rw [this]; rfl
  rw [h0]
  unfold zeroOp at h5
  rw [h5]; rfl

end Go.DB
