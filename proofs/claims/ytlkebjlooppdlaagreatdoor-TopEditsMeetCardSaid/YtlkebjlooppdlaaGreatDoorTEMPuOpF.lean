/-
  The library's functions on operations.
-/
import Derived.Test.YtlkebjlooppdlaaGreatDoorTEMPuRef
set_option linter.unusedSimpArgs false
set_option linter.unusedVariables false
namespace Go.DB
open Go Go.RowKit

theorem IndexFunc_DOp_eq (s : List DOp) (f : DOp → Option Bool) (p : DOp → Bool) (hl : (s.length : Int) ≤ 9223372036854775807) (hf : ∀ x ∈ s, f x = some (p x)) :
    slices_IndexFunc_Op s f = some (match s.findIdx? p with | some i => (i : Int) | none => -1) := by
  unfold slices_IndexFunc_Op
  rw [rforE_index p hl (fun i h => by unfold slices_IndexFunc_Op_L1; rw [need_of ⟨by omega, by omega⟩, gx_nat h, hf _ (List.getElem_mem h)]; simp only [bind_sm]; cases p s[i] <;> rfl)]
  cases s.findIdx? p <;> rfl
theorem Clone_DOp_eq {l : List DOp} (hl : l.length ≤ 1073741824) : slices_Clone_Op l = some l := by
  unfold slices_Clone_Op
  rw [need_of (by rw [room_iff]; simpa using hl)]
  simp only [bnd_eq, List.nil_append]
  unfold nilc
  by_cases h : l = []
  · simp [h]
  · rw [if_neg h]
end Go.DB
