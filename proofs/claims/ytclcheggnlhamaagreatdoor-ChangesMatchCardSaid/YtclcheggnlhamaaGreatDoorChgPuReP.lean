/-
  Nodes with new parents; groups that are taken away.
-/
import Derived.Test.YtclcheggnlhamaaGreatDoorChgPuCopy
import Derived.Test.YtclcheggnlhamaaGreatDoorChgPuPages
set_option linter.unusedSimpArgs false
set_option linter.unusedVariables false
namespace Go.DB
open Go Go.RowKit

/-- The nodes whose numbers a condition picks have a new parent. -/
def reP (l : List DNode) (q : Nat → Bool) (p : Str) : List DNode := (List.range l.length).map (fun i => if q i = true then { gx l (i : Int) with Parent := p } else gx l (i : Int))
theorem reP_len {l : List DNode} {q : Nat → Bool} {p : Str} : (reP l q p).length = l.length := by simp [reP]
theorem reP_at {l : List DNode} {q : Nat → Bool} {p : Str} {i : Nat} (hi : i < l.length) : gx (reP l q p) (i : Int) = if q i = true then { gx l (i : Int) with Parent := p } else gx l (i : Int) := by
  rw [gx_nat (by rw [reP_len]; exact hi)]
  simp [reP]
theorem reP_none {l : List DNode} {q : Nat → Bool} {p : Str} (h : ∀ i, i < l.length → q i = false) : reP l q p = l := by
  unfold reP
  refine List.ext_getElem (by simp) fun i h1 h2 => ?_
  have hi : i < l.length := h2
  simp [h i hi, gx_nat hi]
theorem reP_congr {l : List DNode} {q r : Nat → Bool} {p : Str} (h : ∀ i, i < l.length → q i = r i) : reP l q p = reP l r p := by
  unfold reP
  exact List.map_congr_left fun i hi => by rw [h i (by simpa using hi)]
theorem reP_set {l : List DNode} {q : Nat → Bool} {p : Str} {i : Nat} (hi : i < l.length) : (reP l q p).set i { gx (reP l q p) (i : Int) with Parent := p } = reP l (fun j => q j || decide (j = i)) p := by
  rw [reP_at hi]
  refine List.ext_getElem (by simp [reP]) fun j h1 h2 => ?_
  have hj : j < l.length := by simpa [reP_len] using h2
  rw [List.getElem_set]
  by_cases e : i = j
  · subst e
    rw [if_pos rfl]
    have : (reP l (fun j => q j || decide (j = i)) p)[i] = { gx l (i : Int) with Parent := p } := by simp [reP]
    rw [this]
    split <;> rfl
  · rw [if_neg e]
    have e' : ¬ j = i := fun h => e h.symm
    simp [reP, e']

end Go.DB
