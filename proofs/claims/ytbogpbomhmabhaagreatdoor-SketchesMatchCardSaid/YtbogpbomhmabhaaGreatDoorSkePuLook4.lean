/-
  Right diagrams, in plain words: what is at a point, in a box, and along a line.
-/
import Derived.Test.YtbogpbomhmabhaaGreatDoorSkePuLook3
set_option linter.unusedSimpArgs false
set_option linter.unusedVariables false
namespace Go.DB
open Go Go.RowKit

section
variable {d : Doc}
theorem edgeErr_zero {l : List DNode} {x : DEdge} {tw : Bool} (h : edgeErr l x tw = 0) : tw = false ∧ endErr l x.From = 0 ∧ endErr l x.To = 0 ∧ x.Bends.length ≤ 50 := by
  have := firstErr_zero.1 h
  have h2 := this (if tw = true then 6 else 0) (by simp)
  have h3 := this (endErr l x.From) (by simp)
  have h4 := this (endErr l x.To) (by simp)
  have h5 := this (if 50 < x.Bends.length then 4 else 0) (by simp)
  refine ⟨?_, h3, h4, ?_⟩
  · cases tw with
    | false => rfl
    | true => simp at h2
  · apply Classical.byContradiction; intro hc; rw [if_pos (by omega)] at h5; cases h5
theorem endErr_zero {l : List DNode} {y : DEnd} (h : endErr l y = 0) : ¬ nodeAt l y.Node < 0 ∧ (gx l (nodeAt l y.Node)).Kind ≠ 6 ∧ (1 ≤ y.Side ∧ y.Side ≤ 4) ∧ 0 ≤ y.At ∧ y.At ≤ 1000 := by
  unfold endErr at h
  split at h
  · cases h
  · rename_i h1
    split at h
    · cases h
    · rename_i h2
      split at h
      · rename_i h3; exact ⟨h1, h2, h3⟩
      · cases h
theorem edge_new (h : Right d) {i : Nat} (hi : i < d.Edges.length) : nodeAt d.Nodes d.Edges[i].Id < 0 := by
  have := (edgeErr_zero (h.edge i hi)).1
  have := of_decide_eq_false this
  rw [nodeAt_neg]
  intro n hn e
  exact this (List.mem_append_left _ (List.mem_map.2 ⟨n, hn, e⟩))
/-- The box of a node that is no group. -/
theorem box_leaf (h : Right d) {i : Nat} (hi : i < d.Nodes.length) (hk : d.Nodes[i].Kind ≠ 6) : ref_BoxOfNode d d.Nodes[i].Id = some (d.Nodes[i].Box, 0) :=
  fixp_of 1 (fun N hN => by
    obtain ⟨N, rfl⟩ : ∃ q, N = q + 1 := ⟨N - 1, by omega⟩
    show ref_BoxOfNode_body _ _ = _
    unfold ref_BoxOfNode_body
    simp only [bnd_eq]
    have hnl := h.nl
    rw [NodeAt_eq (by omega), nodeAt_of h.hd hi, Option.bind_some, need_of ⟨by omega, by omega⟩, gx_nat hi, decide_eq_false hk]; rfl)
end
end Go.DB
