/-
  Right diagrams, in plain words: what is below what, the order of drawing.
-/
import Derived.Test.YtclcheggnlhamaaDoorUngPuDoc4
set_option linter.unusedSimpArgs false
set_option linter.unusedVariables false
namespace Go.DB
open Go Go.RowKit

section
variable {d : Doc}
theorem Right.hd (h : Right d) : (d.Nodes.map (·.Id)).Nodup := nodup_of_tw fun i hi => of_decide_eq_false (nodeErr_zero (h.node i hi)).2.1
theorem Right.at (h : Right d) {n : DNode} (hn : n ∈ d.Nodes) : nameB n.Id = true ∧ (1 ≤ n.Kind ∧ n.Kind ≤ 6) ∧ (n.Kind ≠ 6 → okB n.Box) := by
  obtain ⟨i, hi, rfl⟩ := List.mem_iff_getElem.1 hn
  have := nodeErr_zero (h.node i hi)
  exact ⟨this.1, this.2.2.1, this.2.2.2⟩
theorem Right.hid (h : Right d) {n : DNode} (hn : n ∈ d.Nodes) : n.Id ≠ Str.nil := nameB_ne (h.at hn).1
theorem Right.viewOf (h : Right d) : page_viewOf d = some (some (viewD d)) := viewOf_eq h.nl h.hd

/-- A node is below what has the Id g. -/
def Bel (l : List DNode) (n : DNode) (g : Str) : Prop := ∃ k, (∀ j, j ≤ k → (anc l n j).Parent ≠ Str.nil) ∧ (anc l n k).Parent = g

open Classical in
noncomputable def belB (l : List DNode) (n : DNode) (g : Str) : Bool := decide (Bel l n g)
theorem belB_iff {l : List DNode} {n : DNode} {g : Str} : belB l n g = true ↔ Bel l n g := by unfold belB; simp
end
section
variable {d : Doc}
theorem Dp.anc {l : List DNode} {n : DNode} {m k : Nat} (h : Dp l n m) (hk : k ≤ m) : Dp l (anc l n k) (m - k) := by
  refine ⟨by rw [← anc_add, show k + (m - k) = m by omega]; exact h.1, fun j hj => by rw [← anc_add]; exact h.2 _ (by omega)⟩
/-- j is k or below it. -/
noncomputable def subB (l : List DNode) (k j : Nat) : Bool := decide (j = k) || belB l (gx l (j : Int)) (gx l (k : Int)).Id
theorem not_self (h : Right d) {k : Nat} (hk : k < d.Nodes.length) : belB d.Nodes d.Nodes[k] d.Nodes[k].Id = false := by
  cases hq : belB d.Nodes d.Nodes[k] d.Nodes[k].Id with
  | false => rfl
  | true =>
    obtain ⟨q, h1, h2⟩ := belB_iff.1 hq
    obtain ⟨m, _, hm⟩ := h.deep _ (List.getElem_mem hk)
    have e : anc d.Nodes d.Nodes[k] (q + 1) = d.Nodes[k] := par_at h.hd hk h2
    have hle : q + 1 ≤ m := by
      apply Classical.byContradiction
      intro hc
      exact h1 m (by omega) hm.1
    have := hm.anc hle
    rw [e] at this
    have := this.uni hm
    omega

/-- Marks. -/
def MK (n : Nat) (P : Nat → Bool) : List Bool := (List.range n).map P
end
end Go.DB
