/-
  Right diagrams, in plain words: what is below what, the order of drawing.
-/
import Derived.Test.YtbogpbomhmabhaaGreatDoorSkePuDoc4
set_option linter.unusedSimpArgs false
set_option linter.unusedVariables false
namespace Go.DB
open Go Go.RowKit

section
variable {d : Doc}
theorem Right.hd (h : Right d) : (d.Nodes.map (·.Id)).Nodup := nodup_of_tw fun i hi => of_decide_eq_false (nodeErr_zero (h.node i hi)).2.1
theorem Right.at (h : Right d) {n : DNode} (hn : n ∈ d.Nodes) : nameB n.Id = true ∧ (1 ≤ n.Kind ∧ n.Kind ≤ 6) ∧ (n.Kind ≠ 6 → okB n.Box) := by
  obtain ⟨i, hi, rfl⟩ := List.mem_iff_getElem.1 hn
  have := nodeErr_zero (h.node i hi)
  exact ⟨this.1, this.2.2.1, this.2.2.2⟩
theorem Right.hid (h : Right d) {n : DNode} (hn : n ∈ d.Nodes) : n.Id ≠ Str.nil := nameB_ne (h.at hn).1
theorem Right.parIn (h : Right d) : ParIn d.Nodes := fun n hn hne => by
  obtain ⟨g, h1, h2, _⟩ := h.tree n hn hne
  exact ⟨g, h1, h2⟩
theorem Right.at_Id (h : Right d) {i j : Nat} (hi : i < d.Nodes.length) (hj : j < d.Nodes.length) (e : d.Nodes[i].Id = d.Nodes[j].Id) : i = j := by
  have h1 := nodeAt_of h.hd hi
  have h2 := nodeAt_of h.hd hj
  rw [e] at h1
  omega
theorem Right.viewOf (h : Right d) : page_viewOf d = some (some (viewD d)) := viewOf_eq h.nl h.hd

/-- A node is below what has the Id g. -/
def Bel (l : List DNode) (n : DNode) (g : Str) : Prop := ∃ k, (∀ j, j ≤ k → (anc l n j).Parent ≠ Str.nil) ∧ (anc l n k).Parent = g

open Classical in
noncomputable def belB (l : List DNode) (n : DNode) (g : Str) : Bool := decide (Bel l n g)
theorem belB_iff {l : List DNode} {n : DNode} {g : Str} : belB l n g = true ↔ Bel l n g := by unfold belB; simp
end
section
variable {d : Doc}
theorem Dp.anc {l : List DNode} {n : DNode} {m k : Nat} (h : Dp l n m) (hk : k ≤ m) : Dp l (anc l n k) (m - k) := by
  refine ⟨by rw [← anc_add, show k + (m - k) = m by omega]; exact h.1, fun j hj => by rw [← anc_add]; exact h.2 _ (by omega)⟩
/-- j is k or below it. -/
noncomputable def subB (l : List DNode) (k j : Nat) : Bool := decide (j = k) || belB l (gx l (j : Int)) (gx l (k : Int)).Id
theorem kid_iff {h : Right d} {k : Nat} (hk : k < d.Nodes.length) {c : Int} : c ∈ idxs d.Nodes d.Nodes[k].Id ↔ ∃ j : Nat, ∃ hj : j < d.Nodes.length, c = j ∧ d.Nodes[j].Parent = d.Nodes[k].Id := by
  rw [idxs_mem]
  constructor
  · rintro ⟨⟨h1, h2⟩, h3⟩
    refine ⟨c.toNat, by omega, by omega, ?_⟩
    rw [show c = ((c.toNat : Nat) : Int) by omega, gx_nat (by omega)] at h3
    exact h3
  · rintro ⟨j, hj, rfl, h3⟩
    exact ⟨⟨by omega, by omega⟩, by rw [gx_nat hj]; exact h3⟩
/-- What is below a node is one of its kids, or below one. -/
theorem sub_step (h : Right d) {k j : Nat} (hk : k < d.Nodes.length) (hj : j < d.Nodes.length) :
    subB d.Nodes k j = (decide (j = k) || (idxs d.Nodes d.Nodes[k].Id).any (fun c => subB d.Nodes c.toNat j)) := by
  unfold subB
  congr 1
  rw [Bool.eq_iff_iff, List.any_eq_true, gx_nat hk, gx_nat hj, belB_iff]
  constructor
  · rintro ⟨q, h1, h2⟩
    have hmem := anc_mem h.parIn (List.getElem_mem hj) q (fun t ht => h1 t (by omega))
    obtain ⟨c, hc, he⟩ := List.mem_iff_getElem.1 hmem
    refine ⟨(c : Int), (kid_iff (h := h) hk).2 ⟨c, hc, rfl, by rw [he]; exact h2⟩, ?_⟩
    rw [show (c : Int).toNat = c by omega]
    cases q with
    | zero =>
      have e : d.Nodes[c] = d.Nodes[j] := he
      have : c = j := h.at_Id hc hj (by rw [e])
      simp [this]
    | succ q =>
      rw [Bool.or_eq_true]
      right
      rw [belB_iff, gx_nat hc]
      refine ⟨q, fun t ht => h1 t (by omega), ?_⟩
      have := (par_mem h.parIn (anc_mem h.parIn (List.getElem_mem hj) q (fun t ht => h1 t (by omega))) (h1 q (by omega))).2
      rw [← this]
      show (anc d.Nodes d.Nodes[j] (q + 1)).Id = _
      rw [← he]
  · rintro ⟨c, hc, hs⟩
    obtain ⟨t, ht, rfl, hp⟩ := (kid_iff (h := h) hk).1 hc
    have hkid : d.Nodes[k].Id ≠ Str.nil := h.hid (List.getElem_mem hk)
    rw [show (t : Int).toNat = t by omega, Bool.or_eq_true, decide_eq_true_eq, belB_iff] at hs
    rcases hs with rfl | ⟨q, h1, h2⟩
    · refine ⟨0, fun q hq => ?_, hp⟩
      have : q = 0 := by omega
      subst this
      show d.Nodes[j].Parent ≠ _
      rw [hp]; exact hkid
    · rw [gx_nat ht] at h2
      have e : anc d.Nodes d.Nodes[j] (q + 1) = d.Nodes[t] := par_at h.hd ht h2
      refine ⟨q + 1, fun r hr => ?_, by rw [e]; exact hp⟩
      rcases Nat.lt_or_eq_of_le hr with c | c
      · exact h1 r (by omega)
      · rw [c, e, hp]; exact hkid
/-- Marks. -/
def MK (n : Nat) (P : Nat → Bool) : List Bool := (List.range n).map P
end
end Go.DB
