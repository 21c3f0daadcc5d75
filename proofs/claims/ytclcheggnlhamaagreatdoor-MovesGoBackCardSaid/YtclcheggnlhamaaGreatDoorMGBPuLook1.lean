/-
  Right diagrams, in plain words: what is below what, the order of drawing.
-/
import Derived.Test.YtclcheggnlhamaaGreatDoorMGBPuDoc4
set_option linter.unusedSimpArgs false
set_option linter.unusedVariables false
namespace Go.DB
open Go Go.RowKit

section
variable {d : Doc}
theorem Right.hd (h : Right d) : (d.Nodes.map (·.Id)).Nodup := nodup_of_tw fun i hi => of_decide_eq_false (nodeErr_zero (h.node i hi)).2.1
theorem Right.at (h : Right d) {n : DNode} (hn : n ∈ d.Nodes) : nameB n.Id = true ∧ (1 ≤ n.Kind ∧ n.Kind ≤ 6) ∧ (n.Kind ≠ 6 → okB n.Box) := by
  obtain ⟨i, hi, rfl⟩ := List.mem_iff_getElem.1 hn
  have := nodeErr_zero (h.node i hi)
  exact ⟨this.1, this.2.2.1, this.2.2.2⟩
theorem Right.hid (h : Right d) {n : DNode} (hn : n ∈ d.Nodes) : n.Id ≠ Str.nil := nameB_ne (h.at hn).1
theorem Right.parIn (h : Right d) : ParIn d.Nodes := fun n hn hne => by
  obtain ⟨g, h1, h2, _⟩ := h.tree n hn hne
  exact ⟨g, h1, h2⟩
theorem Right.at_Id (h : Right d) {i j : Nat} (hi : i < d.Nodes.length) (hj : j < d.Nodes.length) (e : d.Nodes[i].Id = d.Nodes[j].Id) : i = j := by
  have h1 := nodeAt_of h.hd hi
  have h2 := nodeAt_of h.hd hj
  rw [e] at h1
  omega
theorem Right.viewOf (h : Right d) : page_viewOf d = some (some (viewD d)) := viewOf_eq h.nl h.hd

/-- A node is below what has the Id g. -/
def Bel (l : List DNode) (n : DNode) (g : Str) : Prop := ∃ k, (∀ j, j ≤ k → (anc l n j).Parent ≠ Str.nil) ∧ (anc l n k).Parent = g

open Classical in
noncomputable def belB (l : List DNode) (n : DNode) (g : Str) : Bool := decide (Bel l n g)
theorem belB_iff {l : List DNode} {n : DNode} {g : Str} : belB l n g = true ↔ Bel l n g := by unfold belB; simp
end
theorem IsBelow_eq {d : Doc} (h : Right d) {i : Nat} (hi : i < d.Nodes.length) (g : Str) : ref_IsBelow d d.Nodes[i].Id g = some (belB d.Nodes d.Nodes[i] g) := by
  have hll : (d.Nodes.length : Int) ≤ 9223372036854775807 := by have := h.nl; omega
  have hn := List.getElem_mem hi
  unfold ref_IsBelow
  rw [NodeAt_eq hll, nodeAt_of h.hd hi, Option.bind_some, need_of ⟨by omega, by omega⟩, gx_nat hi, bnd_eq]
  obtain ⟨m, _, hm⟩ := h.deep _ hn
  have step : ∀ k, (∀ j, j ≤ k → (anc d.Nodes d.Nodes[i] j).Parent ≠ Str.nil) → (anc d.Nodes d.Nodes[i] k).Parent ≠ g → ref_IsBelow_L1 d g (anc d.Nodes d.Nodes[i] k).Parent = some (.again (anc d.Nodes d.Nodes[i] (k + 1)).Parent) := fun k hk hg => by
    have hmem := anc_mem h.parIn hn k (fun j hj => hk j (by omega))
    have hex := h.parIn _ hmem (hk k (Nat.le_refl _))
    unfold ref_IsBelow_L1
    rw [decide_eq_false (hk k (Nat.le_refl _)), decide_eq_false hg, NodeAt_eq hll]
    simp only [Bool.not_false, cond_true, cond_false, Option.bind_some, bnd_eq]
    rw [need_of (nodeAt_pos hex).1]
    rfl
  by_cases hb : Bel d.Nodes d.Nodes[i] g
  · obtain ⟨k, hk1, hk2⟩ := id hb
    obtain ⟨e, h1, h2⟩ := loop_nat (body := ref_IsBelow_L1 d g) (fun k => (anc d.Nodes d.Nodes[i] k).Parent) (fun e => e = Res.ab true) 0 k (by omega) (fun j _ hj => by
      by_cases hg : (anc d.Nodes d.Nodes[i] j).Parent = g
      · right
        refine ⟨_, ?_, rfl⟩
        unfold ref_IsBelow_L1
        rw [decide_eq_false (hk1 j (by omega)), decide_eq_true hg]; rfl
      · exact .inl (step j (fun q hq => hk1 q (by omega)) hg)) ⟨_, by
        unfold ref_IsBelow_L1
        rw [decide_eq_false (hk1 k (Nat.le_refl _)), decide_eq_true hk2]; rfl, rfl⟩
    rw [show d.Nodes[i].Parent = (anc d.Nodes d.Nodes[i] 0).Parent from rfl, h1, h2, belB_iff.2 hb]
    rfl
  · obtain ⟨e, h1, h2⟩ := loop_nat (body := ref_IsBelow_L1 d g) (fun k => (anc d.Nodes d.Nodes[i] k).Parent) (fun e => e = Res.nx ()) 0 m (by omega) (fun j _ hj => by
      have hk : ∀ q, q ≤ j → (anc d.Nodes d.Nodes[i] q).Parent ≠ Str.nil := fun q hq => hm.2 q (by omega)
      exact .inl (step j hk (fun hg => hb ⟨j, hk, hg⟩))) ⟨_, by
        unfold ref_IsBelow_L1
        rw [decide_eq_true hm.1]; rfl, rfl⟩
    have : belB d.Nodes d.Nodes[i] g = false := by
      cases q : belB d.Nodes d.Nodes[i] g with
      | false => rfl
      | true => exact absurd (belB_iff.1 q) hb
    rw [show d.Nodes[i].Parent = (anc d.Nodes d.Nodes[i] 0).Parent from rfl, h1, h2, this]
    rfl
section
variable {d : Doc}
theorem Dp.anc {l : List DNode} {n : DNode} {m k : Nat} (h : Dp l n m) (hk : k ≤ m) : Dp l (anc l n k) (m - k) := by
  refine ⟨by rw [← anc_add, show k + (m - k) = m by omega]; exact h.1, fun j hj => by rw [← anc_add]; exact h.2 _ (by omega)⟩
/-- j is k or below it. -/
noncomputable def subB (l : List DNode) (k j : Nat) : Bool := decide (j = k) || belB l (gx l (j : Int)) (gx l (k : Int)).Id
theorem kid_iff {h : Right d} {k : Nat} (hk : k < d.Nodes.length) {c : Int} : c ∈ idxs d.Nodes d.Nodes[k].Id ↔ ∃ j : Nat, ∃ hj : j < d.Nodes.length, c = j ∧ d.Nodes[j].Parent = d.Nodes[k].Id := by
  rw [idxs_mem]
  constructor
  · rintro ⟨⟨h1, h2⟩, h3⟩
    refine ⟨c.toNat, by omega, by omega, ?_⟩
    rw [show c = ((c.toNat : Nat) : Int) by omega, gx_nat (by omega)] at h3
    exact h3
  · rintro ⟨j, hj, rfl, h3⟩
    exact ⟨⟨by omega, by omega⟩, by rw [gx_nat hj]; exact h3⟩
/-- What is below a node is one of its kids, or below one. -/
theorem sub_step (h : Right d) {k j : Nat} (hk : k < d.Nodes.length) (hj : j < d.Nodes.length) :
    subB d.Nodes k j = (decide (j = k) || (idxs d.Nodes d.Nodes[k].Id).any (fun c => subB d.Nodes c.toNat j)) := by
  unfold subB
  congr 1
  rw [Bool.eq_iff_iff, List.any_eq_true, gx_nat hk, gx_nat hj, belB_iff]
  constructor
  · rintro ⟨q, h1, h2⟩
    have hmem := anc_mem h.parIn (List.getElem_mem hj) q (fun t ht => h1 t (by omega))
    obtain ⟨c, hc, he⟩ := List.mem_iff_getElem.1 hmem
    refine ⟨(c : Int), (kid_iff (h := h) hk).2 ⟨c, hc, rfl, by rw [he]; exact h2⟩, ?_⟩
    rw [show (c : Int).toNat = c by omega]
    cases q with
    | zero =>
      have e : d.Nodes[c] = d.Nodes[j] := he
      have : c = j := h.at_Id hc hj (by rw [e])
      simp [this]
    | succ q =>
      rw [Bool.or_eq_true]
      right
      rw [belB_iff, gx_nat hc]
      refine ⟨q, fun t ht => h1 t (by omega), ?_⟩
      have := (par_mem h.parIn (anc_mem h.parIn (List.getElem_mem hj) q (fun t ht => h1 t (by omega))) (h1 q (by omega))).2
      rw [← this]
      show (anc d.Nodes d.Nodes[j] (q + 1)).Id = _
      rw [← he]
  · rintro ⟨c, hc, hs⟩
    obtain ⟨t, ht, rfl, hp⟩ := (kid_iff (h := h) hk).1 hc
    have hkid : d.Nodes[k].Id ≠ Str.nil := h.hid (List.getElem_mem hk)
    rw [show (t : Int).toNat = t by omega, Bool.or_eq_true, decide_eq_true_eq, belB_iff] at hs
    rcases hs with rfl | ⟨q, h1, h2⟩
    · refine ⟨0, fun q hq => ?_, hp⟩
      have : q = 0 := by omega
      subst this
      show d.Nodes[j].Parent ≠ _
      rw [hp]; exact hkid
    · rw [gx_nat ht] at h2
      have e : anc d.Nodes d.Nodes[j] (q + 1) = d.Nodes[t] := par_at h.hd ht h2
      refine ⟨q + 1, fun r hr => ?_, by rw [e]; exact hp⟩
      rcases Nat.lt_or_eq_of_le hr with c | c
      · exact h1 r (by omega)
      · rw [c, e, hp]; exact hkid
/-- Marks. -/
def MK (n : Nat) (P : Nat → Bool) : List Bool := (List.range n).map P
theorem MK_len {n : Nat} {P : Nat → Bool} : (MK n P).length = n := by simp [MK]
theorem MK_congr {n : Nat} {P Q : Nat → Bool} (h : ∀ j, j < n → P j = Q j) : MK n P = MK n Q := List.map_congr_left fun j hj => h j (by simpa using hj)
theorem MK_at {n : Nat} {P : Nat → Bool} {j : Nat} (hj : j < n) : gx (MK n P) (j : Int) = P j := by
  rw [gx_nat (by simpa [MK] using hj)]; simp [MK]
theorem MK_set {n : Nat} {P : Nat → Bool} {k : Nat} (v : Bool) : (MK n P).set k v = MK n (fun j => if j = k then v else P j) := by
  unfold MK
  apply List.ext_getElem
  · simp
  · intro i h1 h2
    rw [List.getElem_set]
    simp only [List.getElem_map, List.getElem_range]
    by_cases h : k = i
    · simp [h]
    · have : ¬ i = k := fun e => h e.symm
      simp [h, this]
theorem below_eq (h : Right d) {k : Nat} (hk : k < d.Nodes.length) (P : Nat → Bool) : page_view_below (viewD d) (k : Int) (MK d.Nodes.length P) = some (MK d.Nodes.length (fun j => P j || subB d.Nodes k j)) := by
  have hv : (viewD d).d.Nodes = d.Nodes := rfl
  have hvm : (viewD d).members = memM d.Nodes := rfl
  have key : ∀ (f m k : Nat) (hk : k < d.Nodes.length), Dp d.Nodes d.Nodes[k] m → 9 ≤ m + f → ∀ (P : Nat → Bool) N, f ≤ N → fixN page_view_below_body N (viewD d, (k : Int), MK d.Nodes.length P) = some (MK d.Nodes.length (fun j => P j || subB d.Nodes k j)) := by
    intro f
    induction f with
    | zero =>
      intro m k hk hm hf
      obtain ⟨q, hq, hq2⟩ := h.deep _ (List.getElem_mem hk)
      have := hm.uni hq2
      omega
    | succ f ih =>
      intro m k hk hm hf P N hN
      obtain ⟨N, rfl⟩ : ∃ q, N = q + 1 := ⟨N - 1, by omega⟩
      show page_view_below_body (fixN page_view_below_body N) _ = _
      have ih' := fun m k hk hm hf P => ih m k hk hm hf P N (by omega)
      generalize fixN page_view_below_body N = slf at ih' ⊢
      have hin : inR d.Nodes (k : Int) := ⟨by omega, by omega⟩
      unfold page_view_below_body
      simp only [bnd_eq]
      rw [need_of ⟨by omega, by rw [MK_len]; omega⟩, hv, hvm, need_of hin, gx_nat hk, memM_getD (h.hid (List.getElem_mem hk)), show (k : Int).toNat = k by omega, MK_set]
      generalize hks : idxs d.Nodes d.Nodes[k].Id = ks
      have hkl : (ks.length : Int) ≤ 9223372036854775807 := by
        rw [← hks]; unfold idxs
        rw [List.length_map]
        have := List.length_filter_le (fun (i : Nat) => decide ((gx d.Nodes (i : Int)).Parent = d.Nodes[k].Id)) (List.range d.Nodes.length)
        have := h.nl
        simp at *
        omega
      obtain ⟨s, h1, h2⟩ := rfor_inv (n := (ks.length : Int)) (step := page_view_below_L1 slf (viewD d, (k : Int), MK d.Nodes.length P) ks) (s0 := MK d.Nodes.length (fun j => if j = k then true else P j))
        (fun t s => s = MK d.Nodes.length (fun j => (if j = k then true else P j) || (ks.take t).any (fun c => subB d.Nodes c.toNat j))) hkl (by simp) (fun t s ht hI => by
          subst hI
          have ht' : t < ks.length := by omega
          unfold page_view_below_L1
          rw [need_of ⟨by omega, by omega⟩, gx_nat ht']
          have hmem : ks[t] ∈ idxs d.Nodes d.Nodes[k].Id := by rw [hks]; exact List.getElem_mem ht'
          obtain ⟨c, hc, hce, hcp⟩ := (kid_iff (h := h) hk).1 hmem
          have hpe := par_at h.hd hk hcp
          rw [hce, ih' (m + 1) c hc (Dp.kid (by rw [hcp]; exact h.hid (List.getElem_mem hk)) (by rw [hpe]; exact hm)) (by omega) _, Option.bind_some]
          refine ⟨_, rfl, MK_congr fun j hj => ?_⟩
          rw [List.take_succ_eq_append_getElem ht', List.any_append, hce]
          simp [Bool.or_assoc])
      rw [h1, h2]
      have : (ks.length : Int).toNat = ks.length := by omega
      rw [this, List.take_length, Option.bind_some]
      congr 1
      refine MK_congr fun j hj => ?_
      rw [sub_step h hk hj, hks]
      by_cases e : j = k <;> simp [e]
  obtain ⟨m, hm, hm2⟩ := h.deep _ (List.getElem_mem hk)
  exact fixp_of 9 (fun N hN => key 9 m k hk hm2 (by omega) P N hN)
end
end Go.DB
