/-
  Moves of roots: the program and the document agree, errors and all; hulls have what they are hulls of.
-/
import Derived.Test.YtclcheggnlhamaaGreatDoorMGBPuMove3
set_option linter.unusedSimpArgs false
set_option linter.unusedVariables false
namespace Go.DB
open Go Go.RowKit

/-! What stays in its range. -/
theorem fits_mvN {dx dy : Int} {n : DNode} (h : fits n) : fits (mvN dx dy n) := by
  obtain ⟨h1, h2, ⟨b1, b2, b3, b4⟩, h4, h5, h6, h7⟩ := h
  unfold mvN
  split
  · exact ⟨h1, h2, ⟨b1, b2, b3, b4⟩, h4, h5, h6, h7⟩
  · exact ⟨h1, h2, ⟨W_in _, W_in _, b3, b4⟩, h4, h5, h6, h7⟩
theorem fits_mvE {dx dy : Int} {x : DEdge} (h : fits x) : fits (mvE dx dy x) := by
  obtain ⟨h1, h2, h3, ⟨h4, h5⟩, h6, h7⟩ := h
  refine ⟨h1, h2, h3, ⟨by show (x.Bends.map _).length ≤ _; simpa using h4, fun p hp => ?_⟩, h6, h7⟩
  obtain ⟨q, hq, rfl⟩ := List.mem_map.1 (show p ∈ x.Bends.map (mvP dx dy) from hp)
  exact ⟨W_in _, W_in _⟩
theorem fits_docM {d : Doc} (h : fits d) (R : List Int) (f : Int → Int × Int) : fits (docM d R f) := by
  obtain ⟨⟨h1, h2⟩, h3, h4⟩ := h
  refine ⟨⟨by show ((List.range d.Nodes.length).map _).length ≤ _; simpa using h1, fun n hn => ?_⟩, by show (d.Edges.map _).length ≤ _; simpa using h3, fun x hx => ?_⟩
  · obtain ⟨j, hj, rfl⟩ := List.mem_map.1 (show n ∈ (List.range d.Nodes.length).map _ from hn)
    have hf := h2 _ (gx_mem (l := d.Nodes) (k := (j : Int)) ⟨by omega, by have : j < d.Nodes.length := by simpa using hj
                                                                          omega⟩)
    unfold mvR
    cases rootOf d R j with
    | none => exact hf
    | some k => exact fits_mvN hf
  · obtain ⟨y, hy, rfl⟩ := List.mem_map.1 (show x ∈ d.Edges.map _ from hx)
    unfold mvRE
    cases rootOfE d R y with
    | none => exact h4 y hy
    | some k => exact fits_mvE (h4 y hy)
theorem fits_docA {d : Doc} (h : fits d) (ids : List Str) (dx dy : Int) : fits (docA d ids dx dy) := by
  obtain ⟨⟨h1, h2⟩, h3, h4⟩ := h
  refine ⟨⟨by show ((List.range d.Nodes.length).map _).length ≤ _; simpa using h1, fun n hn => ?_⟩, by show (d.Edges.map _).length ≤ _; simpa using h3, fun x hx => ?_⟩
  · obtain ⟨j, hj, rfl⟩ := List.mem_map.1 (show n ∈ (List.range d.Nodes.length).map _ from hn)
    have hf := h2 _ (gx_mem (l := d.Nodes) (k := (j : Int)) ⟨by omega, by have : j < d.Nodes.length := by simpa using hj
                                                                          omega⟩)
    split
    · exact fits_mvN hf
    · exact hf
  · obtain ⟨y, hy, rfl⟩ := List.mem_map.1 (show x ∈ d.Edges.map _ from hx)
    split
    · exact fits_mvE (h4 y hy)
    · exact h4 y hy
/-! Something under a root that is no group. -/
/-! What is wrong with a node that is moved. -/
theorem mvN_same {dx dy : Int} {n : DNode} : (mvN dx dy n).Id = n.Id ∧ (mvN dx dy n).Kind = n.Kind ∧ (mvN dx dy n).Text = n.Text ∧ (mvN dx dy n).Class = n.Class ∧ (mvN dx dy n).Parent = n.Parent ∧ (mvN dx dy n).Locked = n.Locked := by
  unfold mvN; split <;> exact ⟨rfl, rfl, rfl, rfl, rfl, rfl⟩
theorem mvR_same {f : Int → Int × Int} {o : Option Int} {n : DNode} : (mvR f o n).Id = n.Id ∧ (mvR f o n).Kind = n.Kind ∧ (mvR f o n).Text = n.Text ∧ (mvR f o n).Class = n.Class ∧ (mvR f o n).Parent = n.Parent ∧ (mvR f o n).Locked = n.Locked := by
  unfold mvR; split
  · exact mvN_same
  · exact ⟨rfl, rfl, rfl, rfl, rfl, rfl⟩
theorem docM_len {d : Doc} {R : List Int} {f : Int → Int × Int} : (docM d R f).Nodes.length = d.Nodes.length ∧ (docM d R f).Edges.length = d.Edges.length := by simp [docM]
theorem docM_at {d : Doc} {R : List Int} {f : Int → Int × Int} {j : Nat} (hj : j < d.Nodes.length) : (docM d R f).Nodes[j]'(by rw [docM_len.1]; exact hj) = mvR f (rootOf d R j) d.Nodes[j] := by
  simp only [docM, List.getElem_map, List.getElem_range, gx_nat hj]
theorem rootOf_some {d : Doc} {R : List Int} (hA : ApartR d R) {j : Nat} (hj : j < d.Nodes.length) {k : Int} (hk : k ∈ R) (hs : subB d.Nodes k.toNat j = true) : rootOf d R j = some k := by
  unfold rootOf
  cases h : R.find? (fun k => subB d.Nodes k.toNat j) with
  | none => exact absurd hs (by simpa using List.find?_eq_none.1 h k hk)
  | some k' => rw [hA.one k' (List.mem_of_find?_eq_some h) k hk j hj (by have := List.find?_some h; simpa using this) hs]
theorem lock_steps {d : Doc} {R : List Int} (hA : ApartR d R) {f : Int → Int × Int} : (stepsR R f).any (lockS d) = (List.range d.Nodes.length).any fun j => lockR d R f j := by
  unfold stepsR
  rw [Bool.eq_iff_iff, List.any_map, List.any_eq_true, List.any_eq_true]
  constructor
  · rintro ⟨k, hk, hl⟩
    have hl' : lockS d ⟨[k], (f k).1, (f k).2⟩ = true := hl
    unfold lockS at hl'
    rw [Bool.and_eq_true, List.any_eq_true] at hl'
    obtain ⟨hz, j, hj, hs⟩ := hl'
    rw [Bool.and_eq_true] at hs
    have hj' : j < d.Nodes.length := by simpa using hj
    have hsub : subB d.Nodes k.toNat j = true := by have := hs.1; simpa [stepP] using this
    refine ⟨j, hj, ?_⟩
    unfold lockR
    rw [rootOf_some hA hj' hk hsub]
    simp only
    rw [hs.2, Bool.true_and]
    have : decide (f k = (0, 0)) = (decide ((f k).1 = 0) && decide ((f k).2 = 0)) := by
      rw [Bool.eq_iff_iff, decide_eq_true_eq, Bool.and_eq_true, decide_eq_true_eq, decide_eq_true_eq, Prod.ext_iff]
    rw [this]
    exact hz
  · rintro ⟨j, hj, hl⟩
    have hj' : j < d.Nodes.length := by simpa using hj
    unfold lockR at hl
    cases hr : rootOf d R j with
    | none => rw [hr] at hl; cases hl
    | some k =>
      rw [hr] at hl
      obtain ⟨hk, hs⟩ := rootOf_mem hr
      simp only [Bool.and_eq_true] at hl
      refine ⟨k, hk, ?_⟩
      show lockS d ⟨[k], (f k).1, (f k).2⟩ = true
      unfold lockS
      rw [Bool.and_eq_true, List.any_eq_true]
      refine ⟨?_, j, hj, ?_⟩
      · have : decide (f k = (0, 0)) = (decide ((f k).1 = 0) && decide ((f k).2 = 0)) := by
          rw [Bool.eq_iff_iff, decide_eq_true_eq, Bool.and_eq_true, decide_eq_true_eq, decide_eq_true_eq, Prod.ext_iff]
        rw [← this]; exact hl.2
      · rw [Bool.and_eq_true]
        exact ⟨by simpa [stepP] using hs, hl.1⟩
/-- What a move of roots comes to in the program. -/
theorem by_prog {d : Doc} (hf : fits d) (h : Right d) {R : List Int} (hA : ApartR d R) (hR : R.length ≤ 1000) (f : Int → Int × Int) :
    ∃ r : Doc × Int, page_view_moved (viewD d) (stepsR R f) = some r ∧ (r.2 = 0 → r.1 = docM d R f ∧ Right (docM d R f) ∧ page_Check (docM d R f) = some 0) ∧ (r.2 ≠ 0 → r.1 = ⟨[], []⟩) ∧
      (((List.range d.Nodes.length).any (fun j => lockR d R f j) = true ∧ r.2 = 12) ∨ ((List.range d.Nodes.length).any (fun j => lockR d R f j) = false ∧ (stepsR R f).any farS = true ∧ r.2 = 3) ∨
        ((List.range d.Nodes.length).any (fun j => lockR d R f j) = false ∧ (stepsR R f).any farS = false ∧ ref_DocError (docM d R f) = some r.2)) := by
  rw [moved_eq h (fun st hst => by
    obtain ⟨k, hk, rfl⟩ := List.mem_map.1 hst
    exact ⟨by simp, fun a ha => by rw [List.mem_singleton.1 ha]; exact hA.isIn k hk⟩) (by simpa [stepsR] using hR), lock_steps hA, fold_docM h f R hA]
  obtain ⟨e, c1, c2, c3⟩ := Check_both (fits_docM hf R f)
  cases hl : (List.range d.Nodes.length).any fun j => lockR d R f j with
  | true => exact ⟨(⟨[], []⟩, 12), rfl, (fun h => by cases h), fun _ => rfl, .inl ⟨rfl, rfl⟩⟩
  | false =>
    simp only [Bool.false_eq_true, if_false]
    cases hfr : (stepsR R f).any farS with
    | true => exact ⟨(⟨[], []⟩, 3), rfl, (fun h => by cases h), fun _ => rfl, .inr (.inl ⟨by trivial, by trivial, rfl⟩)⟩
    | false =>
      rw [if_neg (by simp), c1, Option.bind_some]
      refine ⟨if e = 0 then (docM d R f, 0) else (⟨[], []⟩, e), rfl, fun h => ?_, fun h => ?_, .inr (.inr ⟨by trivial, by trivial, ?_⟩)⟩
      · by_cases he : e = 0
        · rw [if_pos he]; exact ⟨rfl, c3 he, by rw [he]⟩
        · rw [if_neg he] at h; exact (he h).elim
      · by_cases he : e = 0
        · rw [if_pos he] at h; exact (h rfl).elim
        · rw [if_neg he]
      · rw [c2]
        by_cases he : e = 0
        · rw [if_pos he, he]
        · rw [if_neg he]
end Go.DB
