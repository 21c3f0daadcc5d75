/-
  Diagrams that are changed: the law.
-/
import Derived.Test.YtclcheggnlhamaaGreatDoorChgPuChg1
import Derived.Test.YtclcheggnlhamaaGreatDoorChgPuChg3
import Derived.Test.YtclcheggnlhamaaGreatDoorChgPuPages
set_option linter.unusedSimpArgs false
set_option linter.unusedVariables false
namespace Go.DB
open Go Go.RowKit

theorem docIs_pair {r : Doc × Int} (h1 : r.2 ≠ 0 → r.1 = ⟨[], []⟩) (h2 : r.2 = 0 → (r.1.Nodes.length ≤ 100000 ∧ r.1.Edges.length ≤ 100000 ∧ ∀ x ∈ r.1.Edges, x.Bends.length ≤ 1000)) : law_docIs r.1 r.2 r.2 r.1 = some true := by
  by_cases e : r.2 = 0
  · obtain ⟨a, b, c⟩ := h2 e
    rw [e]
    exact docIs_ok (by omega) (by omega) (fun y hy => by have := c y hy; omega)
  · rw [h1 e]
    exact docIs_bad e _
theorem ChangesMatch_true (d : Doc) (ids : List Str) (id : Str) (back : Bool) (e0 : Str) (dx dy : Int) (hd : fits d) (hids : fits ids) (hid : fits id) (hend : short e0) : law_ChangesMatch d ids id back e0 dx dy = some true := by
  obtain ⟨e, c1, c2, hr⟩ := Check_both hd
  have hi : (ids.length : Int) ≤ 9223372036854775807 := by have : ids.length ≤ 9223372036854775807 := hids.1; omega
  have bad : ∀ (v : Option Page_view) (e : Int), e ≠ 0 → page_selected d ids = some (v, [], e) → law_selected d ids = some e → law_ChangesMatch d ids id back e0 dx dy = some true := fun v e he hs hl => by
    unfold law_ChangesMatch
    have q1 : page_Front d ids back = some (⟨[], []⟩, e) := by
      unfold page_Front
      rw [bnd_eq, hs, Option.bind_some, decide_eq_false he]; rfl
    have q2 : page_Group d ids id = some (⟨[], []⟩, e) := by
      unfold page_Group
      rw [bnd_eq, hs, Option.bind_some, decide_eq_false he]; rfl
    have q3 : page_Delete d ids = some (⟨[], []⟩, e) := by
      unfold page_Delete
      rw [bnd_eq, hs, Option.bind_some, decide_eq_false he]; rfl
    have q4 : page_Copy d ids e0 dx dy = some (⟨[], []⟩, e) := by
      unfold page_Copy
      rw [bnd_eq, hs, Option.bind_some, decide_eq_false he]; rfl
    rw [hl, Option.bind_some, q1, Option.bind_some, q2, Option.bind_some, q3, Option.bind_some, q4, Option.bind_some, pages_eq, Option.bind_some, decide_eq_false he]
    simp only [Bool.not_true, Bool.not_false, Bool.or_true, cond_true, gd_true, Option.bind_some, docIs_bad he, Bool.and_self]
  have hsel : law_selected d ids = (bif !decide (e = 0) then some e else ref_SelectionError d ids) := by
    unfold law_selected
    rw [c2, Option.bind_some]
    by_cases he : e = 0
    · rw [decide_eq_true he]
      simp only [Bool.not_true, cond_false]
      cases ref_SelectionError d ids <;> rfl
    · rw [decide_eq_false he]; rfl
  by_cases he : e = 0
  case neg => exact bad none e he (selected_bad c1 he ids) (by rw [hsel, decide_eq_false he]; rfl)
  subst he
  have h := hr rfl
  have hnl := h.nl
  have hel := h.el
  have hsel' : law_selected d ids = some (selErr d.Nodes ids) := by rw [hsel]; simp only [decide_true, Bool.not_true, cond_false]; exact SelectionError_eq h.nl hi
  by_cases hs : selErr d.Nodes ids = 0
  case neg => exact bad none _ hs (by rw [selected_eq c1 h hi, if_neg hs]) hsel'
  have hb : ∀ x ∈ d.Edges, x.Bends.length ≤ 1000 := fun x hx => by have := h.bends hx; omega
  -- in front
  have t1 : law_docIs (frontD d ids back (fun i => decide ((i : Int) ∈ rootL d.Nodes ids))) 0 0 (frontD d ids back (fun i => decide ((i : Int) ∈ rootL d.Nodes ids))) = some true := by
    refine docIs_pair (r := (_, 0)) (fun c => absurd rfl c) (fun _ => ⟨?_, ?_, ?_⟩)
    · have hl := partF_len d.Nodes (fun i => decide ((i : Int) ∈ rootL d.Nodes ids)) d.Nodes.length
      cases back
      · show ((partF d.Nodes (fun i => decide ((i : Int) ∈ rootL d.Nodes ids)) d.Nodes.length).2 ++ (partF d.Nodes (fun i => decide ((i : Int) ∈ rootL d.Nodes ids)) d.Nodes.length).1).length ≤ _
        rw [List.length_append]; omega
      · show ((partF d.Nodes (fun i => decide ((i : Int) ∈ rootL d.Nodes ids)) d.Nodes.length).1 ++ (partF d.Nodes (fun i => decide ((i : Int) ∈ rootL d.Nodes ids)) d.Nodes.length).2).length ≤ _
        rw [List.length_append]; omega
    · show d.Edges.length ≤ _
      omega
    · exact hb
  -- a group
  obtain ⟨g, g1, g2, g3⟩ : ∃ g : Doc × Int, page_Group d ids id = some g ∧ ref_GroupOf d ids id = some g ∧ law_docIs g.1 g.2 g.2 g.1 = some true := by
    rw [Group_eq c1 h hi hs id, GroupOf_eq h hi hid]
    by_cases hR : rootL d.Nodes ids = []
    · rw [if_pos hR, if_pos hR]; exact ⟨_, rfl, rfl, docIs_bad (by decide) _⟩
    rw [if_neg hR, if_neg hR]
    cases (rootL d.Nodes ids).any (fun k => !decide ((gx d.Nodes k).Parent = parR d (rootL d.Nodes ids))) with
    | true => simp only [if_true]; exact ⟨_, rfl, rfl, docIs_bad (by decide) _⟩
    | false =>
    simp only [Bool.false_eq_true, Bool.true_eq_false, if_false]
    cases nameB id with
    | false => simp only [if_true]; exact ⟨_, rfl, rfl, docIs_bad (by decide) _⟩
    | true =>
    simp only [Bool.false_eq_true, Bool.true_eq_false, if_false]
    cases hasId d id with
    | true => simp only [if_true]; exact ⟨_, rfl, rfl, docIs_bad (by decide) _⟩
    | false =>
    simp only [Bool.false_eq_true, Bool.true_eq_false, if_false]
    have hfp : fits (parR d (rootL d.Nodes ids)) := by
      have hp := List.length_pos_iff.2 hR
      obtain ⟨j0, hj0, e0', _⟩ := rootL_mem (gx_mem (l := rootL d.Nodes ids) (k := 0) ⟨by omega, by omega⟩)
      unfold parR
      rw [e0']
      exact (hd.1.2 _ (gx_mem (l := d.Nodes) (k := (j0 : Int)) ⟨by omega, by omega⟩)).2.2.2.2.2.1
    obtain ⟨w, w1, w2, w3⟩ := Check_both (fits_grp hd h hid hfp (R := rootL d.Nodes ids) (k := lastR (rootL d.Nodes ids)))
    rw [w1, w2, Option.bind_some]
    refine ⟨_, rfl, rfl, ?_⟩
    by_cases hw : w = 0
    · rw [if_pos hw]
      have hg := w3 hw
      have a1 := hg.nl
      have a2 := hg.el
      exact docIs_ok (Int.le_trans (Int.ofNat_le.2 a1) (by decide)) (Int.le_trans (Int.ofNat_le.2 a2) (by decide)) (fun y hy => Int.le_trans (Int.ofNat_le.2 (hg.bends hy)) (by decide))
    · rw [if_neg hw]; exact docIs_bad hw _
  -- what is deleted
  obtain ⟨g', k1, k2, k3⟩ : ∃ g : Doc × Int, page_Delete d ids = some g ∧ ref_DeleteOf d ids = some g ∧ law_docIs g.1 g.2 g.2 g.1 = some true := by
    obtain ⟨S, s1, s2, s3, s4⟩ := Delete_eq c1 h hi hs
    obtain ⟨S', r1, r2, r3, r4⟩ := DeleteOf_eq h hi
    have hSS : ∀ i : Nat, i < d.Nodes.length → S i = S' i := fun i hi' => gone_uniq s1 s2 s3 r1 r2 r3 hi'
    rw [s4, r4, leftN_congr hSS, leftE_congr h hSS]
    cases lockT d (fun j => tchB d.Nodes ids (gx d.Nodes (j : Int))) with
    | true => rw [if_pos rfl]; exact ⟨_, rfl, rfl, docIs_bad (by decide) _⟩
    | false =>
      rw [if_neg (by simp)]
      refine ⟨_, rfl, rfl, docIs_pair (r := (_, 0)) (fun c => absurd rfl c) (fun _ => ⟨?_, ?_, ?_⟩)⟩
      · show (leftN d S').length ≤ _
        rw [leftN_len]
        have := cnt_bd d.Nodes.length S'
        omega
      · show (leftE d S').length ≤ _
        unfold leftE
        have := List.length_filter_le (fun x : DEdge => !(S' (nodeAt d.Nodes x.From.Node).toNat || S' (nodeAt d.Nodes x.To.Node).toNat)) d.Edges
        omega
      · intro x hx
        exact hb x (List.mem_filter.1 (show x ∈ leftE d S' from hx)).1
  -- what is copied
  obtain ⟨g'', m1, m2, m3⟩ : ∃ g : Doc × Int, page_Copy d ids e0 dx dy = some g ∧ ref_CopyOf d ids e0 dx dy = some g ∧ law_docIs g.1 g.2 g.2 g.1 = some true := by
    rw [Copy_eq hd c1 h hi hs hend dx dy, CopyOf_eq h hi hend dx dy]
    by_cases hst : (-2000000 ≤ dx ∧ dx ≤ 2000000) ∧ -2000000 ≤ dy ∧ dy ≤ 2000000
    case neg => rw [if_neg hst, if_neg hst]; exact ⟨_, rfl, rfl, docIs_bad (by decide) _⟩
    rw [if_pos hst, if_pos hst]
    obtain ⟨w, w1, w2, w3⟩ := Check_both (fits_cpD hd h (P := fun j => tchB d.Nodes ids (gx d.Nodes (j : Int))) hend (dx := dx) (dy := dy))
    rw [w1, w2, Option.bind_some]
    refine ⟨_, rfl, rfl, ?_⟩
    by_cases hw : w = 0
    · rw [if_pos hw]
      have hg := w3 hw
      have a1 := hg.nl
      have a2 := hg.el
      exact docIs_ok (Int.le_trans (Int.ofNat_le.2 a1) (by decide)) (Int.le_trans (Int.ofNat_le.2 a2) (by decide)) (fun y hy => Int.le_trans (Int.ofNat_le.2 (hg.bends hy)) (by decide))
    · rw [if_neg hw]; exact docIs_bad hw _
  unfold law_ChangesMatch
  rw [hsel', hs, Option.bind_some, Front_eq c1 h hi hs back, Option.bind_some, g1, Option.bind_some, k1, Option.bind_some, m1, Option.bind_some, pages_eq, Option.bind_some]
  simp only [decide_true, Bool.not_true, Bool.or_self, cond_false]
  rw [g2, Option.bind_some, k2, Option.bind_some, m2, Option.bind_some, FrontOf_eq h hi back, Option.bind_some]
  simp only [t1, g3, k3, m3, gd_true, Option.bind_some, Bool.and_self]
end Go.DB
