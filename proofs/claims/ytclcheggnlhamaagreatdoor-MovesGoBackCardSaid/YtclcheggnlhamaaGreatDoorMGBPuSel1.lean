/-
  Right diagrams, in plain words: selections, their roots, and what they touch.
-/
import Derived.Test.YtclcheggnlhamaaGreatDoorMGBPuLook1
set_option linter.unusedSimpArgs false
set_option linter.unusedVariables false
namespace Go.DB
open Go Go.RowKit

theorem slook_ok {d : Doc} (hc : page_Check d = some 0) (h : Right d) : page_look d = some (some (viewD d), 0) := by
  unfold page_look
  rw [hc, Option.bind_some, h.viewOf]; rfl
theorem nodeAt_natS {l : List DNode} {id : Str} (h : ¬ nodeAt l id < 0) : ∃ i : Nat, ∃ hi : i < l.length, nodeAt l id = i ∧ l[i].Id = id := by
  obtain ⟨⟨h1, h2⟩, h3⟩ := nodeAt_in h
  refine ⟨(nodeAt l id).toNat, by omega, by omega, ?_⟩
  rw [show nodeAt l id = (((nodeAt l id).toNat : Nat) : Int) by omega, gx_nat (by omega)] at h3
  exact h3
theorem range_gxS {α : Type} [Inhabited α] (l : List α) : (List.range l.length).map (fun (i : Nat) => gx l (i : Int)) = l := by
  apply List.ext_getElem
  · simp
  · intro i h1 h2
    simp [gx_nat h2]
theorem Index_string_eq (s : List Str) (v : Str) (hl : (s.length : Int) ≤ 9223372036854775807) : slices_Index_string s v = some (match s.findIdx? (fun x => decide (v = x)) with | some i => (i : Int) | none => -1) := by
  unfold slices_Index_string
  rw [rforE_index (fun x => decide (v = x)) hl (fun i h => by unfold slices_Index_string_L1; rw [need_of ⟨by omega, by omega⟩, gx_nat h]; cases decide (v = s[i]) <;> rfl)]
  cases s.findIdx? (fun x => decide (v = x)) <;> rfl
theorem Contains_string_eq (s : List Str) (v : Str) (hl : (s.length : Int) ≤ 9223372036854775807) : slices_Contains_string s v = some (decide (v ∈ s)) := by
  unfold slices_Contains_string
  rw [Index_string_eq s v hl, Option.bind_some]
  have : decide (v ∈ s) = s.any (fun x => decide (v = x)) := by
    rw [Bool.eq_iff_iff, List.any_eq_true, decide_eq_true_eq]
    simp
  rw [this]
  exact congrArg some idx_any
theorem IndexFunc_string_eq (s : List Str) (f : Str → Option Bool) (p : Str → Bool) (hl : (s.length : Int) ≤ 9223372036854775807) (hf : ∀ x ∈ s, f x = some (p x)) :
    slices_IndexFunc_string s f = some (match s.findIdx? p with | some i => (i : Int) | none => -1) := by
  unfold slices_IndexFunc_string
  rw [rforE_index p hl (fun i h => by unfold slices_IndexFunc_string_L1; rw [need_of ⟨by omega, by omega⟩, gx_nat h, hf _ (List.getElem_mem h)]; simp only [bind_sm]; cases p s[i] <;> rfl)]
  cases s.findIdx? p <;> rfl
theorem ContainsFunc_string_eq (s : List Str) (f : Str → Option Bool) (p : Str → Bool) (hl : (s.length : Int) ≤ 9223372036854775807) (hf : ∀ x ∈ s, f x = some (p x)) :
    slices_ContainsFunc_string s f = some (s.any p) := by
  unfold slices_ContainsFunc_string
  rw [IndexFunc_string_eq s f p hl hf, bind_sm]
  exact congrArg some idx_any
/-- What is wrong with a selection at its k-th place. -/
def selE (l : List DNode) (ids : List Str) (k : Nat) : Int := if nodeAt l (gx ids (k : Int)) < 0 then 10 else if gx ids (k : Int) ∈ ids.take k then 6 else 0
def selErr (l : List DNode) (ids : List Str) : Int := firstErr ((List.range ids.length).map (selE l ids))
/-- A root of a selection. -/
noncomputable def rootB (l : List DNode) (ids : List Str) (n : DNode) : Bool := decide (n.Id ∈ ids) && !ids.any (fun g => belB l n g)
/-- What a selection touches. -/
noncomputable def tchB (l : List DNode) (ids : List Str) (n : DNode) : Bool := ids.any (fun g => decide (n.Id = g) || belB l n g)
/-- The roots, as numbers. -/
noncomputable def rootL (l : List DNode) (ids : List Str) : List Int := ((List.range l.length).filter (fun (i : Nat) => rootB l ids (gx l (i : Int)))).map (fun (i : Nat) => (i : Int))
theorem rootL_mem {l : List DNode} {ids : List Str} {k : Int} (h : k ∈ rootL l ids) : ∃ j : Nat, ∃ hj : j < l.length, k = j ∧ rootB l ids l[j] = true := by
  obtain ⟨j, hj, rfl⟩ := List.mem_map.1 h
  obtain ⟨h1, h2⟩ := List.mem_filter.1 hj
  have h1' : j < l.length := by simpa using h1
  exact ⟨j, h1', rfl, by rw [← gx_nat h1']; exact h2⟩
theorem mem_rootL {l : List DNode} {ids : List Str} {j : Nat} (hj : j < l.length) (h : rootB l ids l[j] = true) : (j : Int) ∈ rootL l ids :=
  List.mem_map.2 ⟨j, List.mem_filter.2 ⟨by simpa using hj, by rw [gx_nat hj]; exact h⟩, rfl⟩
theorem rootL_len {l : List DNode} {ids : List Str} (hl : l.length ≤ 500) : (rootL l ids).length ≤ 500 := by
  unfold rootL
  rw [List.length_map]
  refine Nat.le_trans (List.length_filter_le _ _) ?_
  simp; omega
theorem SelectionError_eq {d : Doc} (hl : d.Nodes.length ≤ 500) {ids : List Str} (hi : (ids.length : Int) ≤ 9223372036854775807) : ref_SelectionError d ids = some (selErr d.Nodes ids) := by
  unfold ref_SelectionError
  have := rforE_errS (n := ids.length) (step := ref_SelectionError_L1 d ids) (fin := fun s => (Res.nx s : Res Unit Int)) (fun _ => ()) (selE d.Nodes ids) (fun e => Res.ab e) hi (fun i hi' _ => by
    unfold ref_SelectionError_L1
    rw [need_of ⟨by omega, by omega⟩, bnd_eq, NodeAt_eq (by omega), Option.bind_some, When_eq, Option.bind_some, need_of ⟨by omega, by omega, by omega⟩]
    have hseg : seg ids 0 (i : Int) = ids.take i := by simp [seg]
    rw [hseg, Contains_string_eq _ _ (by simp; omega), Option.bind_some, When_eq, Option.bind_some, First_eq (by simp), Option.bind_some]
    have e : firstErr [if decide (nodeAt d.Nodes (gx ids (i : Int)) < 0) = true then (10 : Int) else 0, if decide (gx ids (i : Int) ∈ ids.take i) = true then (6 : Int) else 0] = selE d.Nodes ids i := by
      unfold selE
      by_cases h1 : nodeAt d.Nodes (gx ids (i : Int)) < 0
      · simp [h1]
      · by_cases h2 : gx ids (i : Int) ∈ ids.take i
        · simp [h1, h2]
        · simp [h1, h2]
    rw [e]
    by_cases h : selE d.Nodes ids i = 0
    · rw [decide_eq_true h, if_pos h]; rfl
    · rw [decide_eq_false h, if_neg h]; rfl)
  rw [this]
  by_cases h : selErr d.Nodes ids = 0
  · have h' : firstErr ((List.range ids.length).map (selE d.Nodes ids)) = 0 := h
    rw [if_pos h', h]; rfl
  · have h' : ¬ firstErr ((List.range ids.length).map (selE d.Nodes ids)) = 0 := h
    rw [if_neg h']; rfl
theorem under_eq {d : Doc} (h : Right d) (ids : List Str) {i : Nat} (hi : i < d.Nodes.length) :
    loop (page_selected_L3 d (viewD d) (MK d.Nodes.length (fun j => decide ((gx d.Nodes (j : Int)).Id ∈ ids)))) (false, d.Nodes[i]) = some (ids.any (fun g => belB d.Nodes d.Nodes[i] g)) := by
  have hn := List.getElem_mem hi
  obtain ⟨m, _, hm⟩ := h.deep _ hn
  let U : Nat → Bool := fun k => (List.range k).any (fun j => decide ((anc d.Nodes d.Nodes[i] j).Parent ∈ ids))
  obtain ⟨e, h1, h2⟩ := loop_nat (body := page_selected_L3 d (viewD d) (MK d.Nodes.length (fun j => decide ((gx d.Nodes (j : Int)).Id ∈ ids)))) (fun k => (U k, anc d.Nodes d.Nodes[i] k)) (fun e => e = U m) 0 m (by omega) (fun k _ hk => by
    left
    have hne := hm.2 k hk
    have hmem := anc_mem h.parIn hn k (fun j hj => hm.2 j (by omega))
    obtain ⟨t, ht, ha, hid⟩ := nodeAt_natS (l := d.Nodes) (id := (anc d.Nodes d.Nodes[i] k).Parent) (by
      have := (nodeAt_pos (h.parIn _ hmem hne)).1.1
      omega)
    have hvn : (viewD d).number = numM d.Nodes := rfl
    unfold page_selected_L3
    simp only [bnd_eq]
    rw [decide_eq_false hne, Bool.not_false, cond_true, hvn, numM_getD (by omega), ha, need_of (fun _ => ⟨by omega, by rw [MK_len]; omega⟩), MK_at ht, need_of ⟨by omega, by omega⟩]
    have e1 : U (k + 1) = (U k || decide ((gx d.Nodes (t : Int)).Id ∈ ids)) := by
      show (List.range (k + 1)).any _ = _
      rw [List.range_succ, List.any_append, gx_nat ht, hid]
      simp [U]
    have e2 : anc d.Nodes d.Nodes[i] (k + 1) = gx d.Nodes (t : Int) := by
      show gx d.Nodes (nodeAt d.Nodes (anc d.Nodes d.Nodes[i] k).Parent) = _
      rw [ha]
    rw [e1, e2]) ⟨_, by
    unfold page_selected_L3
    simp only
    rw [decide_eq_true hm.1]; rfl, rfl⟩
  have h0 : ((false, d.Nodes[i]) : Bool × DNode) = (U 0, anc d.Nodes d.Nodes[i] 0) := rfl
  rw [h0, h1, h2]
  congr 1
  rw [Bool.eq_iff_iff, List.any_eq_true, List.any_eq_true]
  constructor
  · rintro ⟨j, hj, hx⟩
    have hj' : j < m := by simpa using hj
    exact ⟨_, of_decide_eq_true hx, belB_iff.2 ⟨j, fun q hq => hm.2 q (by omega), rfl⟩⟩
  · rintro ⟨g, hg, hx⟩
    obtain ⟨k, k1, k2⟩ := belB_iff.1 hx
    have hk : k < m := by
      apply Classical.byContradiction
      intro hc
      exact k1 m (by omega) hm.1
    exact ⟨k, by simpa using hk, by rw [k2]; exact decide_eq_true hg⟩
theorem selected_eq {d : Doc} (hc : page_Check d = some 0) (h : Right d) {ids : List Str} (hi : (ids.length : Int) ≤ 9223372036854775807) :
    page_selected d ids = some (if selErr d.Nodes ids = 0 then (some (viewD d), rootL d.Nodes ids, 0) else (none, [], selErr d.Nodes ids)) := by
  have hnl := h.nl
  have hv : (viewD d).d.Nodes = d.Nodes := rfl
  have hvn : (viewD d).number = numM d.Nodes := rfl
  unfold page_selected
  rw [slook_ok hc h, Option.bind_some]
  simp only [decide_true, Bool.not_true, cond_false, bnd_eq, Option.bind_some]
  rw [need_of ⟨by omega, by omega, by omega⟩]
  have hrep : List.replicate (d.Nodes.length : Int).toNat false = MK d.Nodes.length (fun j => decide ((gx d.Nodes (j : Int)).Id ∈ ids.take 0)) := by
    unfold MK
    rw [show (d.Nodes.length : Int).toNat = d.Nodes.length by omega]
    simp only [List.take_zero, List.not_mem_nil, decide_false, List.map_const', List.length_range]
  rw [hrep]
  have := rforE_errS (n := ids.length) (step := page_selected_L1 (viewD d) ids) (fin := fun s => (Res.nx s : Res (List Bool) ((Option Page_view) × (List Int) × Int))) (fun k => MK d.Nodes.length (fun j => decide ((gx d.Nodes (j : Int)).Id ∈ ids.take k))) (selE d.Nodes ids) (fun e => Res.ab (none, [], e)) hi (fun i hi' _ => by
    unfold page_selected_L1
    rw [need_of ⟨by omega, by omega⟩, bnd_eq, hvn, numM_has]
    unfold selE
    by_cases h1 : nodeAt d.Nodes (gx ids (i : Int)) < 0
    · rw [decide_eq_false (by omega), if_pos h1]; rfl
    · obtain ⟨t, ht, ha, hid⟩ := nodeAt_natS h1
      rw [if_neg h1, decide_eq_true (by omega), Bool.not_true, cond_false, numM_getD (by omega), ha, need_of ⟨by omega, by rw [MK_len]; omega⟩, MK_at ht, gx_nat ht, hid]
      by_cases h2 : gx ids (i : Int) ∈ ids.take i
      · rw [if_pos h2, decide_eq_true h2]; rfl
      · rw [if_neg h2, decide_eq_false h2, cond_false, need_of ⟨by omega, by rw [MK_len]; omega⟩, if_pos rfl, show (t : Int).toNat = t by omega, MK_set]
        congr 2
        refine MK_congr fun j hj => ?_
        have hm1 : ∀ x, decide (x ∈ ids.take (i + 1)) = (decide (x ∈ ids.take i) || decide (x = ids[i])) := fun x => by
          rw [Bool.eq_iff_iff, Bool.or_eq_true, decide_eq_true_eq, decide_eq_true_eq, decide_eq_true_eq, List.take_succ_eq_append_getElem hi', List.mem_append, List.mem_singleton]
        rw [hm1]
        by_cases hjt : j = t
        · subst hjt
          rw [if_pos rfl, gx_nat ht, hid, gx_nat hi', decide_eq_true (rfl : ids[i] = ids[i]), Bool.or_true]
        · rw [if_neg hjt]
          have : (gx d.Nodes (j : Int)).Id ≠ ids[i] := fun e => by
            rw [gx_nat hj, ← gx_nat hi', ← hid] at e
            exact hjt (h.at_Id hj ht e)
          rw [decide_eq_false this, Bool.or_false])
  rw [this]
  by_cases hs : selErr d.Nodes ids = 0
  case neg =>
    have hs' : ¬ firstErr ((List.range ids.length).map (selE d.Nodes ids)) = 0 := hs
    rw [if_neg hs', if_neg hs]; rfl
  have hs' : firstErr ((List.range ids.length).map (selE d.Nodes ids)) = 0 := hs
  rw [if_pos hs', if_pos hs, bindR_nx, List.take_length]
  obtain ⟨s, g1, g2⟩ := rfor_inv (n := (d.Nodes.length : Int)) (step := page_selected_L2 d (viewD d) (MK d.Nodes.length (fun j => decide ((gx d.Nodes (j : Int)).Id ∈ ids)))) (s0 := ([] : List Int))
    (fun k s => s = ((List.range k).filter (fun (i : Nat) => rootB d.Nodes ids (gx d.Nodes (i : Int)))).map (fun (i : Nat) => (i : Int)) ∧ s.length ≤ k) (by omega) (by simp) (fun k s hk hI => by
    have hk' : k < d.Nodes.length := by omega
    obtain ⟨rfl, hle⟩ := hI
    unfold page_selected_L2
    rw [need_of ⟨by omega, by omega⟩, bnd_eq, gx_nat hk', under_eq h ids hk', Option.bind_some, need_of ⟨by omega, by rw [MK_len]; omega⟩, MK_at hk', gx_nat hk', List.range_succ, List.filter_append, List.map_append]
    have hr : rootB d.Nodes ids (gx d.Nodes (k : Int)) = (decide (d.Nodes[k].Id ∈ ids) && !ids.any (fun g => belB d.Nodes d.Nodes[k] g)) := by rw [gx_nat hk']; rfl
    rw [← hr]
    cases hp : rootB d.Nodes ids (gx d.Nodes (k : Int)) with
    | false => refine ⟨_, rfl, by simp [hp], by omega⟩
    | true =>
      rw [cond_true, need_of (by show _ ≤ _; simp at hle ⊢; omega)]
      refine ⟨_, rfl, by simp [hp], by simp at hle ⊢; omega⟩)
  rw [g1, g2.1, show (d.Nodes.length : Int).toNat = d.Nodes.length by omega]
  rfl
/-- What the roots have below them is what is touched. -/
theorem roots_tch {d : Doc} (h : Right d) (ids : List Str) {j : Nat} (hj : j < d.Nodes.length) : (rootL d.Nodes ids).any (fun k => subB d.Nodes k.toNat j) = tchB d.Nodes ids d.Nodes[j] := by
  have hn := List.getElem_mem hj
  obtain ⟨m, _, hm⟩ := h.deep _ hn
  unfold tchB
  rw [Bool.eq_iff_iff, List.any_eq_true, List.any_eq_true]
  constructor
  · rintro ⟨k, hk, hs⟩
    obtain ⟨t, ht, rfl, hr⟩ := rootL_mem hk
    rw [show (t : Int).toNat = t by omega] at hs
    unfold rootB at hr
    rw [Bool.and_eq_true] at hr
    refine ⟨_, of_decide_eq_true hr.1, ?_⟩
    unfold subB at hs
    rw [Bool.or_eq_true, decide_eq_true_eq, gx_nat hj, gx_nat ht] at hs
    rw [Bool.or_eq_true, decide_eq_true_eq]
    rcases hs with rfl | hs
    · exact .inl rfl
    · exact .inr hs
  · rintro ⟨g, hg, hx⟩
    have main : ∀ (t q : Nat), q + t = m → (anc d.Nodes d.Nodes[j] q).Id ∈ ids → ∃ k ∈ rootL d.Nodes ids, subB d.Nodes k.toNat j = true := by
      intro t
      induction t using Nat.strongRecOn with
      | _ t ih =>
        intro q hq hin
        by_cases hup : ∃ q', q < q' ∧ q' ≤ m ∧ (anc d.Nodes d.Nodes[j] q').Id ∈ ids
        · obtain ⟨q', a1, a2, a3⟩ := hup
          exact ih (m - q') (by omega) q' (by omega) a3
        · have hmem := anc_mem h.parIn hn q (fun s hs => hm.2 s (by omega))
          obtain ⟨k, hk, he⟩ := List.mem_iff_getElem.1 hmem
          refine ⟨(k : Int), mem_rootL hk ?_, ?_⟩
          · unfold rootB
            rw [Bool.and_eq_true, he, decide_eq_true_eq, Bool.not_eq_true', List.any_eq_false]
            refine ⟨hin, fun g hg hb => ?_⟩
            obtain ⟨s, s1, s2⟩ := belB_iff.1 hb
            rw [← anc_add] at s2
            have hs : q + s < m := by
              apply Classical.byContradiction
              intro hc
              have := s1 (m - q) (by omega)
              rw [← anc_add, show q + (m - q) = m by omega] at this
              exact this hm.1
            have e := (par_mem h.parIn (anc_mem h.parIn hn (q + s) (fun r hr => hm.2 r (by omega))) (hm.2 (q + s) hs)).2
            exact hup ⟨q + s + 1, by omega, by omega, by
              show (par d.Nodes (anc d.Nodes d.Nodes[j] (q + s))).Id ∈ ids
              rw [e, s2]; exact hg⟩
          · rw [show (k : Int).toNat = k by omega]
            unfold subB
            rw [Bool.or_eq_true, decide_eq_true_eq, gx_nat hj, gx_nat hk, belB_iff]
            cases q with
            | zero => exact .inl (h.at_Id hj hk (by rw [he]; rfl))
            | succ q =>
              right
              refine ⟨q, fun s hs => hm.2 s (by omega), ?_⟩
              have e := (par_mem h.parIn (anc_mem h.parIn hn q (fun r hr => hm.2 r (by omega))) (hm.2 q (by omega))).2
              rw [he]
              exact e.symm
    rw [Bool.or_eq_true, decide_eq_true_eq, belB_iff] at hx
    rcases hx with hx | ⟨q, q1, q2⟩
    · exact main m 0 (by omega) (by show d.Nodes[j].Id ∈ ids; rw [hx]; exact hg)
    · have hq : q < m := by
        apply Classical.byContradiction
        intro hc
        exact q1 m (by omega) hm.1
      have e := (par_mem h.parIn (anc_mem h.parIn hn q (fun r hr => hm.2 r (by omega))) (hm.2 q hq)).2
      exact main (m - (q + 1)) (q + 1) (by omega) (by
        show (par d.Nodes (anc d.Nodes d.Nodes[j] q)).Id ∈ ids
        rw [e, q2]; exact hg)
theorem Touched_full {d : Doc} (h : Right d) {ids : List Str} (hi : (ids.length : Int) ≤ 9223372036854775807) : ∃ m, ref_Touched d ids = some m ∧ (∀ (j : Nat) (hj : j < d.Nodes.length), m.getD d.Nodes[j].Id false = tchB d.Nodes ids d.Nodes[j]) ∧ m.getD Str.nil false = false := by
  have hnl := h.nl
  unfold ref_Touched
  obtain ⟨s, g1, g2⟩ := rfor_inv (n := (d.Nodes.length : Int)) (step := ref_Touched_L1 d ids) (s0 := (GMap.nil : GMap Str Bool)) (fun k s => (∀ (j : Nat) (hj : j < d.Nodes.length), j < k → s.f d.Nodes[j].Id = some (tchB d.Nodes ids d.Nodes[j])) ∧ s.f Str.nil = none) (by omega) ⟨fun j hj hk => by omega, rfl⟩ (fun k s hk hI => by
    have hk' : k < d.Nodes.length := by omega
    unfold ref_Touched_L1
    rw [need_of ⟨by omega, by omega⟩, bnd_eq, gx_nat hk', ContainsFunc_string_eq ids (fun x0 => ref_Touched_1 x0 d.Nodes[k] d) (fun g => decide (d.Nodes[k].Id = g) || belB d.Nodes d.Nodes[k] g) hi (fun g _ => by
      unfold ref_Touched_1
      rw [IsBelow_eq h hk']
      by_cases e : d.Nodes[k].Id = g
      · rw [decide_eq_true e]; simp [gd]
      · rw [decide_eq_false e]; simp [gd]), Option.bind_some]
    refine ⟨_, rfl, fun j hj hjk => ?_, ?_⟩
    · show (if d.Nodes[j].Id = d.Nodes[k].Id then some _ else s.f d.Nodes[j].Id) = _
      by_cases e : j = k
      · subst e
        rw [if_pos rfl]; rfl
      · rw [if_neg (fun hid => e (h.at_Id hj hk' hid))]
        exact hI.1 j hj (by omega)
    · show (if Str.nil = d.Nodes[k].Id then some _ else s.f Str.nil) = _
      rw [if_neg (fun e => h.hid (List.getElem_mem hk') e.symm)]
      exact hI.2)
  rw [bnd_eq, g1]
  refine ⟨s, rfl, fun j hj => ?_, ?_⟩
  · unfold GMap.getD
    rw [g2.1 j hj (by omega)]; rfl
  · unfold GMap.getD
    rw [g2.2]; rfl
theorem Touched_eq {d : Doc} (h : Right d) {ids : List Str} (hi : (ids.length : Int) ≤ 9223372036854775807) : ∃ m, ref_Touched d ids = some m ∧ ∀ (j : Nat) (hj : j < d.Nodes.length), m.getD d.Nodes[j].Id false = tchB d.Nodes ids d.Nodes[j] := by
  obtain ⟨m, h1, h2, _⟩ := Touched_full h hi
  exact ⟨m, h1, h2⟩
end Go.DB
