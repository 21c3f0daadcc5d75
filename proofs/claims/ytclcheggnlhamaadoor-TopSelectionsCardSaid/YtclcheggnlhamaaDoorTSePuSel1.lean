/-
  Right diagrams, in plain words: selections, their roots, and what they touch.
-/
import Derived.Test.YtclcheggnlhamaaDoorTSePuLook1
set_option linter.unusedSimpArgs false
set_option linter.unusedVariables false
namespace Go.DB
open Go Go.RowKit
theorem slook_bad {d : Doc} {e : Int} (hc : page_Check d = some e) (he : e ≠ 0) : page_look d = some (none, e) := by
 unfold page_look
 rw [hc, Option.bind_some, decide_eq_false he]; rfl
theorem slook_ok {d : Doc} (hc : page_Check d = some 0) (h : Right d) : page_look d = some (some (viewD d), 0) := by
 unfold page_look
 rw [hc, Option.bind_some, h.viewOf]; rfl
theorem nodeAt_natS {l : List DNode} {id : Str} (h : ¬ nodeAt l id < 0) : ∃ i : Nat, ∃ hi : i < l.length, nodeAt l id = i ∧ l[i].Id = id := by
 obtain ⟨⟨h1, h2⟩, h3⟩ := nodeAt_in h
 refine ⟨(nodeAt l id).toNat, by omega, by omega, ?_⟩
 rw [show nodeAt l id = (((nodeAt l id).toNat : Nat) : Int) by omega, gx_nat (by omega)] at h3
 exact h3
theorem range_gxS {α : Type} [Inhabited α] (l : List α) : (List.range l.length).map (fun (i : Nat) => gx l (i : Int)) = l := by
 apply List.ext_getElem
 ·
  simp
 ·
  intro i h1 h2
  simp [gx_nat h2]
def selE (l : List DNode) (ids : List Str) (k : Nat) : Int := if nodeAt l (gx ids (k : Int)) < 0 then 10 else if gx ids (k : Int) ∈ ids.take k then 6 else 0
def selErr (l : List DNode) (ids : List Str) : Int := firstErr ((List.range ids.length).map (selE l ids))
noncomputable def rootB (l : List DNode) (ids : List Str) (n : DNode) : Bool := decide (n.Id ∈ ids) && !ids.any (fun g => belB l n g)
noncomputable def rootL (l : List DNode) (ids : List Str) : List Int := ((List.range l.length).filter (fun (i : Nat) => rootB l ids (gx l (i : Int)))).map (fun (i : Nat) => (i : Int))
theorem rootL_mem {l : List DNode} {ids : List Str} {k : Int} (h : k ∈ rootL l ids) : ∃ j : Nat, ∃ hj : j < l.length, k = j ∧ rootB l ids l[j] = true := by
 obtain ⟨j, hj, rfl⟩ := List.mem_map.1 h
 obtain ⟨h1, h2⟩ := List.mem_filter.1 hj
 have h1' : j < l.length := by simpa using h1
 exact ⟨j, h1', rfl, by rw [← gx_nat h1']; exact h2⟩
theorem rootL_len {l : List DNode} {ids : List Str} (hl : l.length ≤ 500) : (rootL l ids).length ≤ 500 := by
 unfold rootL
 rw [List.length_map]
 refine Nat.le_trans (List.length_filter_le _ _) ?_
 simp; omega
theorem under_eq {d : Doc} (h : Right d) (ids : List Str) {i : Nat} (hi : i < d.Nodes.length) :
  loop (page_selected_L3 d (viewD d) (MK d.Nodes.length (fun j => decide ((gx d.Nodes (j : Int)).Id ∈ ids)))) (false, d.Nodes[i]) = some (ids.any (fun g => belB d.Nodes d.Nodes[i] g)) := by
 have hn := List.getElem_mem hi
 obtain ⟨m, _, hm⟩ := h.deep _ hn
 let U : Nat → Bool := fun k => (List.range k).any (fun j => decide ((anc d.Nodes d.Nodes[i] j).Parent ∈ ids))
 obtain ⟨e, h1, h2⟩ := loop_nat (body := page_selected_L3 d (viewD d) (MK d.Nodes.length (fun j => decide ((gx d.Nodes (j : Int)).Id ∈ ids)))) (fun k => (U k, anc d.Nodes d.Nodes[i] k)) (fun e => e = U m) 0 m (by omega) (fun k _ hk => by
  left
  have hne := hm.2 k hk
  have hmem := anc_mem h.parIn hn k (fun j hj => hm.2 j (by omega))
  obtain ⟨t, ht, ha, hid⟩ := nodeAt_natS (l := d.Nodes) (id := (anc d.Nodes d.Nodes[i] k).Parent) (by
   have := (nodeAt_pos (h.parIn _ hmem hne)).1.1
   omega)
  have hvn : (viewD d).number = numM d.Nodes := rfl
  unfold page_selected_L3
  simp only [bnd_eq]
  rw [decide_eq_false hne, Bool.not_false, cond_true, hvn, numM_getD (by omega), ha, need_of (fun _ => ⟨by omega, by rw [MK_len]; omega⟩), MK_at ht, need_of ⟨by omega, by omega⟩]
  have e1 : U (k + 1) = (U k || decide ((gx d.Nodes (t : Int)).Id ∈ ids)) := by
   show (List.range (k + 1)).any _ = _
   rw [List.range_succ, List.any_append, gx_nat ht, hid]
   simp [U]
  have e2 : anc d.Nodes d.Nodes[i] (k + 1) = gx d.Nodes (t : Int) := by
   show gx d.Nodes (nodeAt d.Nodes (anc d.Nodes d.Nodes[i] k).Parent) = _
   rw [ha]
  rw [e1, e2]) ⟨_, by
  unfold page_selected_L3
  simp only
  rw [decide_eq_true hm.1]; rfl, rfl⟩
 have h0 : ((false, d.Nodes[i]) : Bool × DNode) = (U 0, anc d.Nodes d.Nodes[i] 0) := rfl
 rw [h0, h1, h2]
 congr 1
 rw [Bool.eq_iff_iff, List.any_eq_true, List.any_eq_true]
 constructor
 ·
  rintro ⟨j, hj, hx⟩
  have hj' : j < m := by simpa using hj
  exact ⟨_, of_decide_eq_true hx, belB_iff.2 ⟨j, fun q hq => hm.2 q (by omega), rfl⟩⟩
 ·
  rintro ⟨g, hg, hx⟩
  obtain ⟨k, k1, k2⟩ := belB_iff.1 hx
  have hk : k < m := by
   apply Classical.byContradiction
   intro hc
   exact k1 m (by omega) hm.1
  exact ⟨k, by simpa using hk, by rw [k2]; exact decide_eq_true hg⟩
theorem selected_bad {d : Doc} {e : Int} (hc : page_Check d = some e) (he : e ≠ 0) (ids : List Str) : page_selected d ids = some (none, [], e) := by
 unfold page_selected
 rw [slook_bad hc he, Option.bind_some, decide_eq_false he]; rfl
theorem selected_eq {d : Doc} (hc : page_Check d = some 0) (h : Right d) {ids : List Str} (hi : (ids.length : Int) ≤ 9223372036854775807) :
  page_selected d ids = some (if selErr d.Nodes ids = 0 then (some (viewD d), rootL d.Nodes ids, 0) else (none, [], selErr d.Nodes ids)) := by
 have hnl := h.nl
 have hv : (viewD d).d.Nodes = d.Nodes := rfl
 have hvn : (viewD d).number = numM d.Nodes := rfl
 unfold page_selected
 rw [slook_ok hc h, Option.bind_some]
 simp only [decide_true, Bool.not_true, cond_false, bnd_eq, Option.bind_some]
 rw [need_of ⟨by omega, by omega, by omega⟩]
 have hrep : List.replicate (d.Nodes.length : Int).toNat false = MK d.Nodes.length (fun j => decide ((gx d.Nodes (j : Int)).Id ∈ ids.take 0)) := by
  unfold MK
  rw [show (d.Nodes.length : Int).toNat = d.Nodes.length by omega]
  simp only [List.take_zero, List.not_mem_nil, decide_false, List.map_const', List.length_range]
 rw [hrep]
 have := rforE_errS (n := ids.length) (step := page_selected_L1 (viewD d) ids) (fin := fun s => (Res.nx s : Res (List Bool) ((Option Page_view) × (List Int) × Int))) (fun k => MK d.Nodes.length (fun j => decide ((gx d.Nodes (j : Int)).Id ∈ ids.take k))) (selE d.Nodes ids) (fun e => Res.ab (none, [], e)) hi (fun i hi' _ => by
  unfold page_selected_L1
  rw [need_of ⟨by omega, by omega⟩, bnd_eq, hvn, numM_has]
  unfold selE
  by_cases h1 : nodeAt d.Nodes (gx ids (i : Int)) < 0
  ·
   rw [decide_eq_false (by omega), if_pos h1]; rfl
  ·
   obtain ⟨t, ht, ha, hid⟩ := nodeAt_natS h1
   rw [if_neg h1, decide_eq_true (by omega), Bool.not_true, cond_false, numM_getD (by omega), ha, need_of ⟨by omega, by rw [MK_len]; omega⟩, MK_at ht, gx_nat ht, hid]
   by_cases h2 : gx ids (i : Int) ∈ ids.take i
   ·
    rw [if_pos h2, decide_eq_true h2]; rfl
   ·
    rw [if_neg h2, decide_eq_false h2, cond_false, need_of ⟨by omega, by rw [MK_len]; omega⟩, if_pos rfl, show (t : Int).toNat = t by omega, MK_set]
    congr 2
    refine MK_congr fun j hj => ?_
    have hm1 : ∀ x, decide (x ∈ ids.take (i + 1)) = (decide (x ∈ ids.take i) || decide (x = ids[i])) := fun x => by
     rw [Bool.eq_iff_iff, Bool.or_eq_true, decide_eq_true_eq, decide_eq_true_eq, decide_eq_true_eq, List.take_succ_eq_append_getElem hi', List.mem_append, List.mem_singleton]
    rw [hm1]
    by_cases hjt : j = t
    ·
     subst hjt
     rw [if_pos rfl, gx_nat ht, hid, gx_nat hi', decide_eq_true (rfl : ids[i] = ids[i]), Bool.or_true]
    ·
     rw [if_neg hjt]
     have : (gx d.Nodes (j : Int)).Id ≠ ids[i] := fun e => by
      rw [gx_nat hj, ← gx_nat hi', ← hid] at e
      exact hjt (h.at_Id hj ht e)
     rw [decide_eq_false this, Bool.or_false])
 rw [this]
 by_cases hs : selErr d.Nodes ids = 0
 case neg =>
  have hs' : ¬ firstErr ((List.range ids.length).map (selE d.Nodes ids)) = 0 := hs
  rw [if_neg hs', if_neg hs]; rfl
 have hs' : firstErr ((List.range ids.length).map (selE d.Nodes ids)) = 0 := hs
 rw [if_pos hs', if_pos hs, bindR_nx, List.take_length]
 obtain ⟨s, g1, g2⟩ := rfor_inv (n := (d.Nodes.length : Int)) (step := page_selected_L2 d (viewD d) (MK d.Nodes.length (fun j => decide ((gx d.Nodes (j : Int)).Id ∈ ids)))) (s0 := ([] : List Int))
  (fun k s => s = ((List.range k).filter (fun (i : Nat) => rootB d.Nodes ids (gx d.Nodes (i : Int)))).map (fun (i : Nat) => (i : Int)) ∧ s.length ≤ k) (by omega) (by simp) (fun k s hk hI => by
  have hk' : k < d.Nodes.length := by omega
  obtain ⟨rfl, hle⟩ := hI
  unfold page_selected_L2
  rw [need_of ⟨by omega, by omega⟩, bnd_eq, gx_nat hk', under_eq h ids hk', Option.bind_some, need_of ⟨by omega, by rw [MK_len]; omega⟩, MK_at hk', gx_nat hk', List.range_succ, List.filter_append, List.map_append]
  have hr : rootB d.Nodes ids (gx d.Nodes (k : Int)) = (decide (d.Nodes[k].Id ∈ ids) && !ids.any (fun g => belB d.Nodes d.Nodes[k] g)) := by rw [gx_nat hk']; rfl
  rw [← hr]
  cases hp : rootB d.Nodes ids (gx d.Nodes (k : Int)) with
  | false => refine ⟨_, rfl, by simp [hp], by omega⟩
  | true =>
   rw [cond_true, need_of (by show _ ≤ _; simp at hle ⊢; omega)]
   refine ⟨_, rfl, by simp [hp], by simp at hle ⊢; omega⟩)
 rw [g1, g2.1, show (d.Nodes.length : Int).toNat = d.Nodes.length by omega]
 rfl
end Go.DB
