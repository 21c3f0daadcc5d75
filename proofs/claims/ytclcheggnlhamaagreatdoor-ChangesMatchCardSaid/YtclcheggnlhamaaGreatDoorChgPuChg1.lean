/-
  Roots in front, and groups: the program and the document.
-/
import Derived.Test.YtclcheggnlhamaaGreatDoorChgPuBack2
set_option linter.unusedSimpArgs false
set_option linter.unusedVariables false
namespace Go.DB
open Go Go.RowKit

theorem ConcatN {a b : List DNode} (h : a.length + b.length ≤ 100000) : slices_Concat_Node [a, b] = some (a ++ b) := by
  unfold slices_Concat_Node
  rw [rfor_eq (by simp)]
  have e2 : (([a, b] : List (List DNode)).length : Int).toNat = 2 := rfl
  rw [e2]
  have st1 : ∀ (i : Nat) (x : List DNode) (s : Int), ([a, b] : List (List DNode))[i]? = some x → 0 ≤ s → s + x.length ≤ 1000000 → slices_Concat_Node_L1 [a, b] (i : Int) s = some (s + x.length) := fun i x s hi h0 h1 => by
    have hlt := (List.getElem?_eq_some_iff.1 hi).1
    have hx := (List.getElem?_eq_some_iff.1 hi).2
    unfold slices_Concat_Node_L1
    rw [need_of ⟨by omega, by omega⟩, gx_nat hlt, hx, bnd_eq, Wk (by omega) (by omega), decide_eq_false (by omega)]; rfl
  have st2 : ∀ (i : Nat) (x : List DNode) (s : List DNode), ([a, b] : List (List DNode))[i]? = some x → s.length + x.length ≤ 1000000 → slices_Concat_Node_L2 [a, b] (i : Int) s = some (s ++ x) := fun i x s hi h1 => by
    have hlt := (List.getElem?_eq_some_iff.1 hi).1
    have hx := (List.getElem?_eq_some_iff.1 hi).2
    unfold slices_Concat_Node_L2
    rw [need_of ⟨by omega, by omega⟩, gx_nat hlt, hx, need_of (by show _ ≤ _; omega)]
  have r1 : rgo (slices_Concat_Node_L1 [a, b]) 2 0 0 = some ((0 : Int) + a.length + b.length) := by
    simp only [rgo]
    rw [show (0 : Int) = ((0 : Nat) : Int) from rfl, st1 0 a _ rfl (by omega) (by omega)]
    simp only
    rw [show ((0 : Nat) : Int) + 1 = ((1 : Nat) : Int) from rfl, st1 1 b _ rfl (by omega) (by omega)]
  rw [r1, Option.bind_some]
  unfold slices_Grow_Node
  rw [need_of ⟨by omega, by omega⟩, Option.bind_some, rfor_eq (by simp), e2]
  have r2 : rgo (slices_Concat_Node_L2 [a, b]) 2 0 [] = some (a ++ b) := by
    simp only [rgo]
    rw [show (0 : Int) = ((0 : Nat) : Int) from rfl, st2 0 a _ rfl (by simp; omega)]
    simp only
    rw [show ((0 : Nat) : Int) + 1 = ((1 : Nat) : Int) from rfl, st2 1 b _ rfl (by simp; omega)]
    simp
  rw [r2]; rfl
/-- A list that is parted: what is picked, and the rest. -/
def partF (l : List DNode) (P : Nat → Bool) : Nat → List DNode × List DNode
  | 0 => ([], [])
  | i + 1 => if P i = true then ((partF l P i).1 ++ [gx l (i : Int)], (partF l P i).2) else ((partF l P i).1, (partF l P i).2 ++ [gx l (i : Int)])
theorem partF_succ (l : List DNode) (P : Nat → Bool) (i : Nat) : partF l P (i + 1) = if P i = true then ((partF l P i).1 ++ [gx l (i : Int)], (partF l P i).2) else ((partF l P i).1, (partF l P i).2 ++ [gx l (i : Int)]) := rfl
theorem partF_len (l : List DNode) (P : Nat → Bool) : ∀ n, (partF l P n).1.length + (partF l P n).2.length = n
  | 0 => rfl
  | n + 1 => by
    have := partF_len l P n
    unfold partF
    split
    · simp only [List.length_append, List.length_singleton]; omega
    · simp only [List.length_append, List.length_singleton]; omega
def frontD (d : Doc) (ids : List Str) (back : Bool) (P : Nat → Bool) : Doc :=
  ⟨if back = true then (partF d.Nodes P d.Nodes.length).1 ++ (partF d.Nodes P d.Nodes.length).2 else (partF d.Nodes P d.Nodes.length).2 ++ (partF d.Nodes P d.Nodes.length).1, d.Edges⟩
theorem Front_eq {d : Doc} (hck : page_Check d = some 0) (h : Right d) {ids : List Str} (hi : (ids.length : Int) ≤ 9223372036854775807) (hs : selErr d.Nodes ids = 0) (back : Bool) :
    page_Front d ids back = some (frontD d ids back (fun i => decide ((i : Int) ∈ rootL d.Nodes ids)), 0) := by
  have hnl := h.nl
  have hRl := rootL_len (l := d.Nodes) (ids := ids) h.nl
  unfold page_Front
  rw [bnd_eq, selected_eq hck h hi, if_pos hs, Option.bind_some]
  simp only [decide_true, Bool.not_true, cond_false]
  rw [cloned_eq h, Option.bind_some]
  obtain ⟨s, p1, p2⟩ := rfor_inv (n := (d.Nodes.length : Int)) (step := page_Front_L1 (some (viewD d), rootL d.Nodes ids, 0) d) (s0 := (([] : List DNode), ([] : List DNode))) (fun t s => s = partF d.Nodes (fun i => decide ((i : Int) ∈ rootL d.Nodes ids)) t) (by omega) rfl (fun i s hi' hs' => by
    subst hs'
    have hi2 : i < d.Nodes.length := by omega
    have hl := partF_len d.Nodes (fun i => decide ((i : Int) ∈ rootL d.Nodes ids)) i
    unfold page_Front_L1
    simp only
    rw [need_of ⟨by omega, by omega⟩, bnd_eq, Contains_int_eq _ _ (by omega), Option.bind_some]
    cases hc : decide ((i : Int) ∈ rootL d.Nodes ids) with
    | true =>
      rw [cond_true, need_of (by rw [room_iff]; simp only [List.length_singleton]; omega)]
      exact ⟨_, rfl, by rw [partF_succ, if_pos hc]⟩
    | false =>
      rw [cond_false, need_of (by rw [room_iff]; simp only [List.length_singleton]; omega)]
      exact ⟨_, rfl, by rw [partF_succ, if_neg (by rw [hc]; simp)]⟩)
  have e : (d.Nodes.length : Int).toNat = d.Nodes.length := by omega
  rw [e] at p2
  have hl := partF_len d.Nodes (fun i => decide ((i : Int) ∈ rootL d.Nodes ids)) d.Nodes.length
  rw [p1, p2, Option.bind_some, ConcatN (by omega), Option.bind_some, ConcatN (by omega)]
  unfold frontD
  cases back <;> rfl
theorem roots_ids {d : Doc} (h : Right d) (ids : List Str) {i : Nat} (hi : i < d.Nodes.length) : decide ((gx d.Nodes (i : Int)).Id ∈ (rootL d.Nodes ids).map (fun k => (gx d.Nodes k).Id)) = decide ((i : Int) ∈ rootL d.Nodes ids) := by
  rw [decide_eq_decide]
  constructor
  · intro hm
    obtain ⟨k, hk, e⟩ := List.mem_map.1 hm
    obtain ⟨j, hj, ej, _⟩ := rootL_mem hk
    subst ej
    rw [gx_nat hi, gx_nat hj] at e
    rw [← h.at_Id hj hi e]; exact hk
  · intro hm; exact List.mem_map.2 ⟨_, hm, rfl⟩
theorem FrontOf_eq {d : Doc} (h : Right d) {ids : List Str} (hi : (ids.length : Int) ≤ 9223372036854775807) (back : Bool) :
    ref_FrontOf d ids back = some (frontD d ids back (fun i => decide ((i : Int) ∈ rootL d.Nodes ids))) := by
  have hnl := h.nl
  have hRl := rootL_len (l := d.Nodes) (ids := ids) h.nl
  unfold ref_FrontOf
  rw [bnd_eq, Copied_eq h, Option.bind_some, RootsOf_eq h hi, Option.bind_some]
  obtain ⟨s, p1, p2⟩ := rfor_inv (n := (d.Nodes.length : Int)) (step := ref_FrontOf_L1 d ((rootL d.Nodes ids).map (fun k => (gx d.Nodes k).Id))) (s0 := (([] : List DNode), ([] : List DNode))) (fun t s => s = partF d.Nodes (fun i => decide ((i : Int) ∈ rootL d.Nodes ids)) t) (by omega) rfl (fun i s hi' hs' => by
    subst hs'
    have hi2 : i < d.Nodes.length := by omega
    have hl := partF_len d.Nodes (fun i => decide ((i : Int) ∈ rootL d.Nodes ids)) i
    unfold ref_FrontOf_L1
    rw [need_of ⟨by omega, by omega⟩, bnd_eq, Contains_string_eq _ _ (by rw [List.length_map]; omega), Option.bind_some, roots_ids h ids hi2]
    cases hc : decide ((i : Int) ∈ rootL d.Nodes ids) with
    | true =>
      rw [cond_true, need_of (by rw [room_iff]; simp only [List.length_singleton]; omega)]
      exact ⟨_, rfl, by rw [partF_succ, if_pos hc]⟩
    | false =>
      rw [cond_false, need_of (by rw [room_iff]; simp only [List.length_singleton]; omega)]
      exact ⟨_, rfl, by rw [partF_succ, if_neg (by rw [hc]; simp)]⟩)
  have e : (d.Nodes.length : Int).toNat = d.Nodes.length := by omega
  rw [e] at p2
  have hl := partF_len d.Nodes (fun i => decide ((i : Int) ∈ rootL d.Nodes ids)) d.Nodes.length
  rw [p1, p2, Option.bind_some, need_of (by rw [room_iff]; omega), bnd_eq, bnd_eq]
  unfold frontD
  cases back with
  | false => rfl
  | true => rw [cond_true, need_of (by rw [room_iff]; omega)]; rfl
theorem nodeAt_root {d : Doc} (h : Right d) {ids : List Str} {k : Int} (hk : k ∈ rootL d.Nodes ids) : nodeAt d.Nodes (gx d.Nodes k).Id = k ∧ inR d.Nodes k := by
  obtain ⟨j, hj, e, _⟩ := rootL_mem hk
  subst e
  rw [gx_nat hj]
  exact ⟨nodeAt_of h.hd hj, by omega, by omega⟩
theorem EdgeAt_pos {d : Doc} (hl : (d.Edges.length : Int) ≤ 9223372036854775807) (id : Str) : ∃ r, ref_EdgeAt d id = some r ∧ decide (0 ≤ r) = d.Edges.any (fun x => decide (x.Id = id)) := by
  unfold ref_EdgeAt
  rw [IndexFunc_Edge_eq d.Edges (fun x0 => ref_EdgeAt_1 x0 id) (fun n => decide (n.Id = id)) hl (fun x _ => rfl)]
  exact ⟨_, rfl, idx_any⟩
theorem NodeAt_pos {d : Doc} (id : Str) : decide (0 ≤ nodeAt d.Nodes id) = d.Nodes.any (fun x => decide (x.Id = id)) := by
  unfold nodeAt
  exact idx_any
theorem GroupOf_eq {d : Doc} (h : Right d) {ids : List Str} (hi : (ids.length : Int) ≤ 9223372036854775807) {id : Str} (hid : fits id) :
    ref_GroupOf d ids id = if rootL d.Nodes ids = [] then some (⟨[], []⟩, 9) else if (rootL d.Nodes ids).any (fun k => !decide ((gx d.Nodes k).Parent = parR d (rootL d.Nodes ids))) = true then some (⟨[], []⟩, 11) else
      if nameB id = false then some (⟨[], []⟩, 5) else if hasId d id = true then some (⟨[], []⟩, 6) else
      Option.bind (ref_DocError (grpD d (rootL d.Nodes ids) (parR d (rootL d.Nodes ids)) id (lastR (rootL d.Nodes ids)))) fun e =>
        some (if e = 0 then (grpD d (rootL d.Nodes ids) (parR d (rootL d.Nodes ids)) id (lastR (rootL d.Nodes ids)), 0) else (⟨[], []⟩, e)) := by
  have hnl := h.nl
  have hel := h.el
  have hRl := rootL_len (l := d.Nodes) (ids := ids) h.nl
  unfold ref_GroupOf
  rw [bnd_eq, RootsOf_eq h hi, Option.bind_some]
  by_cases hR : rootL d.Nodes ids = []
  · rw [if_pos hR, hR]; rfl
  rw [if_neg hR]
  have hp := List.length_pos_iff.2 hR
  have hlast := lastR_in hR
  have hroot : ∀ k, inR (rootL d.Nodes ids) k → gx ((rootL d.Nodes ids).map (fun k => (gx d.Nodes k).Id)) k = (gx d.Nodes (gx (rootL d.Nodes ids) k)).Id := fun k hk => by
    obtain ⟨a, b⟩ := hk
    obtain ⟨n, rfl⟩ : ∃ n : Nat, k = n := ⟨k.toNat, by omega⟩
    rw [gx_nat (by rw [List.length_map]; omega), gx_nat (show n < (rootL d.Nodes ids).length by omega)]
    simp
  have h0 := nodeAt_root h (gx_mem (l := rootL d.Nodes ids) (k := 0) ⟨by omega, by omega⟩)
  rw [List.length_map, decide_eq_false (by omega), cond_false, need_of ⟨by omega, by rw [List.length_map]; omega⟩, hroot 0 ⟨by omega, by omega⟩, NodeAt_eq (by omega), h0.1, Option.bind_some, need_of h0.2, bnd_eq]
  have hpar : (gx d.Nodes (gx (rootL d.Nodes ids) 0)).Parent = parR d (rootL d.Nodes ids) := rfl
  rw [hpar]
  have hany : slices_ContainsFunc_string ((rootL d.Nodes ids).map (fun k => (gx d.Nodes k).Id)) (fun x0 => ref_GroupOf_1 x0 d (parR d (rootL d.Nodes ids))) = some ((rootL d.Nodes ids).any (fun k => !decide ((gx d.Nodes k).Parent = parR d (rootL d.Nodes ids)))) := by
    rw [ContainsFunc_string_eq _ _ (fun s => !decide ((gx d.Nodes (nodeAt d.Nodes s)).Parent = parR d (rootL d.Nodes ids))) (by rw [List.length_map]; omega) (fun x hx => by
      obtain ⟨k, hk, rfl⟩ := List.mem_map.1 hx
      have := nodeAt_root h hk
      unfold ref_GroupOf_1
      rw [NodeAt_eq (by omega), Option.bind_some, this.1, need_of this.2])]
    congr 1
    rw [List.any_map, Bool.eq_iff_iff, List.any_eq_true, List.any_eq_true]
    constructor
    · rintro ⟨k, hk, e⟩
      refine ⟨k, hk, ?_⟩
      simp only [Function.comp, (nodeAt_root h hk).1] at e; exact e
    · rintro ⟨k, hk, e⟩
      refine ⟨k, hk, ?_⟩
      simp only [Function.comp, (nodeAt_root h hk).1]; exact e
  obtain ⟨er, er1, er2⟩ := EdgeAt_pos (d := d) (by omega) id
  rw [hany, Option.bind_some, When_eq, Option.bind_some, NameOf_eq hid, Option.bind_some, When_eq, Option.bind_some, NodeAt_eq (by omega), Option.bind_some]
  have hr6 : ∃ r6, gd (!(decide (0 ≤ nodeAt d.Nodes id))) (ref_EdgeAt d id) = some r6 ∧ (decide (0 ≤ nodeAt d.Nodes id) || decide (0 ≤ r6)) = hasId d id := by
    unfold hasId
    rw [← NodeAt_pos, ← er2, er1]
    cases decide (0 ≤ nodeAt d.Nodes id) with
    | true => exact ⟨default, rfl, rfl⟩
    | false => exact ⟨er, rfl, rfl⟩
  obtain ⟨r6, g1, g2⟩ := hr6
  rw [g1, Option.bind_some, g2, When_eq, Option.bind_some, First_eq (by simp), Option.bind_some]
  cases (rootL d.Nodes ids).any (fun k => !decide ((gx d.Nodes k).Parent = parR d (rootL d.Nodes ids))) with
  | true => rfl
  | false =>
    simp only [Bool.false_eq_true, if_false, firstErr_cons, if_true, firstErr_nil]
    cases hnm : nameB id with
    | false => rfl
    | true =>
      simp only [Bool.not_true, Bool.false_eq_true, Bool.true_eq_false, if_false, if_true]
      cases hasId d id with
      | true => rfl
      | false =>
        simp only [Bool.false_eq_true, if_false, decide_true, Bool.not_true, cond_false, if_true]
        obtain ⟨s, p1, p2⟩ := rfor_inv (n := ((rootL d.Nodes ids).length : Int)) (step := ref_GroupOf_L1 d id ((rootL d.Nodes ids).map (fun k => (gx d.Nodes k).Id))) (s0 := d.Nodes) (fun t s => s = reP d.Nodes (fun j => decide ((j : Int) ∈ (rootL d.Nodes ids).take t)) id) (by omega)
          (by rw [reP_none]; intro i hi; simp) (fun i s hi hs => by
            subst hs
            have hi' : i < (rootL d.Nodes ids).length := by omega
            obtain ⟨m, hml, hm, _⟩ := rootL_mem (List.getElem_mem hi')
            have hat := nodeAt_root h (List.getElem_mem hi')
            unfold ref_GroupOf_L1
            rw [need_of ⟨by omega, by rw [List.length_map]; omega⟩, hroot (i : Int) ⟨by omega, by omega⟩, NodeAt_eq (by omega), gx_nat hi', hat.1, Option.bind_some, hm, need_of ⟨by omega, by rw [reP_len]; omega⟩]
            simp only [Int.toNat_natCast]
            rw [reP_set hml]
            refine ⟨_, rfl, reP_congr fun j hj => ?_⟩
            rw [List.take_succ_eq_append_getElem hi', hm, Bool.eq_iff_iff]
            simp only [Bool.or_eq_true, decide_eq_true_eq, List.mem_append, List.mem_singleton]
            constructor <;> rintro (a | a) <;> first | exact .inl a | exact .inr (by omega))
        have hs : s = inGrp d (rootL d.Nodes ids) id := by
          rw [p2]
          unfold inGrp
          refine reP_congr fun j hj => ?_
          rw [show ((rootL d.Nodes ids).length : Int).toNat = (rootL d.Nodes ids).length from rfl, List.take_length]
        have hl : (inGrp d (rootL d.Nodes ids) id).length = d.Nodes.length := reP_len
        have hlr := nodeAt_root h (gx_mem (l := rootL d.Nodes ids) (k := ((rootL d.Nodes ids).length : Int) - 1) ⟨by omega, by omega⟩)
        rw [Copied_eq h, Option.bind_some, p1, Option.bind_some, hs, Wk (n := ((rootL d.Nodes ids).length : Int) - 1) (by omega) (by omega), need_of ⟨by omega, by rw [List.length_map]; omega⟩, hroot _ ⟨by omega, by omega⟩, NodeAt_eq (by omega), hlr.1, Option.bind_some, hlast.2, Wk (by omega) (by omega)]
        unfold slices_Insert_Node
        rw [need_of ⟨by omega, by omega, by simp; omega⟩, Option.bind_some]
        have ht : ((lastR (rootL d.Nodes ids) : Int) + 1).toNat = lastR (rootL d.Nodes ids) + 1 := by omega
        rw [ht]
        show Option.bind (ref_DocError (grpD d (rootL d.Nodes ids) (parR d (rootL d.Nodes ids)) id (lastR (rootL d.Nodes ids)))) _ = _
        congr 1
        funext e
        by_cases he : e = 0
        · subst he; rfl
        · rw [decide_eq_false he, if_neg he]; rfl
end Go.DB
