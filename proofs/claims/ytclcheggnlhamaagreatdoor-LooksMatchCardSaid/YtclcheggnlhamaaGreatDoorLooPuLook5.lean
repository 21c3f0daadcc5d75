/-
  Right diagrams, in plain words: what is in a box, and along a line.
-/
import Derived.Test.YtclcheggnlhamaaGreatDoorLooPuLook4
set_option linter.unusedSimpArgs false
set_option linter.unusedVariables false
namespace Go.DB
open Go Go.RowKit

/-- What two boxes have in common. -/
def cmB (a b : Box) : Box := ⟨max a.X b.X, max a.Y b.Y, min (a.X + a.W_) (b.X + b.W_) - max a.X b.X, min (a.Y + a.H) (b.Y + b.H) - max a.Y b.Y⟩
def meetB (a b : Box) : Bool := decide (1 ≤ (cmB a b).W_) && decide (1 ≤ (cmB a b).H)
theorem Common_eq {a b : Box} (ha : okB a) (hb : okB b) : geom_Common a b = some (if meetB a b = true then (cmB a b, true, 0) else (zeroB, false, 0)) := by
  obtain ⟨x1, x2, y1, y2, w1, w2, g1, g2⟩ := id ha
  obtain ⟨x3, x4, y3, y4, w3, w4, g3, g4⟩ := id hb
  unfold geom_Common
  simp only [bnd_eq]
  have hz : firstErr ([a, b].map boxErr) = 0 := by
    rw [firstErr_zero]
    intro e he
    simp at he
    rcases he with rfl | rfl
    · exact boxErr_zero.2 ha
    · exact boxErr_zero.2 hb
  rw [gboxes_eq (by simp), hz, Option.bind_some]
  simp only [decide_true, Bool.not_true, cond_false]
  rw [Wk (n := a.X + a.W_) (by omega) (by omega), Wk (n := b.X + b.W_) (by omega) (by omega), Wk (n := a.Y + a.H) (by omega) (by omega), Wk (n := b.Y + b.H) (by omega) (by omega),
    Wk (n := min (a.X + a.W_) (b.X + b.W_) - max a.X b.X) (by omega) (by omega), Wk (n := min (a.Y + a.H) (b.Y + b.H) - max a.Y b.Y) (by omega) (by omega)]
  have hm : (decide (min (a.X + a.W_) (b.X + b.W_) - max a.X b.X < 1) || decide (min (a.Y + a.H) (b.Y + b.H) - max a.Y b.Y < 1)) = !meetB a b := by
    unfold meetB cmB
    rw [Bool.eq_iff_iff]
    simp only [Bool.or_eq_true, decide_eq_true_eq, Bool.not_eq_true', Bool.and_eq_false_iff, decide_eq_false_iff_not]
    omega
  rw [hm]
  cases meetB a b <;> rfl
theorem CommonOf_eq {a b : Box} (ha : okB a) (hb : okB b) : ref_CommonOf b a = some (if meetB a b = true then (cmB a b, true) else (zeroB, false)) := by
  obtain ⟨x1, x2, y1, y2, w1, w2, g1, g2⟩ := id ha
  obtain ⟨x3, x4, y3, y4, w3, w4, g3, g4⟩ := id hb
  unfold ref_CommonOf
  simp only [bnd_eq]
  rw [Wk (n := a.X + a.W_) (by omega) (by omega), Wk (n := b.X + b.W_) (by omega) (by omega), Wk (n := a.Y + a.H) (by omega) (by omega), Wk (n := b.Y + b.H) (by omega) (by omega),
    Wk (n := min (b.X + b.W_) (a.X + a.W_) - max b.X a.X) (by omega) (by omega), Wk (n := min (b.Y + b.H) (a.Y + a.H) - max b.Y a.Y) (by omega) (by omega)]
  rw [Int.max_comm b.X, Int.max_comm b.Y, Int.min_comm (b.X + b.W_), Int.min_comm (b.Y + b.H)]
  have hm : (decide (min (a.X + a.W_) (b.X + b.W_) - max a.X b.X < 1) || decide (min (a.Y + a.H) (b.Y + b.H) - max a.Y b.Y < 1)) = !meetB a b := by
    unfold meetB cmB
    rw [Bool.eq_iff_iff]
    simp only [Bool.or_eq_true, decide_eq_true_eq, Bool.not_eq_true', Bool.and_eq_false_iff, decide_eq_false_iff_not]
    omega
  rw [hm]
  cases meetB a b <;> rfl
def withinB (a b : Box) : Bool := decide (b.X ≤ a.X) && decide (b.Y ≤ a.Y) && decide (a.X + a.W_ ≤ b.X + b.W_) && decide (a.Y + a.H ≤ b.Y + b.H)
theorem within_eq {a b : Box} (ha : okB a) : (meetB a b && decide (cmB a b = a)) = withinB a b := by
  obtain ⟨x1, x2, y1, y2, w1, w2, g1, g2⟩ := id ha
  unfold meetB withinB cmB
  rw [Bool.eq_iff_iff]
  obtain ⟨ax, ay, aw, ah⟩ := a
  simp only [Bool.and_eq_true, decide_eq_true_eq, Box.mk.injEq] at *
  omega
theorem In_part {d : Doc} {e : Int} (hc : page_Check d = some e) (hr : e = 0 → Right d) (b : Box) (whole : Bool) : ∃ r, page_In d b whole = some r ∧ law_lists_string r.1 r.2 (firstErr [e, boxErr b]) (law_LooksMatch_5 d b whole) = some true := by
  unfold page_In
  by_cases he : e = 0
  case neg =>
    rw [look_bad hc he, Option.bind_some, decide_eq_false he]
    refine ⟨_, rfl, ?_⟩
    have : firstErr [e, boxErr b] = e := by simp [he]
    rw [this]
    exact listsS_bad he _
  subst he
  have h := hr rfl
  rw [look_ok hc h, Option.bind_some]
  simp only [decide_true, Bool.not_true, cond_false, Option.bind_some]
  rw [CheckBox_eq, Option.bind_some]
  have hfe : firstErr [0, boxErr b] = boxErr b := by by_cases hq : boxErr b = 0 <;> simp [hq]
  rw [hfe]
  by_cases hb : boxErr b = 0
  case neg =>
    rw [decide_eq_false hb]
    exact ⟨_, rfl, listsS_bad hb _⟩
  rw [decide_eq_true hb, hb]
  have hbk := boxErr_zero.1 hb
  have hlen := ordT_len h
  have hel := h.el
  have hnl := h.nl
  simp only [Bool.not_true, cond_false]
  let bx : Int → Box := fun k => ((page_view_boxOf (viewD d) k).getD (zeroB, 0)).1
  let inQ : Int → Bool := fun k => bif whole then withinB (bx k) b else meetB (bx k) b
  have hbx : ∀ (j : Nat) (hj : j < d.Nodes.length), page_view_boxOf (viewD d) (j : Int) = some (bx (j : Int), 0) ∧ ref_BoxOfNode d d.Nodes[j].Id = some (bx (j : Int), 0) ∧ okB (bx (j : Int)) := fun j hj => by
    obtain ⟨b, b1, b2, b3⟩ := h.box j hj
    have e : bx (j : Int) = b := by show ((page_view_boxOf (viewD d) (j : Int)).getD (zeroB, 0)).1 = b; rw [b1]; rfl
    rw [e]; exact ⟨b1, b2, b3⟩
  rw [order_eq h, Option.bind_some, rfor_gather (l := ordT d.Nodes) (fun k => if inQ k = true then [(gx d.Nodes k).Id] else []) [] (fun a _ => by split <;> simp) (by simp; omega) (fun i s hi hs => by
    obtain ⟨j, hj, hj2⟩ := ordT_mem h (gx_mem hi)
    obtain ⟨b1, b2, b3⟩ := hbx j hj2
    have hin : inR d.Nodes (j : Int) := ⟨by omega, by omega⟩
    unfold page_In_L1
    rw [need_of hi, bnd_eq, hj, view_box b1, Option.bind_some, Common_eq b3 hbk, Option.bind_some]
    have hQ : inQ (j : Int) = bif whole then withinB (bx (j : Int)) b else meetB (bx (j : Int)) b := rfl
    rw [hQ, ← within_eq b3]
    cases hm : meetB (bx (j : Int)) b with
    | false =>
      cases whole <;> simp [gd]
    | true =>
      simp only [if_true, Bool.true_and]
      cases whole with
      | false =>
        simp only [Bool.not_false, Bool.not_true, gd, cond_false, Option.bind_some, Bool.true_or, cond_true, if_true]
        rw [need_of hin, need_of (by show _ ≤ _; simp; omega)]
      | true =>
        simp only [Bool.not_true, Bool.not_false, gd_true, Option.bind_some, Bool.false_or, cond_true]
        by_cases hq : cmB (bx (j : Int)) b = bx (j : Int)
        · rw [decide_eq_true hq, cond_true, need_of hin, need_of (by show _ ≤ _; simp; omega)]; rfl
        · rw [decide_eq_false hq]; simp), Option.bind_some]
  refine ⟨_, rfl, ?_⟩
  let inQ' : Str → Bool := fun id => bif decide (nodeAt d.Nodes id < 0) then false else inQ (nodeAt d.Nodes id)
  have href : ref_InBox d b whole = some ((idL d.Nodes (ordT d.Nodes) ++ d.Edges.map (·.Id)).flatMap (fun id => if inQ' id = true then [id] else [])) := by
    unfold ref_InBox
    rw [OrderOf_eq h, Option.bind_some, rfor_gather (l := idL d.Nodes (ordT d.Nodes) ++ d.Edges.map (·.Id)) (fun id => if inQ' id = true then [id] else []) [] (fun a _ => by split <;> simp) (by simp [idL]; omega) (fun i s hi hs => by
      unfold ref_InBox_L1
      rw [need_of hi, bnd_eq, NodeAt_eq (by omega), Option.bind_some]
      generalize gx (idL d.Nodes (ordT d.Nodes) ++ d.Edges.map (·.Id)) i = id
      have hQ' : inQ' id = bif decide (nodeAt d.Nodes id < 0) then false else inQ (nodeAt d.Nodes id) := rfl
      rw [hQ']
      by_cases hn : nodeAt d.Nodes id < 0
      · rw [decide_eq_true hn]; simp
      · obtain ⟨j, hj, ha, rfl⟩ := nodeAt_nat hn
        obtain ⟨b1, b2, b3⟩ := hbx j hj
        rw [decide_eq_false hn, cond_false, cond_false, b2, Option.bind_some, CommonOf_eq b3 hbk, Option.bind_some, ha]
        have hQ : inQ (j : Int) = bif whole then withinB (bx (j : Int)) b else meetB (bx (j : Int)) b := rfl
        rw [hQ]
        obtain ⟨x1, x2, y1, y2, w1, w2, g1, g2⟩ := id b3
        obtain ⟨x3, x4, y3, y4, w3, w4, g3, g4⟩ := id hbk
        rw [Wk (n := (bx (j : Int)).X + (bx (j : Int)).W_) (by omega) (by omega), Wk (n := (bx (j : Int)).Y + (bx (j : Int)).H) (by omega) (by omega), Wk (n := b.X + b.W_) (by omega) (by omega), Wk (n := b.Y + b.H) (by omega) (by omega)]
        have hw : (decide (b.X ≤ (bx (j : Int)).X) && decide (b.Y ≤ (bx (j : Int)).Y) && decide ((bx (j : Int)).X + (bx (j : Int)).W_ ≤ b.X + b.W_) && decide ((bx (j : Int)).Y + (bx (j : Int)).H ≤ b.Y + b.H)) = withinB (bx (j : Int)) b := rfl
        rw [hw]
        have hme : (if meetB (bx (j : Int)) b = true then (cmB (bx (j : Int)) b, true) else (zeroB, false)).2 = meetB (bx (j : Int)) b := by cases meetB (bx (j : Int)) b <;> rfl
        rw [hme]
        cases whole with
        | true =>
          simp only [Bool.true_and, Bool.not_true, Bool.false_and, Bool.or_false, cond_true]
          cases withinB (bx (j : Int)) b with
          | true => rw [cond_true, need_of (by show _ ≤ _; simp; omega)]; rfl
          | false => simp
        | false =>
          simp only [Bool.false_and, Bool.not_false, Bool.true_and, Bool.false_or, cond_false]
          cases meetB (bx (j : Int)) b with
          | true => rw [cond_true, need_of (by show _ ≤ _; simp; omega)]; rfl
          | false => simp), Option.bind_some]
    simp
  unfold law_LooksMatch_5
  rw [href, Option.bind_some, List.nil_append]
  have hsame : (idL d.Nodes (ordT d.Nodes) ++ d.Edges.map (·.Id)).flatMap (fun id => if inQ' id = true then [id] else []) = (ordT d.Nodes).flatMap (fun k => if inQ k = true then [(gx d.Nodes k).Id] else []) := by
    rw [List.flatMap_append]
    have hed : (d.Edges.map (·.Id)).flatMap (fun id => if inQ' id = true then [id] else []) = [] := by
      rw [List.flatMap_eq_nil_iff]
      intro id hid
      obtain ⟨x, hx, rfl⟩ := List.mem_map.1 hid
      obtain ⟨i, hi, rfl⟩ := List.mem_iff_getElem.1 hx
      have hn := edge_new h hi
      have : inQ' d.Edges[i].Id = false := by
        show (bif decide (nodeAt d.Nodes d.Edges[i].Id < 0) then false else _) = false
        rw [decide_eq_true hn]; rfl
      rw [this]; simp
    rw [hed, List.append_nil]
    unfold idL
    rw [List.flatMap_map]
    refine congrArg List.flatten (List.map_congr_left fun k hk => ?_)
    obtain ⟨j, rfl, hj⟩ := ordT_mem h hk
    have ha := nodeAt_of h.hd hj
    have : inQ' (gx d.Nodes (j : Int)).Id = inQ (j : Int) := by
      show (bif decide (nodeAt d.Nodes (gx d.Nodes (j : Int)).Id < 0) then false else inQ (nodeAt d.Nodes (gx d.Nodes (j : Int)).Id)) = _
      rw [gx_nat hj, ha, decide_eq_false (by omega)]; rfl
    rw [this]
  rw [hsame]
  refine listsS_ok ?_
  rw [filter_flat, List.length_map]
  exact Nat.le_trans (List.length_filter_le _ _) (by omega)
theorem Concat3 {a b c : List Point} (h : a.length + b.length + c.length ≤ 100000) : slices_Concat_Point [a, b, c] = some (a ++ b ++ c) := by
  unfold slices_Concat_Point
  rw [rfor_eq (by simp)]
  have e3 : (([a, b, c] : List (List Point)).length : Int).toNat = 3 := rfl
  rw [e3]
  have st1 : ∀ (i : Nat) (x : List Point) (s : Int), ([a, b, c] : List (List Point))[i]? = some x → 0 ≤ s → s + x.length ≤ 1000000 → slices_Concat_Point_L1 [a, b, c] (i : Int) s = some (s + x.length) := fun i x s hi h0 h1 => by
    have hlt := (List.getElem?_eq_some_iff.1 hi).1
    have hx := (List.getElem?_eq_some_iff.1 hi).2
    unfold slices_Concat_Point_L1
    rw [need_of ⟨by omega, by omega⟩, gx_nat hlt, hx, bnd_eq, Wk (by omega) (by omega), decide_eq_false (by omega)]; rfl
  have st2 : ∀ (i : Nat) (x : List Point) (s : List Point), ([a, b, c] : List (List Point))[i]? = some x → s.length + x.length ≤ 1000000 → slices_Concat_Point_L2 [a, b, c] (i : Int) s = some (s ++ x) := fun i x s hi h1 => by
    have hlt := (List.getElem?_eq_some_iff.1 hi).1
    have hx := (List.getElem?_eq_some_iff.1 hi).2
    unfold slices_Concat_Point_L2
    rw [need_of ⟨by omega, by omega⟩, gx_nat hlt, hx, need_of (by show _ ≤ _; omega)]
  have r1 : rgo (slices_Concat_Point_L1 [a, b, c]) 3 0 0 = some ((0 : Int) + a.length + b.length + c.length) := by
    simp only [rgo]
    rw [show (0 : Int) = ((0 : Nat) : Int) from rfl, st1 0 a _ rfl (by omega) (by omega)]
    simp only
    rw [show ((0 : Nat) : Int) + 1 = ((1 : Nat) : Int) from rfl, st1 1 b _ rfl (by omega) (by omega)]
    simp only
    rw [show ((1 : Nat) : Int) + 1 = ((2 : Nat) : Int) from rfl, st1 2 c _ rfl (by omega) (by omega)]
  rw [r1, Option.bind_some]
  unfold slices_Grow_Point
  rw [need_of ⟨by omega, by omega⟩, Option.bind_some, rfor_eq (by simp), e3]
  have r2 : rgo (slices_Concat_Point_L2 [a, b, c]) 3 0 [] = some (a ++ b ++ c) := by
    simp only [rgo]
    rw [show (0 : Int) = ((0 : Nat) : Int) from rfl, st2 0 a _ rfl (by simp; omega)]
    simp only
    rw [show ((0 : Nat) : Int) + 1 = ((1 : Nat) : Int) from rfl, st2 1 b _ rfl (by simp; omega)]
    simp only
    rw [show ((1 : Nat) : Int) + 1 = ((2 : Nat) : Int) from rfl, st2 2 c _ rfl (by simp; omega)]
    simp
  rw [r2]; rfl
theorem port_same {d : Doc} (h : Right d) {y : DEnd} (hy : endErr d.Nodes y = 0) : ∃ q, page_view_port (viewD d) y = some q ∧ ref_PortPoint d y = some q := by
  obtain ⟨h1, h2, h3, h4⟩ := endErr_zero hy
  obtain ⟨j, hj, ha, he⟩ := nodeAt_nat h1
  have hnl := h.nl
  have hat := h.at (List.getElem_mem hj)
  rw [ha, gx_nat hj] at h2
  obtain ⟨q, q1, q2, _⟩ := port_both (k := d.Nodes[j].Kind) (hat.2.2 h2) (by have := hat.2.1; omega) h3.1 h3.2 h4.1 h4.2
  refine ⟨q, ?_, ?_⟩
  · unfold page_view_port
    rw [bnd_eq, view_node ⟨_, List.getElem_mem hj, he⟩, ha, gx_nat hj, Option.bind_some, q1]; rfl
  · unfold ref_PortPoint
    rw [bnd_eq, NodeAt_eq (by omega), Option.bind_some, ha, need_of ⟨by omega, by omega⟩, bnd_eq, gx_nat hj, q2]; rfl
/-- The place of an edge, or -1. -/
def edgeAt (l : List DEdge) (id : Str) : Int := match l.findIdx? (fun n => decide (n.Id = id)) with | some i => (i : Int) | none => -1
theorem EdgeAt_eq {d : Doc} (hl : (d.Edges.length : Int) ≤ 9223372036854775807) (id : Str) : ref_EdgeAt d id = some (edgeAt d.Edges id) := by
  unfold ref_EdgeAt
  rw [IndexFunc_Edge_eq d.Edges (fun x0 => ref_EdgeAt_1 x0 id) (fun n => decide (n.Id = id)) hl (fun x _ => rfl)]
  rfl
theorem edgeAt_nat {l : List DEdge} {id : Str} (h : ¬ edgeAt l id < 0) : ∃ i : Nat, i < l.length ∧ edgeAt l id = i := by
  unfold edgeAt at *
  cases hq : l.findIdx? (fun n => decide (n.Id = id)) with
  | none => rw [hq] at h; simp at h
  | some i =>
    obtain ⟨hi, _, _⟩ := List.findIdx?_eq_some_iff_getElem.1 hq
    exact ⟨i, hi, rfl⟩
theorem Line_part {d : Doc} {e : Int} (hc : page_Check d = some e) (hr : e = 0 → Right d) (id : Str) : ∃ r, page_Line d id = some r ∧ law_lists_Point r.1 r.2 (firstErr [e, if edgeAt d.Edges id < 0 then 10 else 0]) (law_LooksMatch_6 d (edgeAt d.Edges id)) = some true := by
  unfold page_Line
  by_cases he : e = 0
  case neg =>
    rw [look_bad hc he, Option.bind_some, decide_eq_false he]
    refine ⟨_, rfl, ?_⟩
    have : firstErr [e, if edgeAt d.Edges id < 0 then 10 else 0] = e := by simp [he]
    rw [this]
    exact listsP_bad he _
  subst he
  have h := hr rfl
  have hel := h.el
  have hnl := h.nl
  rw [look_ok hc h, Option.bind_some]
  simp only [decide_true, Bool.not_true, cond_false, Option.bind_some]
  have hix : slices_IndexFunc_Edge d.Edges (fun x0 => page_Line_1 x0 id) = some (edgeAt d.Edges id) := by
    rw [IndexFunc_Edge_eq d.Edges (fun x0 => page_Line_1 x0 id) (fun n => decide (n.Id = id)) (by omega) (fun x _ => rfl)]; rfl
  rw [hix, Option.bind_some]
  by_cases hn : edgeAt d.Edges id < 0
  · rw [decide_eq_true hn, if_pos hn]
    exact ⟨_, rfl, listsP_bad (e := 10) (by decide) _⟩
  · obtain ⟨i, hi, ha⟩ := edgeAt_nat hn
    have hin : inR d.Edges (i : Int) := ⟨by omega, by omega⟩
    obtain ⟨_, z1, z2, z3⟩ := edgeErr_zero (h.edge i hi)
    obtain ⟨q, q1, q2⟩ := port_same h z1
    obtain ⟨r, r1, r2⟩ := port_same h z2
    rw [decide_eq_false hn, cond_false, if_neg hn, ha, need_of hin, gx_nat hi, bnd_eq, q1, Option.bind_some, r1, Option.bind_some, Concat3 (by simp; omega), Option.bind_some]
    refine ⟨_, rfl, ?_⟩
    unfold law_LooksMatch_6
    rw [need_of hin, gx_nat hi]
    unfold ref_LineOf
    rw [q2, Option.bind_some, need_of (by show _ ≤ _; simp; omega), bnd_eq, r2, Option.bind_some, need_of (by show _ ≤ _; simp; omega), Option.bind_some]
    exact listsP_ok (by simp; omega)
end Go.DB
