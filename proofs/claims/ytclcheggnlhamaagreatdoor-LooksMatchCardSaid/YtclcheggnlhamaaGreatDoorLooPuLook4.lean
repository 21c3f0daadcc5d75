/-
  Right diagrams, in plain words: what is at a point, in a box, and along a line.
-/
import Derived.Test.YtclcheggnlhamaaGreatDoorLooPuLook3
set_option linter.unusedSimpArgs false
set_option linter.unusedVariables false
namespace Go.DB
open Go Go.RowKit

section
variable {d : Doc}
theorem edgeErr_zero {l : List DNode} {x : DEdge} {tw : Bool} (h : edgeErr l x tw = 0) : tw = false ∧ endErr l x.From = 0 ∧ endErr l x.To = 0 ∧ x.Bends.length ≤ 50 := by
  have := firstErr_zero.1 h
  have h2 := this (if tw = true then 6 else 0) (by simp)
  have h3 := this (endErr l x.From) (by simp)
  have h4 := this (endErr l x.To) (by simp)
  have h5 := this (if 50 < x.Bends.length then 4 else 0) (by simp)
  refine ⟨?_, h3, h4, ?_⟩
  · cases tw with
    | false => rfl
    | true => simp at h2
  · apply Classical.byContradiction; intro hc; rw [if_pos (by omega)] at h5; cases h5
theorem endErr_zero {l : List DNode} {y : DEnd} (h : endErr l y = 0) : ¬ nodeAt l y.Node < 0 ∧ (gx l (nodeAt l y.Node)).Kind ≠ 6 ∧ (1 ≤ y.Side ∧ y.Side ≤ 4) ∧ 0 ≤ y.At ∧ y.At ≤ 1000 := by
  unfold endErr at h
  split at h
  · cases h
  · rename_i h1
    split at h
    · cases h
    · rename_i h2
      split at h
      · rename_i h3; exact ⟨h1, h2, h3⟩
      · cases h
theorem edge_new (h : Right d) {i : Nat} (hi : i < d.Edges.length) : nodeAt d.Nodes d.Edges[i].Id < 0 := by
  have := (edgeErr_zero (h.edge i hi)).1
  have := of_decide_eq_false this
  rw [nodeAt_neg]
  intro n hn e
  exact this (List.mem_append_left _ (List.mem_map.2 ⟨n, hn, e⟩))
/-- The box of a node that is no group. -/
theorem box_leaf (h : Right d) {i : Nat} (hi : i < d.Nodes.length) (hk : d.Nodes[i].Kind ≠ 6) : ref_BoxOfNode d d.Nodes[i].Id = some (d.Nodes[i].Box, 0) :=
  fixp_of 1 (fun N hN => by
    obtain ⟨N, rfl⟩ : ∃ q, N = q + 1 := ⟨N - 1, by omega⟩
    show ref_BoxOfNode_body _ _ = _
    unfold ref_BoxOfNode_body
    simp only [bnd_eq]
    have hnl := h.nl
    rw [NodeAt_eq (by omega), nodeAt_of h.hd hi, Option.bind_some, need_of ⟨by omega, by omega⟩, gx_nat hi, decide_eq_false hk]; rfl)
end
/-- Whether a point is in a box. -/
def inB (b : Box) (p : Point) : Bool := decide (b.X ≤ p.X ∧ p.X ≤ b.X + b.W_) && decide (b.Y ≤ p.Y ∧ p.Y ≤ b.Y + b.H)
theorem has_box {b : Box} (hb : okB b) {p : Point} (hp : okP p) : ∃ r, shape_has 1 b p = some r ∧ decide (0 ≤ r) = inB b p := by
  obtain ⟨x1, x2, y1, y2, w1, w2, g1, g2⟩ := hb
  obtain ⟨p1, p2, p3, p4⟩ := hp
  unfold shape_has
  simp only [bnd_eq]
  rw [Wk (n := p.X - b.X) (by omega) (by omega), Wk (n := p.Y - b.Y) (by omega) (by omega)]
  by_cases hin : (b.X ≤ p.X ∧ p.X ≤ b.X + b.W_) ∧ b.Y ≤ p.Y ∧ p.Y ≤ b.Y + b.H
  · have e : (decide (p.X - b.X < 0) || decide (b.W_ < p.X - b.X) || decide (p.Y - b.Y < 0) || decide (b.H < p.Y - b.Y)) = false := by simp; omega
    have e2 : inB b p = true := by unfold inB; rw [decide_eq_true hin.1, decide_eq_true hin.2]; rfl
    rw [e, e2, cond_false]
    cases (decide (p.X - b.X = 0) || decide (p.X - b.X = b.W_) || decide (p.Y - b.Y = 0) || decide (p.Y - b.Y = b.H)) with
    | true => exact ⟨0, by simp, by simp⟩
    | false => exact ⟨1, by simp, by simp⟩
  · have e : (decide (p.X - b.X < 0) || decide (b.W_ < p.X - b.X) || decide (p.Y - b.Y < 0) || decide (b.H < p.Y - b.Y)) = true := by
      simp only [Bool.or_eq_true, decide_eq_true_eq]; omega
    have e2 : inB b p = false := by
      unfold inB
      rw [Bool.and_eq_false_iff, decide_eq_false_iff_not, decide_eq_false_iff_not]
      omega
    rw [e, e2, cond_true]
    exact ⟨-1, rfl, by simp⟩
theorem Has_eq {k : Int} {b : Box} {p : Point} (hk : 1 ≤ k ∧ k ≤ 5) (hb : okB b) (hp : okP p) : shape_Has k b p = Option.bind (shape_has k b p) fun r => some (r, 0) := by
  unfold shape_Has shape_isKind
  rw [decide_eq_true hk.1, decide_eq_true hk.2, CheckBox_eq, boxErr_zero.2 hb, CheckPoint_eq, ptErr_zero.2 hp]
  rfl
theorem Hit_part {d : Doc} {e : Int} (hc : page_Check d = some e) (hr : e = 0 → Right d) (p : Point) : ∃ r, page_Hit d p = some r ∧ law_is_string r.1 r.2 (firstErr [e, ptErr p]) (law_LooksMatch_4 d p) = some true := by
  unfold page_Hit
  by_cases he : e = 0
  case neg =>
    rw [look_bad hc he, Option.bind_some, decide_eq_false he]
    refine ⟨_, rfl, ?_⟩
    have : firstErr [e, ptErr p] = e := by simp [he]
    rw [this]
    exact isS_bad he _
  subst he
  have h := hr rfl
  rw [look_ok hc h, Option.bind_some]
  simp only [decide_true, Bool.not_true, cond_false, Option.bind_some]
  rw [CheckPoint_eq, Option.bind_some]
  have hfe : firstErr [0, ptErr p] = ptErr p := by by_cases hq : ptErr p = 0 <;> simp [hq]
  rw [hfe]
  by_cases hp : ptErr p = 0
  case neg =>
    rw [decide_eq_false hp]
    exact ⟨_, rfl, isS_bad hp _⟩
  rw [decide_eq_true hp, hp]
  have hpk := ptErr_zero.1 hp
  have hlen := ordT_len h
  have hel := h.el
  have hnl := h.nl
  simp only [Bool.not_true, cond_false]
  -- one step
  let bx : Int → Box := fun k => ((page_view_boxOf (viewD d) k).getD (zeroB, 0)).1
  let st : Str × Str → Int → Str × Str := fun s k =>
    if (gx d.Nodes k).Kind ≠ 6 then (if 0 ≤ (shape_has (gx d.Nodes k).Kind (gx d.Nodes k).Box p).getD 0 then ((gx d.Nodes k).Id, s.2) else s)
    else (if inB (bx k) p = true then (s.1, (gx d.Nodes k).Id) else s)
  have hbx : ∀ (j : Nat) (hj : j < d.Nodes.length), page_view_boxOf (viewD d) (j : Int) = some (bx (j : Int), 0) ∧ ref_BoxOfNode d d.Nodes[j].Id = some (bx (j : Int), 0) ∧ okB (bx (j : Int)) := fun j hj => by
    obtain ⟨b, b1, b2, b3⟩ := h.box j hj
    have e : bx (j : Int) = b := by show ((page_view_boxOf (viewD d) (j : Int)).getD (zeroB, 0)).1 = b; rw [b1]; rfl
    rw [e]; exact ⟨b1, b2, b3⟩
  rw [order_eq h, Option.bind_some, rfor_fold (l := ordT d.Nodes) st (by omega) (fun i s hi => by
    obtain ⟨j, hj, hj2⟩ := ordT_mem h (gx_mem hi)
    unfold page_Hit_L1
    rw [need_of hi, bnd_eq, hj, need_of ⟨by omega, by omega⟩, bnd_eq]
    have hst : st s (j : Int) = if d.Nodes[j].Kind ≠ 6 then (if 0 ≤ (shape_has d.Nodes[j].Kind d.Nodes[j].Box p).getD 0 then (d.Nodes[j].Id, s.2) else s) else (if inB (bx (j : Int)) p = true then (s.1, d.Nodes[j].Id) else s) := by
      show (if (gx d.Nodes (j : Int)).Kind ≠ 6 then _ else _) = _
      rw [gx_nat hj2]
    rw [hst, gx_nat hj2]
    have hat := h.at (List.getElem_mem hj2)
    by_cases hk : d.Nodes[j].Kind = 6
    · obtain ⟨b1, b2, b3⟩ := hbx j hj2
      obtain ⟨r, r1, r2⟩ := has_box b3 hpk
      rw [decide_eq_true hk, Bool.not_true, cond_false, view_box b1, Option.bind_some, Has_eq (by decide) b3 hpk, r1, Option.bind_some, Option.bind_some, r2, if_neg (fun hh => hh hk)]
      cases inB (bx (j : Int)) p <;> rfl
    · have hkk : 1 ≤ d.Nodes[j].Kind ∧ d.Nodes[j].Kind ≤ 5 := by have := hat.2.1; omega
      have hb := hat.2.2 hk
      obtain ⟨r, r1, _⟩ := has_both (k := d.Nodes[j].Kind) (p := p) hb (by have := hpk.1; omega) (by have := hpk.2.1; omega) (by have := hpk.2.2.1; omega) (by have := hpk.2.2.2; omega)
      rw [decide_eq_false hk, Bool.not_false, cond_true, Has_eq hkk hb hpk, r1, Option.bind_some, Option.bind_some, if_pos hk, Option.getD_some]
      by_cases h0 : 0 ≤ r
      · rw [decide_eq_true h0, if_pos h0]; rfl
      · rw [decide_eq_false h0, if_neg h0]; rfl), Option.bind_some]
  -- the reference
  let st' : Str × Str → Str → Str × Str := fun s id => if nodeAt d.Nodes id < 0 then s else st s (nodeAt d.Nodes id)
  have href : ref_HitOf d p = some (if (List.foldl st (Str.nil, Str.nil) (ordT d.Nodes)).1 ≠ Str.nil then (List.foldl st (Str.nil, Str.nil) (ordT d.Nodes)).1 else (List.foldl st (Str.nil, Str.nil) (ordT d.Nodes)).2) := by
    unfold ref_HitOf
    rw [OrderOf_eq h, Option.bind_some, rfor_fold (l := idL d.Nodes (ordT d.Nodes) ++ d.Edges.map (·.Id)) st' (by simp [idL]; omega) (fun i s hi => by
      unfold ref_HitOf_L1
      rw [need_of hi, bnd_eq, NodeAt_eq (by omega), Option.bind_some]
      generalize hid : gx (idL d.Nodes (ordT d.Nodes) ++ d.Edges.map (·.Id)) i = id
      show _ = some (if nodeAt d.Nodes id < 0 then s else st s (nodeAt d.Nodes id))
      by_cases hn : nodeAt d.Nodes id < 0
      · rw [decide_eq_true hn, if_pos hn]; rfl
      · obtain ⟨j, hj, ha, rfl⟩ := nodeAt_nat hn
        obtain ⟨b1, b2, b3⟩ := hbx j hj
        have hat := h.at (List.getElem_mem hj)
        have hin : inR d.Nodes (j : Int) := ⟨by omega, by omega⟩
        rw [decide_eq_false hn, if_neg hn, cond_false, b2, Option.bind_some, ha, need_of hin, need_of (fun _ => hin), gx_nat hj]
        have hst : st s (j : Int) = if d.Nodes[j].Kind ≠ 6 then (if 0 ≤ (shape_has d.Nodes[j].Kind d.Nodes[j].Box p).getD 0 then (d.Nodes[j].Id, s.2) else s) else (if inB (bx (j : Int)) p = true then (s.1, d.Nodes[j].Id) else s) := by
          show (if (gx d.Nodes (j : Int)).Kind ≠ 6 then _ else _) = _
          rw [gx_nat hj]
        rw [hst]
        by_cases hk : d.Nodes[j].Kind = 6
        · obtain ⟨x1, x2, y1, y2, w1, w2, g1, g2⟩ := b3
          rw [if_neg (fun hh => hh hk), decide_eq_true hk]
          simp only [Bool.not_true, gd, cond_false, cond_true, Option.bind_some, Bool.false_and, Bool.true_and]
          rw [need_of hin, In_eq, Option.bind_some, Wk (n := (bx (j : Int)).X + (bx (j : Int)).W_) (by omega) (by omega), Wk (n := (bx (j : Int)).Y + (bx (j : Int)).H) (by omega) (by omega), In_eq]
          have e : inB (bx (j : Int)) p = (decide ((bx (j : Int)).X ≤ p.X ∧ p.X ≤ (bx (j : Int)).X + (bx (j : Int)).W_) && decide ((bx (j : Int)).Y ≤ p.Y ∧ p.Y ≤ (bx (j : Int)).Y + (bx (j : Int)).H)) := rfl
          rw [e]
          cases decide ((bx (j : Int)).X ≤ p.X ∧ p.X ≤ (bx (j : Int)).X + (bx (j : Int)).W_) with
          | false => rfl
          | true =>
            simp only [cond_true, Option.bind_some, Bool.true_and]
            cases decide ((bx (j : Int)).Y ≤ p.Y ∧ p.Y ≤ (bx (j : Int)).Y + (bx (j : Int)).H) <;> rfl
        · have hb := hat.2.2 hk
          have hbe : bx (j : Int) = d.Nodes[j].Box := by
            have := box_leaf h hj hk
            rw [b2] at this
            simpa using this
          obtain ⟨r, r1, r2⟩ := has_both (k := d.Nodes[j].Kind) (p := p) hb (by have := hpk.1; omega) (by have := hpk.2.1; omega) (by have := hpk.2.2.1; omega) (by have := hpk.2.2.2; omega)
          rw [decide_eq_false hk, if_pos hk, hbe, r2, r1, Option.getD_some]
          simp only [Bool.not_false, gd_true, Option.bind_some, Bool.true_and]
          by_cases h0 : 0 ≤ r
          · rw [decide_eq_true h0, if_pos h0]; rfl
          · rw [decide_eq_false h0, if_neg h0, cond_false, need_of hin]
            simp [gd]), Option.bind_some]
    have hfold : List.foldl st' (Str.nil, Str.nil) (idL d.Nodes (ordT d.Nodes) ++ d.Edges.map (·.Id)) = List.foldl st (Str.nil, Str.nil) (ordT d.Nodes) := by
      rw [List.foldl_append]
      have hedges : ∀ (l : List DEdge) (s : Str × Str), (∀ x ∈ l, nodeAt d.Nodes x.Id < 0) → List.foldl st' s (l.map (·.Id)) = s := by
        intro l
        induction l with
        | nil => intro s _; rfl
        | cons x l ih =>
          intro s hx
          rw [List.map_cons, List.foldl_cons]
          have : st' s x.Id = s := if_pos (hx x (by simp))
          rw [this]
          exact ih s (fun y hy => hx y (by simp [hy]))
      rw [hedges _ _ (fun x hx => by
        obtain ⟨i, hi, rfl⟩ := List.mem_iff_getElem.1 hx
        exact edge_new h hi)]
      have hnodes : ∀ (l : List Int) (s : Str × Str), (∀ x ∈ l, ∃ j : Nat, x = j ∧ j < d.Nodes.length) → List.foldl st' s (idL d.Nodes l) = List.foldl st s l := by
        intro l
        induction l with
        | nil => intro s _; rfl
        | cons x l ih =>
          intro s hx
          obtain ⟨j, rfl, hj⟩ := hx x (by simp)
          show List.foldl st' s ((gx d.Nodes (j : Int)).Id :: idL d.Nodes l) = _
          rw [List.foldl_cons, List.foldl_cons]
          have ha := nodeAt_of h.hd hj
          have : st' s (gx d.Nodes (j : Int)).Id = st s (j : Int) := by
            show (if nodeAt d.Nodes (gx d.Nodes (j : Int)).Id < 0 then s else st s (nodeAt d.Nodes (gx d.Nodes (j : Int)).Id)) = _
            rw [gx_nat hj, ha, if_neg (by omega)]
          rw [this]
          exact ih _ (fun y hy => hx y (by simp [hy]))
      exact hnodes _ _ (fun x hx => ordT_mem h hx)
    rw [hfold]
    by_cases h0 : (List.foldl st (Str.nil, Str.nil) (ordT d.Nodes)).1 = Str.nil
    · rw [decide_eq_true h0, if_neg (fun hh => hh h0)]; rfl
    · rw [decide_eq_false h0, if_pos h0]; rfl
  unfold law_LooksMatch_4
  rw [href]
  by_cases h0 : (List.foldl st (Str.nil, Str.nil) (ordT d.Nodes)).1 = Str.nil
  · rw [decide_eq_true h0, if_neg (fun hh => hh h0)]
    exact ⟨_, rfl, isS_ok⟩
  · rw [decide_eq_false h0, if_pos h0]
    exact ⟨_, rfl, isS_ok⟩
end Go.DB
