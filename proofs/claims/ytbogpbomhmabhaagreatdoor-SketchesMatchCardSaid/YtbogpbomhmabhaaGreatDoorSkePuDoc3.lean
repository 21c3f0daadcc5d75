/-
  Diagrams, in plain words: the boxes of nodes.
-/
import Derived.Test.YtbogpbomhmabhaaGreatDoorSkePuDoc2
set_option linter.unusedSimpArgs false
set_option linter.unusedVariables false
namespace Go.DB
open Go Go.RowKit

def zeroB : Box := ⟨0, 0, 0, 0⟩
theorem gboxes_eq {l : List Box} (hl : (l.length : Int) ≤ 9223372036854775807) : geom_boxes l = some (firstErr (l.map boxErr)) := by
  unfold geom_boxes
  rw [rforE_err boxErr (fun e => (Res.ab e : Res Unit Int)) hl (fun i hi => by
    unfold geom_boxes_L1
    rw [need_of hi, bnd_eq, CheckBox_eq, Option.bind_some]
    by_cases h : boxErr (gx l i) = 0 <;> simp [h])]
  by_cases h : firstErr (l.map boxErr) = 0 <;> simp [h]
theorem hull_both {l : List Box} (hok : ∀ b ∈ l, okB b) (hl : l.length ≤ 1000) : ∃ b e, geom_Hull l = some (b, e) ∧ ref_HullOf l = some (b, e) ∧ (e = 0 → okB b) := by
  unfold geom_Hull ref_HullOf
  simp only [bnd_eq]
  rw [decide_eq_false (show ¬ (1000 : Int) < (l.length : Int) by omega), gboxes_eq (by omega)]
  have hz : firstErr (l.map boxErr) = 0 := firstErr_zero.2 (fun e he => by
    obtain ⟨b, hb, rfl⟩ := List.mem_map.1 he
    exact boxErr_zero.2 (hok b hb))
  rw [hz]
  simp only [cond_false, Option.bind_some, decide_true, Bool.not_true]
  by_cases h0 : l = []
  · subst h0
    refine ⟨zeroB, 9, rfl, rfl, fun h => by cases h⟩
  have hpos : 0 < l.length := List.length_pos_iff.2 h0
  rw [decide_eq_false (show ¬ (l.length : Int) = 0 by omega)]
  have hin : inR l 0 := ⟨by omega, by omega⟩
  simp only [cond_false, need_of hin]
  obtain ⟨s, t, h1, h2, h3⟩ := rfor_inv2 (n := (l.length : Int)) (step := geom_Hull_L1 l) (step' := ref_HullOf_L1 l) (s0 := gx l 0) (t0 := ((gx l 0).X, (gx l 0).Y, (gx l 0).X, (gx l 0).Y))
    (fun k s t => (k = 0 ∧ s = gx l 0 ∧ t = ((gx l 0).X, (gx l 0).Y, (gx l 0).X, (gx l 0).Y)) ∨ (s = ⟨t.1, t.2.1, t.2.2.1 - t.1, t.2.2.2 - t.2.1⟩ ∧ -1000000 ≤ t.1 ∧ t.1 ≤ 1000000 ∧ -1000000 ≤ t.2.1 ∧ t.2.1 ≤ 1000000 ∧ t.1 < t.2.2.1 ∧ t.2.2.1 ≤ 1020000 ∧ t.2.1 < t.2.2.2 ∧ t.2.2.2 ≤ 1020000))
    (by omega) (.inl ⟨rfl, rfl, rfl⟩) (fun i s t hi hI => by
      have hi' : i < l.length := by omega
      have hb := hok _ (List.getElem_mem hi')
      unfold geom_Hull_L1 ref_HullOf_L1
      rw [need_of ⟨by omega, by omega⟩, need_of ⟨by omega, by omega⟩, gx_nat hi']
      simp only [bnd_eq]
      refine ⟨_, _, rfl, rfl, .inr ?_⟩
      have hv0 : i = 0 → l[i] = gx l 0 := fun h => by subst h; exact (gx_nat hi').symm
      generalize l[i] = v at *
      obtain ⟨x1, x2, y1, y2, w1, w2, g1, g2⟩ := hb
      rcases hI with ⟨rfl, rfl, rfl⟩ | ⟨rfl, c1, c2, c3, c4, c5, c6, c7, c8⟩
      · rw [← hv0 rfl]
        simp only [Int.min_self]
        rw [Wk (n := v.X + v.W_) (by omega) (by omega), Wk (n := v.Y + v.H) (by omega) (by omega), Int.max_self, Int.max_self, show max v.X (v.X + v.W_) = v.X + v.W_ by omega, show max v.Y (v.Y + v.H) = v.Y + v.H by omega,
          Wk (n := v.X + v.W_ - v.X) (by omega) (by omega), Wk (n := v.Y + v.H - v.Y) (by omega) (by omega)]
        refine ⟨rfl, by omega, by omega, by omega, by omega, by omega, by omega, by omega, by omega⟩
      · have q1 : W (t.1 + (t.2.2.1 - t.1)) = t.2.2.1 := by rw [Wk (by omega) (by omega)]; omega
        have q2 : W (t.2.1 + (t.2.2.2 - t.2.1)) = t.2.2.2 := by rw [Wk (by omega) (by omega)]; omega
        have q3 : W (v.X + v.W_) = v.X + v.W_ := Wk (by omega) (by omega)
        have q4 : W (v.Y + v.H) = v.Y + v.H := Wk (by omega) (by omega)
        simp only [q1, q2, q3, q4]
        rw [Wk (n := max t.2.2.1 (v.X + v.W_) - min t.1 v.X) (by omega) (by omega), Wk (n := max t.2.2.2 (v.Y + v.H) - min t.2.1 v.Y) (by omega) (by omega)]
        refine ⟨rfl, by omega, by omega, by omega, by omega, by omega, by omega, by omega, by omega⟩)
  rw [h1, h2]
  simp only [Option.bind_some]
  rcases h3 with ⟨h, _⟩ | ⟨rfl, c1, c2, c3, c4, c5, c6, c7, c8⟩
  · have : (l.length : Int).toNat = l.length := by omega
    omega
  · rw [Wk (n := t.2.2.1 - t.1) (by omega) (by omega), Wk (n := t.2.2.2 - t.2.1) (by omega) (by omega)]
    by_cases h : 20000 < t.2.2.1 - t.1 ∨ 20000 < t.2.2.2 - t.2.1
    · have e : (decide (20000 < t.2.2.1 - t.1) || decide (20000 < t.2.2.2 - t.2.1)) = true := by simpa using h
      rw [e]
      exact ⟨zeroB, 4, rfl, rfl, fun h => by cases h⟩
    · have e : (decide (20000 < t.2.2.1 - t.1) || decide (20000 < t.2.2.2 - t.2.1)) = false := by simpa using h
      rw [e]
      refine ⟨_, 0, rfl, rfl, fun _ => ?_⟩
      unfold okB
      simp only
      omega
theorem grow_both {h : Box} (hh : okB h) : ∃ b e, geom_Grow h 10 = some (b, e) ∧ ref_BoxError (⟨W (h.X - 10), W (h.Y - 10), W (h.W_ + 20), W (h.H + 20)⟩ : Box) = some e ∧ (e = 0 → b = (⟨W (h.X - 10), W (h.Y - 10), W (h.W_ + 20), W (h.H + 20)⟩ : Box) ∧ okB b) := by
  obtain ⟨x1, x2, y1, y2, w1, w2, g1, g2⟩ := id hh
  unfold geom_Grow
  simp only [bnd_eq]
  have e2 : W (2 * 10) = 20 := Wk (by omega) (by omega)
  rw [CheckBox_eq, boxErr_zero.2 hh, BoxError_eq, e2]
  rw [Wk (n := h.X - 10) (by omega) (by omega), Wk (n := h.Y - 10) (by omega) (by omega), Wk (n := h.W_ + 20) (by omega) (by omega), Wk (n := h.H + 20) (by omega) (by omega)]
  simp only [Option.bind_some, decide_true, Bool.not_true, cond_false]
  have e3 : (decide ((10 : Int) < -20000) || decide ((20000 : Int) < 10)) = false := by decide
  rw [e3, cond_false]
  have e4 : (decide (h.W_ + 20 < 1) || decide (h.H + 20 < 1)) = false := by
    rw [decide_eq_false (by omega), decide_eq_false (by omega)]; rfl
  rw [e4, cond_false, CheckBox_eq, Option.bind_some]
  by_cases h0 : boxErr (⟨h.X - 10, h.Y - 10, h.W_ + 20, h.H + 20⟩ : Box) = 0
  · rw [h0]
    exact ⟨_, 0, rfl, rfl, fun _ => ⟨rfl, boxErr_zero.1 h0⟩⟩
  · rw [decide_eq_false h0]
    exact ⟨_, _, rfl, rfl, fun h => absurd h h0⟩

/-- One step of the two box functions. -/
theorem box_step {d : Doc} (hl : d.Nodes.length ≤ 500) (hd : (d.Nodes.map (·.Id)).Nodup) (hid : ∀ n ∈ d.Nodes, n.Id ≠ Str.nil) (hb : ∀ n ∈ d.Nodes, n.Kind ≠ 6 → okB n.Box)
    {i : Nat} (hi : i < d.Nodes.length) (R : Int → (Box × Int) × Box) (hR : ∀ c ∈ idxs d.Nodes d.Nodes[i].Id, (R c).1.2 = 0 → (R c).1.1 = (R c).2 ∧ okB (R c).2) :
    ∃ b e b', (e = 0 → b = b' ∧ okB b') ∧ ∀ (slf : Page_view × Int → Option (Box × Int)) (slf' : Doc × Str → Option (Box × Int)),
      (d.Nodes[i].Kind = 6 → ∀ c ∈ idxs d.Nodes d.Nodes[i].Id, slf (viewD d, c) = some (R c).1 ∧ slf' (d, (gx d.Nodes c).Id) = some ((R c).2, (R c).1.2)) →
      page_view_boxOf_body slf (viewD d, (i : Int)) = some (b, e) ∧ ref_BoxOfNode_body slf' (d, d.Nodes[i].Id) = some (b', e) := by
  have hin : inR d.Nodes (i : Int) := ⟨by omega, by omega⟩
  have hn := List.getElem_mem hi
  have hv : (viewD d).d.Nodes = d.Nodes := rfl
  have hvm : (viewD d).members = memM d.Nodes := rfl
  by_cases hk : d.Nodes[i].Kind = 6
  case neg =>
    refine ⟨d.Nodes[i].Box, 0, d.Nodes[i].Box, fun _ => ⟨rfl, hb _ hn hk⟩, fun slf slf' _ => ⟨?_, ?_⟩⟩
    · unfold page_view_boxOf_body
      simp only [bnd_eq]
      rw [hv, need_of hin, gx_nat hi, decide_eq_false hk]; rfl
    · unfold ref_BoxOfNode_body
      simp only [bnd_eq]
      rw [NodeAt_eq (by omega), nodeAt_of hd hi, Option.bind_some, need_of hin, gx_nat hi, decide_eq_false hk]; rfl
  generalize hks : idxs d.Nodes d.Nodes[i].Id = ks at *
  have hkl : ks.length ≤ 500 := by
    rw [← hks]; unfold idxs
    rw [List.length_map]
    refine Nat.le_trans (List.length_filter_le _ _) ?_
    simp; omega
  let err : Nat → Int := fun k => (R (gx ks (k : Int))).1.2
  let E := firstErr ((List.range ks.length).map err)
  -- the two loops
  have loop1 : ∀ (slf : Page_view × Int → Option (Box × Int)), (∀ c ∈ ks, slf (viewD d, c) = some (R c).1) →
      rforE (ks.length : Int) (page_view_boxOf_L1 slf (viewD d, (i : Int)) ks) (fun s => Res.nx s) ([] : List Box) = some (if E = 0 then Res.nx (ks.map (fun c => (R c).1.1)) else Res.ab (zeroB, E)) := fun slf hs => by
    have := rforE_errS (n := ks.length) (step := page_view_boxOf_L1 slf (viewD d, (i : Int)) ks) (fin := fun s => (Res.nx s : Res (List Box) (Box × Int))) (fun k => (ks.take k).map (fun c => (R c).1.1)) err (fun e => Res.ab (zeroB, e)) (by omega) (fun k hk _ => by
      unfold page_view_boxOf_L1
      have hink : inR ks (k : Int) := ⟨by omega, by omega⟩
      rw [need_of hink, hs _ (gx_mem hink), Option.bind_some]
      by_cases h : err k = 0
      · have h' : (R (gx ks (k : Int))).1.2 = 0 := h
        rw [if_pos h, h']
        simp only [decide_true, Bool.not_true, cond_false]
        rw [need_of (by show _ ≤ _; simp; omega), List.take_succ_eq_append_getElem hk, List.map_append, gx_nat hk]
        rfl
      · have h' : ¬ (R (gx ks (k : Int))).1.2 = 0 := h
        rw [if_neg h, decide_eq_false h']
        rfl)
    simp only [List.take_zero, List.map_nil, List.take_length] at this
    exact this
  have loop2 : ∀ (slf' : Doc × Str → Option (Box × Int)), (∀ c ∈ ks, slf' (d, (gx d.Nodes c).Id) = some ((R c).2, (R c).1.2)) →
      rforE ((ks.map (gx d.Nodes)).length : Int) (ref_BoxOfNode_L1 slf' (d, d.Nodes[i].Id) (ks.map (gx d.Nodes))) (fun s => Res.nx s) ([] : List Box) = some (if E = 0 then Res.nx (ks.map (fun c => (R c).2)) else Res.ab (zeroB, E)) := fun slf' hs => by
    rw [List.length_map]
    have := rforE_errS (n := ks.length) (step := ref_BoxOfNode_L1 slf' (d, d.Nodes[i].Id) (ks.map (gx d.Nodes))) (fin := fun s => (Res.nx s : Res (List Box) (Box × Int))) (fun k => (ks.take k).map (fun c => (R c).2)) err (fun e => Res.ab (zeroB, e)) (by omega) (fun k hk _ => by
      unfold ref_BoxOfNode_L1
      have hink : inR ks (k : Int) := ⟨by omega, by omega⟩
      have hg : gx (ks.map (gx d.Nodes)) (k : Int) = gx d.Nodes (gx ks (k : Int)) := by rw [gx_nat (by simpa using hk), gx_nat hk]; simp
      rw [need_of ⟨by omega, by simp; omega⟩, bnd_eq, hg, hs _ (gx_mem hink), Option.bind_some]
      by_cases h : err k = 0
      · have h' : (R (gx ks (k : Int))).1.2 = 0 := h
        rw [if_pos h, h']
        simp only [decide_true, Bool.not_true, cond_false]
        rw [need_of (by show _ ≤ _; simp; omega), List.take_succ_eq_append_getElem hk, List.map_append, gx_nat hk]
        rfl
      · have h' : ¬ (R (gx ks (k : Int))).1.2 = 0 := h
        rw [if_neg h, decide_eq_false h']
        rfl)
    simp only [List.take_zero, List.map_nil, List.take_length] at this
    exact this
  have hfil : d.Nodes.filter (fun n => decide (n.Parent = d.Nodes[i].Id)) = ks.map (gx d.Nodes) := by rw [← hks]; exact idxs_map.symm
  have r1 : ∀ slf, page_view_boxOf_body slf (viewD d, (i : Int)) = bindR (σ := (List Box)) (ρ := (Box × Int)) (rforE (ks.length : Int) (page_view_boxOf_L1 slf (viewD d, (i : Int)) ks) (fun s => Res.nx s) ([] : List Box)) fun j =>
      Option.bind (geom_Hull j) fun r2 => bif !decide (r2.2 = 0) then some (zeroB, r2.2) else Option.bind (geom_Grow r2.1 10) fun r3 => some (r3.1, r3.2) := fun slf => by
    unfold page_view_boxOf_body
    simp only [bnd_eq]
    rw [hv, hvm, need_of hin, gx_nat hi, decide_eq_true hk, memM_getD (hid _ hn), hks]
    rfl
  have r2 : ∀ slf', ref_BoxOfNode_body slf' (d, d.Nodes[i].Id) = bindR (σ := (List Box)) (ρ := (Box × Int)) (rforE ((ks.map (gx d.Nodes)).length : Int) (ref_BoxOfNode_L1 slf' (d, d.Nodes[i].Id) (ks.map (gx d.Nodes))) (fun s => Res.nx s) ([] : List Box)) fun j =>
      Option.bind (ref_HullOf j) fun r4 => bif !decide (r4.2 = 0) then some (zeroB, r4.2) else Option.bind (ref_BoxError (⟨W (r4.1.X - 10), W (r4.1.Y - 10), W (r4.1.W_ + 20), W (r4.1.H + 20)⟩ : Box)) fun r5 => some ((⟨W (r4.1.X - 10), W (r4.1.Y - 10), W (r4.1.W_ + 20), W (r4.1.H + 20)⟩ : Box), r5) := fun slf' => by
    unfold ref_BoxOfNode_body
    simp only [bnd_eq]
    rw [NodeAt_eq (by omega), nodeAt_of hd hi, Option.bind_some, need_of hin, gx_nat hi, decide_eq_true hk, members_eq hl, Option.bind_some, hfil]
    rfl
  by_cases hE : E = 0
  case neg =>
    refine ⟨zeroB, E, zeroB, fun h => absurd h hE, fun slf slf' hs => ?_⟩
    rw [r1, r2, loop1 slf (fun c hc => (hs hk c hc).1), loop2 slf' (fun c hc => (hs hk c hc).2), if_neg hE, if_neg hE]
    exact ⟨rfl, rfl⟩
  have hz : ∀ c ∈ ks, (R c).1.2 = 0 := fun c hc => by
    obtain ⟨k, hk', rfl⟩ := List.mem_iff_getElem.1 hc
    have := firstErr_zero.1 hE (err k) (List.mem_map.2 ⟨k, by simpa using hk', rfl⟩)
    show (R ks[k]).1.2 = 0
    rw [← gx_nat hk']; exact this
  have hsame : ks.map (fun c => (R c).1.1) = ks.map (fun c => (R c).2) := List.map_congr_left fun c hc => (hR c hc (hz c hc)).1
  obtain ⟨b, e, h1, h2, h3⟩ := hull_both (l := ks.map (fun c => (R c).2)) (fun b hb => by
    obtain ⟨c, hc, rfl⟩ := List.mem_map.1 hb
    exact (hR c hc (hz c hc)).2) (by simp; omega)
  by_cases he : e = 0
  case neg =>
    refine ⟨zeroB, e, zeroB, fun h => absurd h he, fun slf slf' hs => ?_⟩
    rw [r1, r2, loop1 slf (fun c hc => (hs hk c hc).1), loop2 slf' (fun c hc => (hs hk c hc).2), if_pos hE, if_pos hE, bindR_nx, bindR_nx, hsame, h1, h2, Option.bind_some, Option.bind_some, decide_eq_false he]
    exact ⟨rfl, rfl⟩
  obtain ⟨b2, e2, g1, g2, g3⟩ := grow_both (h3 he)
  refine ⟨b2, e2, _, fun h => ⟨(g3 h).1, (g3 h).1 ▸ (g3 h).2⟩, fun slf slf' hs => ?_⟩
  rw [r1, r2, loop1 slf (fun c hc => (hs hk c hc).1), loop2 slf' (fun c hc => (hs hk c hc).2), if_pos hE, if_pos hE, bindR_nx, bindR_nx, hsame, h1, h2, Option.bind_some, Option.bind_some, decide_eq_true he]
  simp only [Bool.not_true, cond_false]
  rw [g1, g2]
  exact ⟨rfl, rfl⟩

/-- How far a node is below the top. -/
def Dp (l : List DNode) (n : DNode) (m : Nat) : Prop := (anc l n m).Parent = Str.nil ∧ ∀ j, j < m → (anc l n j).Parent ≠ Str.nil
theorem Dp.uni {l : List DNode} {n : DNode} {m m' : Nat} (h : Dp l n m) (h' : Dp l n m') : m = m' := by
  rcases Nat.lt_trichotomy m m' with c | c | c
  · exact absurd h.1 (h'.2 m c)
  · exact c
  · exact absurd h'.1 (h.2 m' c)
theorem par_at {l : List DNode} (hd : (l.map (·.Id)).Nodup) {i : Nat} (hi : i < l.length) {c : DNode} (hc : c.Parent = l[i].Id) : par l c = l[i] := by
  unfold par
  rw [hc, nodeAt_of hd hi, gx_nat hi]
theorem anc_par {l : List DNode} {c : DNode} : ∀ k, anc l c (k + 1) = anc l (par l c) k
  | 0 => rfl
  | k + 1 => by
    show par l (anc l c (k + 1)) = par l (anc l (par l c) k)
    rw [anc_par k]
theorem Dp.kid {l : List DNode} {c : DNode} {m : Nat} (hc : c.Parent ≠ Str.nil) (h : Dp l (par l c) m) : Dp l c (m + 1) := by
  refine ⟨by rw [anc_par]; exact h.1, fun j hj => ?_⟩
  cases j with
  | zero => exact hc
  | succ j => rw [anc_par]; exact h.2 j (by omega)

/-- Boxes are found alike. -/
theorem box_both {d : Doc} (hl : d.Nodes.length ≤ 500) (hd : (d.Nodes.map (·.Id)).Nodup) (hid : ∀ n ∈ d.Nodes, n.Id ≠ Str.nil) (hb : ∀ n ∈ d.Nodes, n.Kind ≠ 6 → okB n.Box) (hdp : ∀ n ∈ d.Nodes, ∃ k, k ≤ 8 ∧ Dp d.Nodes n k)
    {i : Nat} (hi : i < d.Nodes.length) : ∃ b e b', page_view_boxOf (viewD d) (i : Int) = some (b, e) ∧ ref_BoxOfNode d d.Nodes[i].Id = some (b', e) ∧ (e = 0 → b = b' ∧ okB b') := by
  have key : ∀ (f m : Nat) (i : Nat) (hi : i < d.Nodes.length), Dp d.Nodes d.Nodes[i] m → 9 ≤ m + f → ∃ b e b', (e = 0 → b = b' ∧ okB b') ∧
      ∀ N, f ≤ N → fixN page_view_boxOf_body N (viewD d, (i : Int)) = some (b, e) ∧ fixN ref_BoxOfNode_body N (d, d.Nodes[i].Id) = some (b', e) := by
    intro f
    induction f with
    | zero =>
      intro m i hi hm hf
      obtain ⟨k, hk, hk2⟩ := hdp _ (List.getElem_mem hi)
      have := hm.uni hk2
      omega
    | succ f ih =>
      intro m i hi hm hf
      have hkid : ∀ c ∈ idxs d.Nodes d.Nodes[i].Id, ∃ (x : (Box × Int) × Box), (x.1.2 = 0 → x.1.1 = x.2 ∧ okB x.2) ∧ ∀ N, f ≤ N → fixN page_view_boxOf_body N (viewD d, c) = some x.1 ∧ fixN ref_BoxOfNode_body N (d, (gx d.Nodes c).Id) = some (x.2, x.1.2) := fun c hc => by
        obtain ⟨hin, hp⟩ := idxs_mem.1 hc
        obtain ⟨j, rfl⟩ : ∃ j : Nat, c = j := ⟨c.toNat, by have := hin.1; omega⟩
        have hj : j < d.Nodes.length := by have := hin.2; omega
        rw [gx_nat hj] at hp ⊢
        have hpe := par_at hd hi hp
        obtain ⟨b, e, b', h1, h2⟩ := ih (m + 1) j hj (Dp.kid (by rw [hp]; exact hid _ (List.getElem_mem hi)) (by rw [hpe]; exact hm)) (by omega)
        exact ⟨((b, e), b'), h1, h2⟩
      let R : Int → (Box × Int) × Box := fun c => if h : c ∈ idxs d.Nodes d.Nodes[i].Id then (hkid c h).choose else ((zeroB, 0), zeroB)
      have hR : ∀ c (h : c ∈ idxs d.Nodes d.Nodes[i].Id), R c = (hkid c h).choose := fun c h => dif_pos h
      obtain ⟨b, e, b', h1, h2⟩ := box_step hl hd hid hb hi R (fun c hc => by rw [hR c hc]; exact (hkid c hc).choose_spec.1)
      refine ⟨b, e, b', h1, fun N hN => ?_⟩
      obtain ⟨N, rfl⟩ : ∃ q, N = q + 1 := ⟨N - 1, by omega⟩
      exact h2 (fixN page_view_boxOf_body N) (fixN ref_BoxOfNode_body N) (fun _ c hc => by rw [hR c hc]; exact (hkid c hc).choose_spec.2 N (by omega))
  obtain ⟨k, hk, hk2⟩ := hdp _ (List.getElem_mem hi)
  obtain ⟨b, e, b', h1, h2⟩ := key 9 k i hi hk2 (by omega)
  exact ⟨b, e, b', fixp_of 9 (fun N hN => (h2 N hN).1), fixp_of 9 (fun N hN => (h2 N hN).2), h1⟩
end Go.DB
