/-
  Selections that are aligned: both ways.
-/
import Derived.Test.YtclcheggnlhamaaGreatDoorMGBPuMove4
set_option linter.unusedSimpArgs false
set_option linter.unusedVariables false
namespace Go.DB
open Go Go.RowKit

/-- A hull has what it is the hull of. -/
theorem hull_has {l : List Box} (hok : ∀ b ∈ l, okB b) (hl : l.length ≤ 1000) {b : Box} (h : ref_HullOf l = some (b, 0)) : ∀ v ∈ l, b.X ≤ v.X ∧ b.Y ≤ v.Y ∧ v.X + v.W_ ≤ b.X + b.W_ ∧ v.Y + v.H ≤ b.Y + b.H := by
  unfold ref_HullOf at h
  simp only [bnd_eq] at h
  by_cases h0 : l = []
  · subst h0; intro v hv; cases hv
  have hpos : 0 < l.length := List.length_pos_iff.2 h0
  have hin : inR l 0 := ⟨by omega, by omega⟩
  rw [decide_eq_false (show ¬ (l.length : Int) = 0 by omega)] at h
  simp only [cond_false, need_of hin] at h
  have hg0 : okB (gx l 0) := hok _ (gx_mem hin)
  obtain ⟨s, h1, h2⟩ := rfor_inv (n := (l.length : Int)) (step := ref_HullOf_L1 l) (s0 := ((gx l 0).X, (gx l 0).Y, (gx l 0).X, (gx l 0).Y))
    (fun k s => (-1000000 ≤ s.1 ∧ s.1 ≤ 1000000 ∧ -1000000 ≤ s.2.1 ∧ s.2.1 ≤ 1000000 ∧ -1000000 ≤ s.2.2.1 ∧ s.2.2.1 ≤ 1020000 ∧ -1000000 ≤ s.2.2.2 ∧ s.2.2.2 ≤ 1020000) ∧ ∀ j : Nat, j < k → (hj : j < l.length) → s.1 ≤ l[j].X ∧ s.2.1 ≤ l[j].Y ∧ l[j].X + l[j].W_ ≤ s.2.2.1 ∧ l[j].Y + l[j].H ≤ s.2.2.2)
    (by omega) (by
      obtain ⟨x1, x2, y1, y2, _⟩ := hg0
      exact ⟨by simp only; omega, fun j hj => by omega⟩) (fun i s hi hI => by
      have hi' : i < l.length := by omega
      obtain ⟨x1, x2, y1, y2, w1, w2, g1, g2⟩ := hok _ (List.getElem_mem hi')
      obtain ⟨⟨c1, c2, c3, c4, c5, c6, c7, c8⟩, ha⟩ := hI
      unfold ref_HullOf_L1
      rw [need_of ⟨by omega, by omega⟩, gx_nat hi']
      simp only [bnd_eq]
      rw [Wk (n := l[i].X + l[i].W_) (by omega) (by omega), Wk (n := l[i].Y + l[i].H) (by omega) (by omega)]
      refine ⟨_, rfl, by simp only; omega, fun j hj hj' => ?_⟩
      by_cases e : j = i
      · subst e; simp only; omega
      · have := ha j (by omega) hj'
        simp only; omega)
  rw [h1, bind_sm] at h
  obtain ⟨⟨c1, c2, c3, c4, c5, c6, c7, c8⟩, ha⟩ := h2
  rw [Wk (n := s.2.2.1 - s.1) (by omega) (by omega), Wk (n := s.2.2.2 - s.2.1) (by omega) (by omega)] at h
  cases hc : decide ((20000 : Int) < s.2.2.1 - s.1) || decide ((20000 : Int) < s.2.2.2 - s.2.1) with
  | true => rw [hc] at h; cases h
  | false =>
    rw [hc, cond_false] at h
    have hb := (Prod.mk.inj (Option.some.inj h)).1
    intro v hv
    obtain ⟨j, hj, rfl⟩ := List.getElem_of_mem hv
    have := ha j (by omega) hj
    rw [← hb]
    simp only; omega
theorem view_boxM {d : Doc} {i : Int} {b : Box} {e : Int} (h : page_view_boxOf (viewD d) i = some (b, e)) : page_view_box (viewD d) i = some b := by
  unfold page_view_box
  rw [bnd_eq, h]; rfl
/-- The box of a node of a right diagram. -/
noncomputable def bxD (d : Doc) (k : Int) : Box := ((page_view_boxOf (viewD d) k).getD (zeroB, 0)).1
theorem bxD_eq {d : Doc} (h : Right d) {j : Nat} (hj : j < d.Nodes.length) : page_view_boxOf (viewD d) (j : Int) = some (bxD d (j : Int), 0) ∧ ref_BoxOfNode d d.Nodes[j].Id = some (bxD d (j : Int), 0) ∧ okB (bxD d (j : Int)) := by
  obtain ⟨b, b1, b2, b3⟩ := h.box j hj
  have e : bxD d (j : Int) = b := by show ((page_view_boxOf (viewD d) (j : Int)).getD (zeroB, 0)).1 = b; rw [b1]; rfl
  rw [e]; exact ⟨b1, b2, b3⟩
theorem box_okR {d : Doc} (h : Right d) {R : List Int} (hA : ApartR d R) : ∀ b ∈ R.map (bxD d), okB b := fun b hb => by
  obtain ⟨k, hk, rfl⟩ := List.mem_map.1 hb
  obtain ⟨j, hj, rfl⟩ := hA.isIn k hk
  exact (bxD_eq h hj).2.2
theorem hullOf_eq {d : Doc} (h : Right d) {R : List Int} (hA : ApartR d R) (hR : R.length ≤ 500) {b : Box} {e : Int} (hu : geom_Hull (R.map (bxD d)) = some (b, e)) : page_view_hullOf (viewD d) R = some (b, e) := by
  unfold page_view_hullOf
  rw [bnd_eq, rfor_gather (fun k => [bxD d k]) [] (fun a _ => by simp) (by simp; omega) (fun i s hk hs => by
    unfold page_view_hullOf_L1
    obtain ⟨j, hj, e⟩ := hA.isIn _ (gx_mem hk)
    rw [need_of hk, e, view_boxM (bxD_eq h hj).1, Option.bind_some, need_of (by show _ ≤ _; simp; omega)])]
  rw [← List.map_eq_flatMap, List.nil_append, Option.bind_some, hu]; rfl
/-- By how much a box moves to be aligned. -/
def alignF (hb : Box) (how : Int) (b : Box) : Int × Int :=
  if how = 1 then (hb.X - b.X, 0) else if how = 2 then (hb.X + (hb.W_ - b.W_) / 2 - b.X, 0) else if how = 3 then (hb.X + hb.W_ - b.X - b.W_, 0) else
  if how = 4 then (0, hb.Y - b.Y) else if how = 5 then (0, hb.Y + (hb.H - b.H) / 2 - b.Y) else (0, hb.Y + hb.H - b.Y - b.H)
theorem tdivM {a : Int} (h : 0 ≤ a) : a.tdiv 2 = a / 2 := Int.tdiv_eq_ediv_of_nonneg h
theorem Align_steps {d : Doc} (h : Right d) {R : List Int} (hA : ApartR d R) (hR : R.length ≤ 500) {hb : Box} (ho : okB hb) (hc : ∀ v ∈ R.map (bxD d), hb.X ≤ v.X ∧ hb.Y ≤ v.Y ∧ v.X + v.W_ ≤ hb.X + hb.W_ ∧ v.Y + v.H ≤ hb.Y + hb.H) (how : Int) (o : Option Page_view) (c : Int) :
    rfor (R.length : Int) (page_Align_L1 (o, R, c) (hb, 0) (viewD d) how) ([] : List Page_step) = some (stepsR R fun k => alignF hb how (bxD d k)) := by
  rw [rfor_gather (fun k => [(⟨[k], (alignF hb how (bxD d k)).1, (alignF hb how (bxD d k)).2⟩ : Page_step)]) [] (fun a _ => by simp) (by simp; omega) (fun i s hk hs => by
    unfold page_Align_L1
    have hin := gx_mem hk
    obtain ⟨j, hj, e⟩ := hA.isIn _ hin
    obtain ⟨x1, x2, y1, y2, w1, w2, g1, g2⟩ := ho
    obtain ⟨p1, p2, p3, p4, p5, p6, p7, p8⟩ := (bxD_eq h hj).2.2
    obtain ⟨q1, q2, q3, q4⟩ := hc _ (List.mem_map.2 ⟨_, hin, rfl⟩)
    simp only [need_of hk, bnd_eq]
    rw [e] at q1 q2 q3 q4 ⊢
    rw [view_boxM (bxD_eq h hj).1, Option.bind_some]
    generalize bxD d (j : Int) = b at *
    unfold alignF
    rw [Wk (n := hb.X - b.X) (by omega) (by omega), Wk (n := hb.Y - b.Y) (by omega) (by omega), Wk (n := hb.W_ - b.W_) (by omega) (by omega), Wk (n := hb.H - b.H) (by omega) (by omega), tdivM (show 0 ≤ hb.W_ - b.W_ by omega), tdivM (show 0 ≤ hb.H - b.H by omega),
      Wk (n := hb.X + (hb.W_ - b.W_) / 2) (by omega) (by omega), Wk (n := hb.X + (hb.W_ - b.W_) / 2 - b.X) (by omega) (by omega), Wk (n := hb.X + hb.W_) (by omega) (by omega), Wk (n := hb.X + hb.W_ - b.X) (by omega) (by omega), Wk (n := hb.X + hb.W_ - b.X - b.W_) (by omega) (by omega),
      Wk (n := hb.Y + (hb.H - b.H) / 2) (by omega) (by omega), Wk (n := hb.Y + (hb.H - b.H) / 2 - b.Y) (by omega) (by omega), Wk (n := hb.Y + hb.H) (by omega) (by omega), Wk (n := hb.Y + hb.H - b.Y) (by omega) (by omega), Wk (n := hb.Y + hb.H - b.Y - b.H) (by omega) (by omega)]
    have hroom : room (s.length + 1) := by show _ ≤ _; omega
    by_cases h1 : how = 1
    · simp [h1, need_of hroom]
    by_cases h2 : how = 2
    · simp [h1, h2, need_of hroom]
    by_cases h3 : how = 3
    · simp [h1, h2, h3, need_of hroom]
    by_cases h4 : how = 4
    · simp [h1, h2, h3, h4, need_of hroom]
    by_cases h5 : how = 5
    · simp [h1, h2, h3, h4, h5, need_of hroom]
    simp [h1, h2, h3, h4, h5, need_of hroom])]
  rw [← List.map_eq_flatMap, List.nil_append]; rfl
/-- What an alignment comes to in the program. -/
theorem Align_prog {d : Doc} (hf : fits d) (hck : page_Check d = some 0) (h : Right d) {ids : List Str} (hi : (ids.length : Int) ≤ 9223372036854775807) (hs : selErr d.Nodes ids = 0) (how : Int) :
    ∃ r : Doc × Int, page_Align d ids how = some r ∧ (r.2 ≠ 0 → r.1 = ⟨[], []⟩) ∧
      (r.2 = 0 → ∃ hb, (1 ≤ how ∧ how ≤ 6) ∧ okB hb ∧ (∀ v ∈ (rootL d.Nodes ids).map (bxD d), hb.X ≤ v.X ∧ hb.Y ≤ v.Y ∧ v.X + v.W_ ≤ hb.X + hb.W_ ∧ v.Y + v.H ≤ hb.Y + hb.H) ∧ r.1 = docM d (rootL d.Nodes ids) (fun k => alignF hb how (bxD d k)) ∧ Right r.1 ∧ page_Check r.1 = some 0) := by
  have hA := rootL_apart h ids
  have hRl := rootL_len (l := d.Nodes) (ids := ids) h.nl
  obtain ⟨hb, eh, u1, u2, u3⟩ := hull_both (l := (rootL d.Nodes ids).map (bxD d)) (box_okR h hA) (by simp; omega)
  have hv := hullOf_eq h hA hRl u1
  unfold page_Align
  rw [bnd_eq, selected_eq hck h hi, if_pos hs, Option.bind_some]
  simp only [decide_true, Bool.not_true, cond_false, Option.bind_some]
  rw [hv, Option.bind_some]
  simp only
  by_cases he : eh = 0
  case neg =>
    rw [decide_eq_false he]
    exact ⟨(⟨[], []⟩, eh), rfl, fun _ => rfl, fun e => (he e).elim⟩
  subst he
  rw [decide_eq_true (rfl : (0 : Int) = 0)]
  simp only [Bool.not_true, cond_false]
  by_cases hw : 1 ≤ how ∧ how ≤ 6
  case neg =>
    have c1 : (decide (how < 1) || decide (6 < how)) = true := by simp; omega
    rw [c1]
    exact ⟨(⟨[], []⟩, 1), rfl, fun _ => rfl, fun e => by cases e⟩
  have c1 : (decide (how < 1) || decide (6 < how)) = false := by simp; omega
  rw [c1]
  simp only [cond_false]
  have hob := u3 rfl
  have hc := hull_has (box_okR h hA) (by simp; omega) u2
  rw [Align_steps h hA hRl hob hc how, Option.bind_some]
  obtain ⟨r, r1, r2, r3, _⟩ := by_prog hf h hA (by omega) (fun k => alignF hb how (bxD d k))
  rw [r1, Option.bind_some]
  exact ⟨r, rfl, r3, fun e => ⟨hb, hw, hob, hc, by rw [(r2 e).1]; exact ⟨rfl, (r2 e).2.1, (r2 e).2.2⟩⟩⟩
end Go.DB
