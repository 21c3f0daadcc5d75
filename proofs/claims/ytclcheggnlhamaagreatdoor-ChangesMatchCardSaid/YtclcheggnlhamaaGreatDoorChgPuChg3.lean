/-
  What is copied: the program and the document.
-/
import Derived.Test.YtclcheggnlhamaaGreatDoorChgPuChg2
set_option linter.unusedSimpArgs false
set_option linter.unusedVariables false
namespace Go.DB
open Go Go.RowKit

/-- A text that is short enough to be written behind a name. -/
def short (s : Str) : Prop := s.b.length ≤ 4611686018427387904
def cpS (e s : Str) : Str := ⟨s.b ++ e.b⟩
/-- A node's parent is copied too. -/
def cpP (d : Doc) (P : Nat → Bool) (n : DNode) : Bool := !decide (n.Parent = Str.nil) && P (nodeAt d.Nodes n.Parent).toNat
def cpN (d : Doc) (P : Nat → Bool) (e : Str) (dx dy : Int) (n : DNode) : DNode :=
  { mvN dx dy n with Id := cpS e n.Id, Parent := if cpP d P n = true then cpS e n.Parent else n.Parent, Locked := false }
def cpE (e : Str) (dx dy : Int) (x : DEdge) : DEdge :=
  { x with Id := cpS e x.Id, From := { x.From with Node := cpS e x.From.Node }, To := { x.To with Node := cpS e x.To.Node }, Bends := x.Bends.map (mvP dx dy) }
def cpNs (d : Doc) (P : Nat → Bool) (e : Str) (dx dy : Int) (t : Nat) : List DNode := (List.range t).flatMap fun (j : Nat) => if P j = true then [cpN d P e dx dy (gx d.Nodes (j : Int))] else []
noncomputable def cpEs (d : Doc) (P : Nat → Bool) (e : Str) (dx dy : Int) (t : Nat) : List DEdge := (List.range t).flatMap fun (j : Nat) => if endsP d.Nodes P (gx d.Edges (j : Int)) = true then [cpE e dx dy (gx d.Edges (j : Int))] else []
noncomputable def cpD (d : Doc) (P : Nat → Bool) (e : Str) (dx dy : Int) : Doc := ⟨d.Nodes ++ cpNs d P e dx dy d.Nodes.length, d.Edges ++ cpEs d P e dx dy d.Edges.length⟩
theorem flat_le {α : Type} (f : Nat → List α) (hf : ∀ j, (f j).length ≤ 1) : ∀ t, ((List.range t).flatMap f).length ≤ t
  | 0 => by simp
  | t + 1 => by
    have := flat_le f hf t
    have := hf t
    rw [List.range_succ, List.flatMap_append, List.length_append]
    simp only [List.flatMap_cons, List.flatMap_nil, List.append_nil]
    omega
theorem cpNs_len (d : Doc) (P : Nat → Bool) (e : Str) (dx dy : Int) (t : Nat) : (cpNs d P e dx dy t).length ≤ t := flat_le _ (fun j => by split <;> simp) t
theorem cpEs_len (d : Doc) (P : Nat → Bool) (e : Str) (dx dy : Int) (t : Nat) : (cpEs d P e dx dy t).length ≤ t := flat_le _ (fun j => by split <;> simp) t
theorem cpNs_succ (d : Doc) (P : Nat → Bool) (e : Str) (dx dy : Int) (t : Nat) : cpNs d P e dx dy (t + 1) = cpNs d P e dx dy t ++ (if P t = true then [cpN d P e dx dy (gx d.Nodes (t : Int))] else []) := by
  unfold cpNs
  rw [List.range_succ, List.flatMap_append]
  simp only [List.flatMap_cons, List.flatMap_nil, List.append_nil]
theorem cpEs_succ (d : Doc) (P : Nat → Bool) (e : Str) (dx dy : Int) (t : Nat) : cpEs d P e dx dy (t + 1) = cpEs d P e dx dy t ++ (if endsP d.Nodes P (gx d.Edges (t : Int)) = true then [cpE e dx dy (gx d.Edges (t : Int))] else []) := by
  unfold cpEs
  rw [List.range_succ, List.flatMap_append]
  simp only [List.flatMap_cons, List.flatMap_nil, List.append_nil]
/-- Names are short. -/
theorem name_len {s : Str} (h : nameB s = true) : s.b.length ≤ 40 := by
  unfold nameB at h
  rw [Bool.and_eq_true, decide_eq_true_eq] at h
  exact h.1
theorem Right.idLen {d : Doc} (h : Right d) {n : DNode} (hn : n ∈ d.Nodes) : n.Id.b.length ≤ 40 := name_len (h.at hn).1
theorem Right.parLen {d : Doc} (h : Right d) {n : DNode} (hn : n ∈ d.Nodes) : n.Parent.b.length ≤ 40 := by
  by_cases c : n.Parent = Str.nil
  · rw [c]; simp [Str.nil]
  · obtain ⟨g, hg, e, _⟩ := h.tree n hn c
    rw [← e]; exact h.idLen hg
theorem Right.edgeLen {d : Doc} (h : Right d) {x : DEdge} (hx : x ∈ d.Edges) : x.Id.b.length ≤ 40 := by
  obtain ⟨i, hi, rfl⟩ := List.getElem_of_mem hx
  have := h.edge i hi
  unfold edgeErr at this
  have h1 := firstErr_zero.1 this (if nameB d.Edges[i].Id = true then 0 else 5) (by simp)
  by_cases c : nameB d.Edges[i].Id = true
  · exact name_len c
  · rw [if_neg c] at h1; cases h1
theorem at_len {d : Doc} (h : Right d) {id : Str} (hin : inR d.Nodes (nodeAt d.Nodes id)) : id.b.length ≤ 40 := by
  have hp := (nodeAt_in (l := d.Nodes) (id := id) (by have := hin.1; omega)).2
  rw [← hp]
  exact h.idLen (gx_mem hin)
theorem Right.fromLen {d : Doc} (h : Right d) {x : DEdge} (hx : x ∈ d.Edges) : x.From.Node.b.length ≤ 40 ∧ x.To.Node.b.length ≤ 40 := ⟨at_len h (h.endsIn hx).1, at_len h (h.endsIn hx).2⟩
theorem W_fits (n : Int) : fits (W n) := by
  have := W_in n
  exact this
theorem fits_cpS {e s : Str} (he : short e) (hs : s.b.length ≤ 40) : fits (cpS e s) := by
  show (s.b ++ e.b).length ≤ _
  unfold short at he
  rw [List.length_append]; omega
theorem fits_cpD {d : Doc} (hf : fits d) (h : Right d) {P : Nat → Bool} {e : Str} (he : short e) {dx dy : Int} : fits (cpD d P e dx dy) := by
  obtain ⟨⟨f1, f2⟩, f3, f4⟩ := hf
  have hnl := h.nl
  have hel := h.el
  have l1 := cpNs_len d P e dx dy d.Nodes.length
  have l2 := cpEs_len d P e dx dy d.Edges.length
  refine ⟨⟨?_, fun n hn => ?_⟩, ?_, fun x hx => ?_⟩
  · show (d.Nodes ++ cpNs d P e dx dy d.Nodes.length).length ≤ _
    rw [List.length_append]; omega
  · rcases List.mem_append.1 (show n ∈ d.Nodes ++ cpNs d P e dx dy d.Nodes.length from hn) with hn | hn
    · exact f2 n hn
    · obtain ⟨j, hj, hm⟩ := List.mem_flatMap.1 hn
      have hj := List.mem_range.1 hj
      have hin := gx_mem (l := d.Nodes) (k := (j : Int)) ⟨by omega, by omega⟩
      split at hm
      · rw [List.mem_singleton] at hm
        subst hm
        have hb := f2 _ hin
        generalize gx d.Nodes (j : Int) = n at *
        have hp : fits (if cpP d P n = true then cpS e n.Parent else n.Parent) := by
          split
          · exact fits_cpS he (h.parLen hin)
          · exact hb.2.2.2.2.2.1
        unfold cpN mvN
        split
        · exact ⟨fits_cpS he (h.idLen hin), hb.2.1, hb.2.2.1, hb.2.2.2.1, hb.2.2.2.2.1, hp, trivial⟩
        · exact ⟨fits_cpS he (h.idLen hin), hb.2.1, ⟨W_fits _, W_fits _, hb.2.2.1.2.2.1, hb.2.2.1.2.2.2⟩, hb.2.2.2.1, hb.2.2.2.2.1, hp, trivial⟩
      · cases hm
  · show (d.Edges ++ cpEs d P e dx dy d.Edges.length).length ≤ _
    rw [List.length_append]; omega
  · rcases List.mem_append.1 (show x ∈ d.Edges ++ cpEs d P e dx dy d.Edges.length from hx) with hx | hx
    · exact f4 x hx
    · obtain ⟨j, hj, hm⟩ := List.mem_flatMap.1 hx
      have hj := List.mem_range.1 hj
      have hin := gx_mem (l := d.Edges) (k := (j : Int)) ⟨by omega, by omega⟩
      split at hm
      · rw [List.mem_singleton] at hm
        subst hm
        have hb := f4 _ hin
        generalize gx d.Edges (j : Int) = x at *
        refine ⟨fits_cpS he (h.edgeLen hin), ⟨fits_cpS he (h.fromLen hin).1, hb.2.1.2⟩, ⟨fits_cpS he (h.fromLen hin).2, hb.2.2.1.2⟩, ⟨?_, fun p hp => ?_⟩, hb.2.2.2.2⟩
        · show (x.Bends.map (mvP dx dy)).length ≤ _
          rw [List.length_map]; exact hb.2.2.2.1.1
        · obtain ⟨q, _, rfl⟩ := List.mem_map.1 (show p ∈ x.Bends.map (mvP dx dy) from hp)
          exact ⟨W_fits _, W_fits _⟩
      · cases hm
theorem cfar_eq (n : Int) : page_far n = some (decide (n < -2000000 ∨ 2000000 < n)) := by
  unfold page_far
  simp
theorem marks_C {d : Doc} (h : Right d) (ids : List Str) (o : Option Page_view) (c : Int) : rfor ((rootL d.Nodes ids).length : Int) (page_Copy_L1 (o, rootL d.Nodes ids, c) (viewD d)) (List.replicate (d.Nodes.length : Int).toNat false) = some (MK d.Nodes.length (fun j => tchB d.Nodes ids (gx d.Nodes (j : Int)))) := marks_D h ids o c
theorem bendsC (x : DEdge) (dx dy : Int) (hl : x.Bends.length ≤ 100000) : rfor (x.Bends.length : Int) (page_Copy_L4 x dx dy) ([] : List Point) = some (x.Bends.map (mvP dx dy)) := by
  rw [rfor_gather (fun p => [mvP dx dy p]) [] (fun a _ => by simp) (by simp; omega) (fun i s hk hs => by
    unfold page_Copy_L4
    rw [need_of hk, bnd_eq, need_of (by show _ ≤ _; simp; omega)]; rfl), ← List.map_eq_flatMap]
  simp
theorem Copy_eq {d : Doc} (hf : fits d) (hck : page_Check d = some 0) (h : Right d) {ids : List Str} (hi : (ids.length : Int) ≤ 9223372036854775807) (hs : selErr d.Nodes ids = 0) {e : Str} (he : short e) (dx dy : Int) :
    page_Copy d ids e dx dy = if (-2000000 ≤ dx ∧ dx ≤ 2000000) ∧ -2000000 ≤ dy ∧ dy ≤ 2000000 then
      Option.bind (page_Check (cpD d (fun j => tchB d.Nodes ids (gx d.Nodes (j : Int))) e dx dy)) fun c => some (if c = 0 then (cpD d (fun j => tchB d.Nodes ids (gx d.Nodes (j : Int))) e dx dy, 0) else (⟨[], []⟩, c))
      else some (⟨[], []⟩, 3) := by
  have hnl := h.nl
  have hel := h.el
  unfold short at he
  unfold page_Copy
  rw [bnd_eq, selected_eq hck h hi, if_pos hs, Option.bind_some]
  simp only [decide_true, Bool.not_true, cond_false]
  rw [cfar_eq, Option.bind_some, cfar_eq]
  by_cases hx : -2000000 ≤ dx ∧ dx ≤ 2000000
  case neg =>
    rw [if_neg (fun c => hx c.1), decide_eq_true (by omega)]; rfl
  by_cases hy : -2000000 ≤ dy ∧ dy ≤ 2000000
  case neg =>
    rw [if_neg (fun c => hy c.2), decide_eq_true (show dy < -2000000 ∨ 2000000 < dy by omega), decide_eq_false (by omega)]; rfl
  rw [if_pos ⟨hx, hy⟩, decide_eq_false (show ¬ (dx < -2000000 ∨ 2000000 < dx) by omega), decide_eq_false (by omega)]
  simp only [Bool.not_false, gd_true, Option.bind_some, Bool.or_false, cond_false, bnd_eq]
  rw [need_of ⟨by omega, by omega, by omega⟩, marks_C h ids, Option.bind_some, cloned_eq h, Option.bind_some]
  generalize hP : (fun j : Nat => tchB d.Nodes ids (gx d.Nodes (j : Int))) = P at *
  have hvn : (viewD d).number = numM d.Nodes := rfl
  obtain ⟨a, a1, a2⟩ := rfor_inv (n := (d.Nodes.length : Int)) (step := page_Copy_L2 d (viewD d) dx dy e (MK d.Nodes.length P)) (s0 := d) (fun t s => s = ⟨d.Nodes ++ cpNs d P e dx dy t, d.Edges⟩) (by omega) (by simp [cpNs]) (fun i s hi' hI => by
    subst hI
    have hi2 : i < d.Nodes.length := by omega
    have hin := gx_mem (l := d.Nodes) (k := (i : Int)) ⟨by omega, by omega⟩
    have hl := cpNs_len d P e dx dy i
    unfold page_Copy_L2
    rw [need_of ⟨by omega, by omega⟩, bnd_eq, need_of ⟨by omega, by rw [MK_len]; omega⟩, MK_at hi2, cpNs_succ]
    cases hp : P i with
    | false => exact ⟨_, rfl, by simp⟩
    | true =>
      have n1 := h.idLen hin
      have n2 := h.parLen hin
      have hpar : (gx d.Nodes (i : Int)).Parent ≠ Str.nil → inR d.Nodes (nodeAt d.Nodes (gx d.Nodes (i : Int)).Parent) := fun c => by
        obtain ⟨g, hg, eg, _⟩ := h.tree _ hin c
        exact (nodeAt_pos ⟨g, hg, eg⟩).1
      generalize hnn : gx d.Nodes (i : Int) = n at *
      simp only [Bool.not_true, cond_false]
      rw [need_of (by omega), bnd_eq, bnd_eq, hvn]
      simp only
      have hhas : (!decide (n.Parent = Str.nil) && (numM d.Nodes).has n.Parent) = !decide (n.Parent = Str.nil) := by
        by_cases c : n.Parent = Str.nil
        · rw [decide_eq_true c]; rfl
        · rw [decide_eq_false c, numM_has, decide_eq_true (hpar c).1]; rfl
      rw [hhas]
      have hg : (!decide (n.Parent = Str.nil) && gx (MK d.Nodes.length P) ((numM d.Nodes).getD n.Parent 0)) = cpP d P n ∧ ((!decide (n.Parent = Str.nil)) = true → inR (MK d.Nodes.length P) ((numM d.Nodes).getD n.Parent 0)) := by
        unfold cpP
        by_cases c : n.Parent = Str.nil
        · rw [decide_eq_true c]; exact ⟨rfl, fun h => by cases h⟩
        · obtain ⟨q1, q2⟩ := hpar c
          obtain ⟨m, hm⟩ := Int.eq_ofNat_of_zero_le q1
          rw [numM_getD q1, hm, MK_at (show m < _ by omega)]
          exact ⟨rfl, fun _ => ⟨by omega, by rw [MK_len]; omega⟩⟩
      rw [need_of hg.2, hg.1]
      have hcp : ∀ D : Doc, D.Nodes.length ≤ 1000 → ∃ r, (Option.bind (α := DNode) (bif cpP d P n then need ((n.Parent.b.length : Int) + e.b.length ≤ 9223372036854775807) (bnd ((⟨n.Parent.b ++ e.b⟩ : Str)) fun v8 => some { n with Id := ⟨n.Id.b ++ e.b⟩, Parent := v8 }) else some { n with Id := ⟨n.Id.b ++ e.b⟩ }) fun j_32 =>
          Option.bind (α := DNode) (bif !decide (j_32.Kind = 6) then (bnd (W (j_32.Box.X + dx)) fun v9 => bnd (W (j_32.Box.Y + dy)) fun v10 => some { j_32 with Box := { j_32.Box with X := v9, Y := v10 } }) else some j_32) fun j_36 =>
          need (room (D.Nodes.length + [{ j_36 with Locked := false }].length)) <| some ({ D with Nodes := D.Nodes ++ [{ j_36 with Locked := false }], Edges := D.Edges } : Doc)) = some r ∧ r = ⟨D.Nodes ++ [cpN d P e dx dy n], D.Edges⟩ := fun D hD => by
        have hr : ∀ y : DNode, room (D.Nodes.length + [y].length) := fun y => by rw [room_iff]; simp only [List.length_singleton]; omega
        unfold cpN mvN
        cases hc : cpP d P n with
        | true =>
          rw [cond_true, need_of (by omega), bnd_eq, Option.bind_some]
          by_cases k6 : n.Kind = 6
          · simp only [decide_eq_true k6, Bool.not_true, cond_false, Option.bind_some, if_pos k6]
            rw [need_of (hr _)]; exact ⟨_, rfl, rfl⟩
          · simp only [decide_eq_false k6, Bool.not_false, cond_true, bnd_eq, Option.bind_some, if_neg k6]
            rw [need_of (hr _)]; exact ⟨_, rfl, rfl⟩
        | false =>
          rw [cond_false, Option.bind_some]
          by_cases k6 : n.Kind = 6
          · simp only [decide_eq_true k6, Bool.not_true, cond_false, Option.bind_some, if_pos k6]
            rw [need_of (hr _)]; exact ⟨_, rfl, rfl⟩
          · simp only [decide_eq_false k6, Bool.not_false, cond_true, bnd_eq, Option.bind_some, if_neg k6]
            rw [need_of (hr _)]; exact ⟨_, rfl, rfl⟩
      obtain ⟨r, r1, r2⟩ := hcp ⟨d.Nodes ++ cpNs d P e dx dy i, d.Edges⟩ (by simp only [List.length_append]; omega)
      refine ⟨r, r1, ?_⟩
      rw [r2]
      simp only [if_true, List.append_assoc])
  rw [a1, a2, Option.bind_some]
  obtain ⟨b, b1, b2⟩ := rfor_inv (n := (d.Edges.length : Int)) (step := page_Copy_L3 d (viewD d) dx dy e (MK d.Nodes.length P)) (s0 := (⟨d.Nodes ++ cpNs d P e dx dy (d.Nodes.length : Int).toNat, d.Edges⟩ : Doc)) (fun t s => s = ⟨d.Nodes ++ cpNs d P e dx dy (d.Nodes.length : Int).toNat, d.Edges ++ cpEs d P e dx dy t⟩) (by omega) (by simp [cpEs]) (fun i s hi' hI => by
    subst hI
    have hi2 : i < d.Edges.length := by omega
    have hin := gx_mem (l := d.Edges) (k := (i : Int)) ⟨by omega, by omega⟩
    have hl := cpEs_len d P e dx dy i
    have n1 := h.edgeLen hin
    have n2 := h.fromLen hin
    have n3 := h.bends hin
    obtain ⟨⟨f1, f2⟩, t1, t2⟩ := h.endsIn hin
    unfold page_Copy_L3
    rw [need_of ⟨by omega, by omega⟩, bnd_eq, hvn, numM_getD f1, numM_getD t1, cpEs_succ]
    generalize gx d.Edges (i : Int) = x at *
    obtain ⟨u, hu⟩ := Int.eq_ofNat_of_zero_le f1
    obtain ⟨v, hv⟩ := Int.eq_ofNat_of_zero_le t1
    have hu' : u < d.Nodes.length := by omega
    have hv' : v < d.Nodes.length := by omega
    have hE : endsP d.Nodes P x = (P u && P v) := by unfold endsP; rw [hu, hv]; rfl
    rw [hE, hu, hv, need_of ⟨by omega, by rw [MK_len]; omega⟩, need_of (fun _ => ⟨by omega, by rw [MK_len]; omega⟩), MK_at hu', MK_at hv', ← Bool.not_and]
    cases hc : P u && P v with
    | false => exact ⟨_, rfl, by simp⟩
    | true =>
      simp only [Bool.not_true, cond_false]
      rw [need_of (by omega), bnd_eq, need_of (by omega), bnd_eq, need_of (by omega), bnd_eq, bnd_eq]
      simp only
      have hb : ∀ y : DEdge, y.Bends = x.Bends → rfor (x.Bends.length : Int) (page_Copy_L4 y dx dy) ([] : List Point) = some (x.Bends.map (mvP dx dy)) := fun y hy => by rw [← hy]; exact bendsC y dx dy (by rw [hy]; omega)
      rw [hb ⟨⟨x.Id.b ++ e.b⟩, ⟨⟨x.From.Node.b ++ e.b⟩, x.From.Side, x.From.At⟩, ⟨⟨x.To.Node.b ++ e.b⟩, x.To.Side, x.To.At⟩, x.Bends, x.Text, x.Class⟩ rfl, Option.bind_some, need_of (by rw [room_iff]; simp only [List.length_append, List.length_singleton]; omega)]
      refine ⟨_, rfl, ?_⟩
      simp only [if_true, List.append_assoc]
      rfl)
  rw [b1, b2, Option.bind_some]
  show Option.bind (page_Check (cpD d P e dx dy)) _ = _
  congr 1
  funext c
  by_cases hc : c = 0
  · subst hc; rfl
  · rw [decide_eq_false hc, if_neg hc]; rfl
theorem cStepError_eq (dx dy : Int) : ref_StepError dx dy = some (if (-2000000 ≤ dx ∧ dx ≤ 2000000) ∧ -2000000 ≤ dy ∧ dy ≤ 2000000 then 0 else 3) := by
  unfold ref_StepError
  rw [In_eq, In_eq, Option.bind_some]
  by_cases h1 : -2000000 ≤ dx ∧ dx ≤ 2000000
  · rw [decide_eq_true h1]
    simp only [Bool.not_true, Bool.not_false, gd_true, Option.bind_some, Bool.false_or]
    rw [When_eq]
    by_cases h2 : -2000000 ≤ dy ∧ dy ≤ 2000000 <;> simp [h1, h2]
  · rw [decide_eq_false h1, if_neg (fun h => h1 h.1)]
    simp [gd, When_eq]
theorem CopyOf_eq {d : Doc} (h : Right d) {ids : List Str} (hi : (ids.length : Int) ≤ 9223372036854775807) {e : Str} (he : short e) (dx dy : Int) :
    ref_CopyOf d ids e dx dy = if (-2000000 ≤ dx ∧ dx ≤ 2000000) ∧ -2000000 ≤ dy ∧ dy ≤ 2000000 then
      Option.bind (ref_DocError (cpD d (fun j => tchB d.Nodes ids (gx d.Nodes (j : Int))) e dx dy)) fun c => some (if c = 0 then (cpD d (fun j => tchB d.Nodes ids (gx d.Nodes (j : Int))) e dx dy, 0) else (⟨[], []⟩, c))
      else some (⟨[], []⟩, 3) := by
  have hnl := h.nl
  have hel := h.el
  unfold short at he
  unfold ref_CopyOf
  rw [bnd_eq, cStepError_eq, Option.bind_some]
  by_cases hx : (-2000000 ≤ dx ∧ dx ≤ 2000000) ∧ -2000000 ≤ dy ∧ dy ≤ 2000000
  case neg => rw [if_neg hx, if_neg hx]; rfl
  rw [if_pos hx, if_pos hx]
  simp only [decide_true, Bool.not_true, cond_false]
  obtain ⟨m, hm, hmt, hm0⟩ := Touched_full h hi
  have ht : Tells d m (fun j => tchB d.Nodes ids (gx d.Nodes (j : Int))) := fun j hj => by
    have := hmt j hj
    show m.getD (gx d.Nodes (j : Int)).Id false = tchB d.Nodes ids (gx d.Nodes (j : Int))
    rw [gx_nat hj]; exact this
  rw [hm, Option.bind_some, Copied_eq h, Option.bind_some]
  generalize hP : (fun j : Nat => tchB d.Nodes ids (gx d.Nodes (j : Int))) = P at *
  have key : ∀ id, inR d.Nodes (nodeAt d.Nodes id) → m.getD id false = P (nodeAt d.Nodes id).toNat := fun id hin => by
    obtain ⟨a, b⟩ := hin
    have h2 := (nodeAt_in (l := d.Nodes) (id := id) (by omega)).2
    have := ht (nodeAt d.Nodes id).toNat (by omega)
    rw [Int.toNat_of_nonneg a, h2] at this
    exact this
  obtain ⟨a, a1, a2⟩ := rfor_inv (n := (d.Nodes.length : Int)) (step := ref_CopyOf_L1 d dx dy m e) (s0 := d) (fun t s => s = ⟨d.Nodes ++ cpNs d P e dx dy t, d.Edges⟩) (by omega) (by simp [cpNs]) (fun i s hi' hI => by
    subst hI
    have hi2 : i < d.Nodes.length := by omega
    have hin := gx_mem (l := d.Nodes) (k := (i : Int)) ⟨by omega, by omega⟩
    have hl := cpNs_len d P e dx dy i
    unfold ref_CopyOf_L1
    rw [need_of ⟨by omega, by omega⟩, bnd_eq, ht i hi2, cpNs_succ]
    cases hp : P i with
    | false => exact ⟨_, rfl, by simp⟩
    | true =>
      have n1 := h.idLen hin
      have n2 := h.parLen hin
      have hpar : m.getD (gx d.Nodes (i : Int)).Parent false = cpP d P (gx d.Nodes (i : Int)) := by
        unfold cpP
        by_cases c : (gx d.Nodes (i : Int)).Parent = Str.nil
        · rw [decide_eq_true c, c, hm0]; rfl
        · obtain ⟨g, hg, eg, _⟩ := h.tree _ hin c
          rw [key _ (nodeAt_pos ⟨g, hg, eg⟩).1, decide_eq_false c]; rfl
      generalize hnn : gx d.Nodes (i : Int) = n at *
      simp only [Bool.not_true, cond_false]
      rw [need_of (by omega), bnd_eq, bnd_eq]
      simp only
      rw [hpar]
      have hr : ∀ y : DNode, room ((d.Nodes ++ cpNs d P e dx dy i).length + [y].length) := fun y => by rw [room_iff]; simp only [List.length_append, List.length_singleton]; omega
      have hcp : ∃ r, (Option.bind (α := DNode) (bif cpP d P n then need ((n.Parent.b.length : Int) + e.b.length ≤ 9223372036854775807) (bnd ((⟨n.Parent.b ++ e.b⟩ : Str)) fun v5 => some { n with Id := ⟨n.Id.b ++ e.b⟩, Parent := v5 }) else some { n with Id := ⟨n.Id.b ++ e.b⟩ }) fun j_17 =>
          bnd ({ j_17 with Locked := false }) fun n2 =>
          Option.bind (α := DNode) (bif !decide (n2.Kind = 6) then (bnd (W (n2.Box.X + dx)) fun v6 => bnd ({ n2 with Box := { n2.Box with X := v6 } }) fun n3 => bnd (W (n3.Box.Y + dy)) fun v7 => some { n3 with Box := { n3.Box with Y := v7 } }) else some n2) fun j_22 =>
          need (room ((d.Nodes ++ cpNs d P e dx dy i).length + [j_22].length)) <| some (⟨(d.Nodes ++ cpNs d P e dx dy i) ++ [j_22], d.Edges⟩ : Doc)) = some r ∧ r = ⟨(d.Nodes ++ cpNs d P e dx dy i) ++ [cpN d P e dx dy n], d.Edges⟩ := by
        unfold cpN mvN
        cases hc : cpP d P n with
        | true =>
          rw [cond_true, need_of (by omega), bnd_eq, Option.bind_some]
          by_cases k6 : n.Kind = 6
          · simp only [decide_eq_true k6, Bool.not_true, cond_false, bnd_eq, Option.bind_some, if_pos k6]
            rw [need_of (hr _)]; exact ⟨_, rfl, rfl⟩
          · simp only [decide_eq_false k6, Bool.not_false, cond_true, bnd_eq, Option.bind_some, if_neg k6]
            rw [need_of (hr _)]; exact ⟨_, rfl, rfl⟩
        | false =>
          rw [cond_false, Option.bind_some]
          by_cases k6 : n.Kind = 6
          · simp only [decide_eq_true k6, Bool.not_true, cond_false, bnd_eq, Option.bind_some, if_pos k6]
            rw [need_of (hr _)]; exact ⟨_, rfl, rfl⟩
          · simp only [decide_eq_false k6, Bool.not_false, cond_true, bnd_eq, Option.bind_some, if_neg k6]
            rw [need_of (hr _)]; exact ⟨_, rfl, rfl⟩
      obtain ⟨r, r1, r2⟩ := hcp
      refine ⟨r, r1, ?_⟩
      rw [r2]
      simp only [if_true, List.append_assoc])
  rw [a1, a2, Option.bind_some]
  obtain ⟨b, b1, b2⟩ := rfor_inv (n := (d.Edges.length : Int)) (step := ref_CopyOf_L2 d dx dy m e) (s0 := (⟨d.Nodes ++ cpNs d P e dx dy (d.Nodes.length : Int).toNat, d.Edges⟩ : Doc)) (fun t s => s = ⟨d.Nodes ++ cpNs d P e dx dy (d.Nodes.length : Int).toNat, d.Edges ++ cpEs d P e dx dy t⟩) (by omega) (by simp [cpEs]) (fun i s hi' hI => by
    subst hI
    have hi2 : i < d.Edges.length := by omega
    have hin := gx_mem (l := d.Edges) (k := (i : Int)) ⟨by omega, by omega⟩
    have hl := cpEs_len d P e dx dy i
    have n1 := h.edgeLen hin
    have n2 := h.fromLen hin
    have n3 := h.bends hin
    have hends := h.endsIn hin
    unfold ref_CopyOf_L2
    rw [need_of ⟨by omega, by omega⟩, bnd_eq, cpEs_succ, key _ hends.1, key _ hends.2]
    generalize gx d.Edges (i : Int) = x at *
    have hE : (P (nodeAt d.Nodes x.From.Node).toNat && P (nodeAt d.Nodes x.To.Node).toNat) = endsP d.Nodes P x := rfl
    rw [hE]
    cases hc : endsP d.Nodes P x with
    | false => exact ⟨_, rfl, by simp⟩
    | true =>
      rw [cond_true]
      rw [need_of (by omega), bnd_eq, bnd_eq]
      simp only
      rw [need_of (by omega), bnd_eq, bnd_eq]
      simp only
      rw [need_of (by omega), bnd_eq, bnd_eq]
      simp only
      rw [shifted_eq (by omega), Option.bind_some, need_of (by rw [room_iff]; simp only [List.length_append, List.length_singleton]; omega)]
      refine ⟨_, rfl, ?_⟩
      simp only [if_true, List.append_assoc]
      rfl)
  rw [b1, b2, Option.bind_some]
  show Option.bind (ref_DocError (cpD d P e dx dy)) _ = _
  congr 1
  funext c
  by_cases hc : c = 0
  · subst hc; rfl
  · rw [decide_eq_false hc, if_neg hc]; rfl
end Go.DB
