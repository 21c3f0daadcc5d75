/-
  What is deleted: the program and the document.
-/
import Derived.Test.YtclcheggnlhamaaGreatDoorChgPuDelF
import Derived.Test.YtclcheggnlhamaaGreatDoorChgPuMove1
set_option linter.unusedSimpArgs false
set_option linter.unusedVariables false
namespace Go.DB
open Go Go.RowKit

theorem cloned_of {d : Doc} (hn : d.Nodes.length ≤ 100000) (he : d.Edges.length ≤ 100000) (hb : ∀ x ∈ d.Edges, x.Bends.length ≤ 1000) : page_cloned d = some d := by
  unfold page_cloned
  rw [bnd_eq, Clone_Node_eq (by omega), Clone_Edge_eq (by omega), Option.bind_some, Option.bind_some]
  obtain ⟨s, h1, h2⟩ := rfor_inv (n := (d.Edges.length : Int)) (step := page_cloned_L1) (s0 := d.Edges) (fun _ s => s = d.Edges) (by omega) rfl (fun i s hi hs => by
    subst hs
    have hi' : i < d.Edges.length := by omega
    refine ⟨d.Edges, ?_, rfl⟩
    unfold page_cloned_L1
    rw [need_of ⟨by omega, by omega⟩, gx_nat hi', Clone_Point_eq (by have := hb _ (List.getElem_mem hi'); omega), Option.bind_some, need_of ⟨by omega, by omega⟩]
    rw [show ((i : Int).toNat) = i from rfl, set_selfE hi' rfl])
  rw [h1, Option.bind_some, h2]
/-- All members of a node are picked. -/
def memAll (d : Doc) (S : Nat → Bool) (i : Nat) : Bool := (List.range d.Nodes.length).all fun m => !decide ((gx d.Nodes (m : Int)).Parent = (gx d.Nodes (i : Int)).Id) || S m
theorem memAll_iff {d : Doc} {S : Nat → Bool} {i : Nat} : memAll d S i = true ↔ ∀ m : Nat, m < d.Nodes.length → (gx d.Nodes (m : Int)).Parent = (gx d.Nodes (i : Int)).Id → S m = true := by
  unfold memAll
  rw [List.all_eq_true]
  constructor
  · intro h m hm hp
    have := h m (List.mem_range.2 hm)
    rw [decide_eq_true hp] at this
    simpa using this
  · intro h m hm
    have hm := List.mem_range.1 hm
    by_cases c : (gx d.Nodes (m : Int)).Parent = (gx d.Nodes (i : Int)).Id
    · rw [h m hm c]; simp
    · rw [decide_eq_false c]; rfl
def Cl (d : Doc) (S : Nat → Bool) : Prop := ∀ i : Nat, i < d.Nodes.length → (gx d.Nodes (i : Int)).Kind = 6 → memAll d S i = true → S i = true
def Sup (d : Doc) (P S : Nat → Bool) : Prop := ∀ i : Nat, i < d.Nodes.length → P i = true → S i = true
/-- Nothing is picked without a reason. -/
def Jf (d : Doc) (P S : Nat → Bool) : Prop := ∀ T : Nat → Bool, Sup d P T → Cl d T → Sup d S T
theorem gone_uniq {d : Doc} {P S S' : Nat → Bool} (h1 : Sup d P S) (h2 : Jf d P S) (h3 : Cl d S) (g1 : Sup d P S') (g2 : Jf d P S') (g3 : Cl d S') {i : Nat} (hi : i < d.Nodes.length) : S i = S' i := by
  rw [Bool.eq_iff_iff]
  exact ⟨fun h => h2 S' g1 g3 i hi h, fun h => g2 S h1 h3 i hi h⟩
def cntS (n : Nat) (S : Nat → Bool) : Nat := ((List.range n).filter fun j => !S j).length
theorem cnt_filter {n : Nat} {S S' : Nat → Bool} (h : ∀ i : Nat, i < n → S i = true → S' i = true) : (List.range n).filter (fun j => !S' j) = ((List.range n).filter fun j => !S j).filter fun j => !S' j := by
  rw [List.filter_filter]
  refine List.filter_congr fun i hi => ?_
  have := h i (List.mem_range.1 hi)
  cases hS : S i with
  | false => simp
  | true => rw [this hS]; rfl
theorem cnt_le {n : Nat} {S S' : Nat → Bool} (h : ∀ i : Nat, i < n → S i = true → S' i = true) : cntS n S' ≤ cntS n S := by
  unfold cntS
  rw [cnt_filter h]
  exact List.length_filter_le _ _
theorem cnt_lt {n : Nat} {S S' : Nat → Bool} (h : ∀ i : Nat, i < n → S i = true → S' i = true) {i : Nat} (hi : i < n) (h1 : S i = false) (h2 : S' i = true) : cntS n S' < cntS n S := by
  unfold cntS
  rw [cnt_filter h]
  exact List.length_filter_lt_length_iff_exists.2 ⟨i, List.mem_filter.2 ⟨List.mem_range.2 hi, by rw [h1]; rfl⟩, by rw [h2]; simp⟩
theorem cnt_mk (n : Nat) (S : Nat → Bool) : ((MK n S).filter fun b => !b).length = cntS n S := by
  unfold MK cntS
  rw [List.filter_map, List.length_map]
  rfl
/-- The nodes that are not picked. -/
def leftN (d : Doc) (S : Nat → Bool) : List DNode := ((List.range d.Nodes.length).filter fun j => !S j).map fun (j : Nat) => gx d.Nodes (j : Int)
theorem leftN_len (d : Doc) (S : Nat → Bool) : (leftN d S).length = cntS d.Nodes.length S := by unfold leftN cntS; rw [List.length_map]
theorem cnt_bd (n : Nat) (S : Nat → Bool) : cntS n S ≤ n := by
  unfold cntS
  have := List.length_filter_le (fun j => !S j) (List.range n)
  rwa [List.length_range] at this
noncomputable def leftE (d : Doc) (S : Nat → Bool) : List DEdge := d.Edges.filter fun x => !(S (nodeAt d.Nodes x.From.Node).toNat || S (nodeAt d.Nodes x.To.Node).toNat)
theorem leftN_congr {d : Doc} {S S' : Nat → Bool} (h : ∀ i : Nat, i < d.Nodes.length → S i = S' i) : leftN d S = leftN d S' := by
  unfold leftN
  congr 1
  exact List.filter_congr fun i hi => by rw [h i (List.mem_range.1 hi)]
theorem leftE_congr {d : Doc} (hr : Right d) {S S' : Nat → Bool} (h : ∀ i : Nat, i < d.Nodes.length → S i = S' i) : leftE d S = leftE d S' := by
  unfold leftE
  refine List.filter_congr fun x hx => ?_
  obtain ⟨⟨a1, a2⟩, b1, b2⟩ := hr.endsIn hx
  rw [h _ (show (nodeAt d.Nodes x.From.Node).toNat < _ by omega), h _ (show (nodeAt d.Nodes x.To.Node).toNat < _ by omega)]
def lockT (d : Doc) (P : Nat → Bool) : Bool := (List.range d.Nodes.length).any fun j => P j && (gx d.Nodes (j : Int)).Locked
theorem left_eq {d : Doc} (h : Right d) (S : Nat → Bool) {i : Nat} (hi : i < d.Nodes.length) :
    slices_ContainsFunc_int ((viewD d).members.getD (gx d.Nodes (i : Int)).Id []) (fun x0 => page_Delete_1 x0 (MK d.Nodes.length S)) = some (!memAll d S i) := by
  have hnl := h.nl
  have hm : (viewD d).members = memM d.Nodes := rfl
  have hne : (gx d.Nodes (i : Int)).Id ≠ Str.nil := by rw [gx_nat hi]; exact h.hid (List.getElem_mem hi)
  rw [hm, memM_getD hne]
  have hl : (idxs d.Nodes (gx d.Nodes (i : Int)).Id).length ≤ 500 := by
    unfold idxs
    rw [List.length_map]
    have := List.length_filter_le (fun (t : Nat) => decide ((gx d.Nodes (t : Int)).Parent = (gx d.Nodes (i : Int)).Id)) (List.range d.Nodes.length)
    rw [List.length_range] at this
    omega
  rw [ContainsFunc_int_eq _ _ (fun k => !S k.toNat) (by omega) (fun k hk => by
    obtain ⟨⟨a, b⟩, _⟩ := idxs_mem.1 hk
    unfold page_Delete_1
    obtain ⟨m, rfl⟩ : ∃ m : Nat, k = m := ⟨k.toNat, by omega⟩
    rw [need_of ⟨by omega, by rw [MK_len]; omega⟩, MK_at (by omega)]; rfl)]
  congr 1
  rw [Bool.eq_iff_iff, List.any_eq_true]
  constructor
  · rintro ⟨k, hk, e⟩
    obtain ⟨⟨a, b⟩, c⟩ := idxs_mem.1 hk
    rw [Bool.not_eq_true']
    cases hq : memAll d S i with
    | false => rfl
    | true =>
      have := memAll_iff.1 hq k.toNat (by omega) (by rw [Int.toNat_of_nonneg a]; exact c)
      rw [this] at e; cases e
  · intro e
    refine Classical.byContradiction fun hne => ?_
    have : memAll d S i = true := memAll_iff.2 fun m hm hp => by
      cases hq : S m with
      | true => rfl
      | false => exact absurd ⟨(m : Int), idxs_mem.2 ⟨⟨by omega, by omega⟩, hp⟩, by rw [Int.toNat_natCast, hq]; rfl⟩ hne
    rw [this] at e; cases e
/-- One round over all groups. -/
theorem round_eq {d : Doc} (h : Right d) (P S : Nat → Bool) : ∃ b S', rfor (d.Nodes.length : Int) (page_Delete_L4 d (viewD d)) (false, MK d.Nodes.length S) = some (b, MK d.Nodes.length S') ∧ Sup d S S' ∧ (Jf d P S → Jf d P S') ∧
    (b = true → cntS d.Nodes.length S' < cntS d.Nodes.length S) ∧ (b = false → (∀ i : Nat, i < d.Nodes.length → S' i = S i) ∧ Cl d S) := by
  have hnl := h.nl
  obtain ⟨s, p1, S', p2, p3, p4, p5, p6⟩ := rfor_inv (n := (d.Nodes.length : Int)) (step := page_Delete_L4 d (viewD d)) (s0 := (false, MK d.Nodes.length S))
    (fun t s => ∃ S', s.2 = MK d.Nodes.length S' ∧ Sup d S S' ∧ (Jf d P S → Jf d P S') ∧ (s.1 = true → cntS d.Nodes.length S' < cntS d.Nodes.length S) ∧
      (s.1 = false → (∀ i : Nat, i < d.Nodes.length → S' i = S i) ∧ ∀ i : Nat, i < t → i < d.Nodes.length → (gx d.Nodes (i : Int)).Kind = 6 → memAll d S i = true → S i = true)) (by omega)
    ⟨S, rfl, fun i _ h => h, id, (fun h => by cases h), fun _ => ⟨fun i _ => rfl, fun i hi => by omega⟩⟩ (fun i s hi hI => by
      have hi' : i < d.Nodes.length := by omega
      obtain ⟨S', q1, q2, q3, q4, q5⟩ := hI
      obtain ⟨b, mk⟩ := s
      simp only at q1 q4 q5
      subst q1
      unfold page_Delete_L4
      simp only
      rw [need_of ⟨by omega, by omega⟩, bnd_eq, left_eq h S' hi', Option.bind_some, need_of ⟨by omega, by rw [MK_len]; omega⟩, MK_at hi']
      simp only [Bool.not_not]
      cases hc : ((!S' i) && decide ((gx d.Nodes (i : Int)).Kind = 6)) && memAll d S' i with
      | true =>
        simp only [Bool.and_eq_true, Bool.not_eq_true', decide_eq_true_eq] at hc
        obtain ⟨⟨c1, c2⟩, c3⟩ := hc
        rw [cond_true, need_of ⟨by omega, by rw [MK_len]; omega⟩, Int.toNat_natCast, MK_set]
        have hsup : ∀ j : Nat, j < d.Nodes.length → S' j = true → (if j = i then true else S' j) = true := fun j _ hj => by split <;> simp [hj]
        refine ⟨_, rfl, _, rfl, fun j hj hs => hsup j hj (q2 j hj hs), fun hJ T hT hC j hj hs => ?_, fun _ => ?_, fun e => by cases e⟩
        · by_cases e : j = i
          · subst e
            exact hC j hj c2 (memAll_iff.2 fun m hm hp => q3 hJ T hT hC m hm (memAll_iff.1 c3 m hm hp))
          · have hs : (if j = i then true else S' j) = true := hs
            rw [if_neg e] at hs
            exact q3 hJ T hT hC j hj hs
        · have := cnt_lt (n := d.Nodes.length) (S := S') (S' := fun j => if j = i then true else S' j) hsup hi' c1 (by simp)
          have := cnt_le (n := d.Nodes.length) (S := S) (S' := S') q2
          omega
      | false =>
        rw [cond_false]
        refine ⟨_, rfl, S', rfl, q2, q3, q4, fun e => ⟨(q5 e).1, fun j hj hjn hk hm => ?_⟩⟩
        by_cases e2 : j = i
        · subst e2
          have hS := (q5 e).1
          have hm' : memAll d S' j = true := memAll_iff.2 fun m hm' hp => by rw [hS m hm']; exact memAll_iff.1 hm m hm' hp
          rw [hm', decide_eq_true hk, hS j hjn] at hc
          cases hq : S j with
          | true => rfl
          | false => rw [hq] at hc; cases hc
        · exact (q5 e).2 j (by omega) hjn hk hm)
  refine ⟨s.1, S', by rw [p1, ← p2], p3, p4, p5, fun e => ⟨(p6 e).1, fun i hi hk hm => (p6 e).2 i (by omega) hi hk hm⟩⟩
theorem rounds_eq {d : Doc} (h : Right d) (P : Nat → Bool) : ∃ S, loop (page_Delete_L3 d (viewD d)) (true, MK d.Nodes.length P) = some (MK d.Nodes.length S) ∧ Sup d P S ∧ Jf d P S ∧ Cl d S := by
  obtain ⟨e, e1, S, e2, e3, e4, e5⟩ := loop_inv (body := page_Delete_L3 d (viewD d)) (s0 := (true, MK d.Nodes.length P))
    (fun s => ∃ S, s.2 = MK d.Nodes.length S ∧ Sup d P S ∧ Jf d P S ∧ (s.1 = false → Cl d S)) (fun s => 2 * (s.2.filter fun b => !b).length + (if s.1 = true then 1 else 0))
    (fun e => ∃ S, e = MK d.Nodes.length S ∧ Sup d P S ∧ Jf d P S ∧ Cl d S)
    ⟨P, rfl, fun i _ h => h, fun T hT _ => hT, fun h => by cases h⟩ (fun s hI => by
      obtain ⟨S, q1, q2, q3, q4⟩ := hI
      obtain ⟨b, mk⟩ := s
      simp only at q1 q4
      subst q1
      unfold page_Delete_L3
      cases b with
      | true =>
        left
        obtain ⟨b', S', r1, r2, r3, r4, r5⟩ := round_eq h P S
        simp only [cond_true]
        rw [r1, Option.bind_some]
        refine ⟨_, rfl, ⟨S', rfl, fun i hi hp => r2 i hi (q2 i hi hp), r3 q3, fun e => ?_⟩, ?_⟩
        · obtain ⟨g1, g2⟩ := r5 e
          intro i hi hk hm
          rw [g1 i hi]
          exact g2 i hi hk (memAll_iff.2 fun m hm' hp => by rw [← g1 m hm']; exact memAll_iff.1 hm m hm' hp)
        · simp only [cnt_mk, if_true]
          have := cnt_le (n := d.Nodes.length) (S := S) (S' := S') r2
          cases b' with
          | true => have := r4 rfl; simp only [if_true]; omega
          | false => simp only [Bool.false_eq_true, if_false]; omega
      | false =>
        right
        simp only [cond_false]
        exact ⟨_, rfl, S, rfl, q2, q3, q4 rfl⟩)
  exact ⟨S, by rw [e1, e2], e3, e4, e5⟩
theorem marks_D {d : Doc} (h : Right d) (ids : List Str) (o : Option Page_view) (c : Int) : rfor ((rootL d.Nodes ids).length : Int) (page_Delete_L1 (o, rootL d.Nodes ids, c) (viewD d)) (List.replicate (d.Nodes.length : Int).toNat false) = some (MK d.Nodes.length (fun j => tchB d.Nodes ids (gx d.Nodes (j : Int)))) := by
  have hnl := h.nl
  have hRl := rootL_len (l := d.Nodes) (ids := ids) h.nl
  have hrep : List.replicate (d.Nodes.length : Int).toNat false = MK d.Nodes.length (fun _ => false) := by
    unfold MK
    rw [show (d.Nodes.length : Int).toNat = d.Nodes.length by omega, List.map_const', List.length_range]
  obtain ⟨mk, g1, g2⟩ := rfor_inv (n := ((rootL d.Nodes ids).length : Int)) (step := page_Delete_L1 (o, rootL d.Nodes ids, c) (viewD d)) (s0 := MK d.Nodes.length (fun _ => false)) (fun k s => s = MK d.Nodes.length (fun j => ((rootL d.Nodes ids).take k).any (fun c => subB d.Nodes c.toNat j))) (by omega) (by simp) (fun k s hk hI => by
    subst hI
    have hk' : k < (rootL d.Nodes ids).length := by omega
    unfold page_Delete_L1
    obtain ⟨j, hj, e, _⟩ := rootL_mem (List.getElem_mem hk')
    simp only
    rw [need_of ⟨by omega, by omega⟩, gx_nat hk', e, below_eq h hj, Option.bind_some]
    refine ⟨_, rfl, MK_congr fun t ht => ?_⟩
    rw [List.take_succ_eq_append_getElem hk', List.any_append, e]
    simp)
  rw [hrep, g1, g2, show ((rootL d.Nodes ids).length : Int).toNat = (rootL d.Nodes ids).length by omega, List.take_length]
  congr 1
  exact MK_congr fun j hj => by rw [roots_tch h ids hj, gx_nat hj]
theorem Delete_eq {d : Doc} (hck : page_Check d = some 0) (h : Right d) {ids : List Str} (hi : (ids.length : Int) ≤ 9223372036854775807) (hs : selErr d.Nodes ids = 0) :
    ∃ S, Sup d (fun j => tchB d.Nodes ids (gx d.Nodes (j : Int))) S ∧ Jf d (fun j => tchB d.Nodes ids (gx d.Nodes (j : Int))) S ∧ Cl d S ∧
      page_Delete d ids = some (if lockT d (fun j => tchB d.Nodes ids (gx d.Nodes (j : Int))) = true then (⟨[], []⟩, 12) else (⟨leftN d S, leftE d S⟩, 0)) := by
  have hnl := h.nl
  have hel := h.el
  obtain ⟨S, s1, s2, s3, s4⟩ := rounds_eq h (fun j => tchB d.Nodes ids (gx d.Nodes (j : Int)))
  refine ⟨S, s2, s3, s4, ?_⟩
  unfold page_Delete
  rw [bnd_eq, selected_eq hck h hi, if_pos hs, Option.bind_some]
  simp only [decide_true, Bool.not_true, cond_false, bnd_eq, Option.bind_some]
  rw [need_of ⟨by omega, by omega, by omega⟩, marks_D h ids, Option.bind_some]
  generalize hP : (fun j : Nat => tchB d.Nodes ids (gx d.Nodes (j : Int))) = P at *
  have hlk : rforE (d.Nodes.length : Int) (page_Delete_L2 d (MK d.Nodes.length P)) (fun s => Res.nx s) () = some (if lockT d P = true then Res.ab ((⟨[], []⟩ : Doc), (12 : Int)) else Res.nx ()) := by
    obtain ⟨e, e1, e2⟩ := rforE_inv (n := (d.Nodes.length : Int)) (step := page_Delete_L2 d (MK d.Nodes.length P)) (fin := fun s => Res.nx s) (s0 := ()) (fun t _ => ∀ j : Nat, j < t → j < d.Nodes.length → (P j && (gx d.Nodes (j : Int)).Locked) = false)
      (fun o => o = if lockT d P = true then Res.ab ((⟨[], []⟩ : Doc), (12 : Int)) else Res.nx ()) (by omega) (fun j hj => by omega) (fun i s hi' hI => by
        have hi2 : i < d.Nodes.length := by omega
        unfold page_Delete_L2
        rw [need_of ⟨by omega, by omega⟩, bnd_eq, need_of ⟨by omega, by rw [MK_len]; omega⟩, MK_at hi2]
        cases hc : P i && (gx d.Nodes (i : Int)).Locked with
        | true =>
          right
          refine ⟨_, rfl, ?_⟩
          rw [if_pos (show lockT d P = true from List.any_eq_true.2 ⟨i, List.mem_range.2 hi2, hc⟩)]
        | false =>
          left
          refine ⟨(), rfl, fun j hj hjn => ?_⟩
          by_cases e : j = i
          · subst e; exact hc
          · exact hI j (by omega) hjn)
      (fun s hI => by
        rw [if_neg]
        intro hl
        obtain ⟨j, hj, e⟩ := List.any_eq_true.1 hl
        have := hI j (by have := List.mem_range.1 hj; omega) (List.mem_range.1 hj)
        rw [this] at e; cases e)
    rw [e1, e2]
  rw [hlk]
  cases lockT d P with
  | true => rfl
  | false =>
    simp only [Bool.false_eq_true, if_false]
    show Option.bind (loop (page_Delete_L3 d (viewD d)) (true, MK d.Nodes.length P)) _ = _
    rw [s1, Option.bind_some]
    obtain ⟨a, a1, a2⟩ := rfor_inv (n := (d.Nodes.length : Int)) (step := page_Delete_L5 d (MK d.Nodes.length S)) (s0 := (⟨[], []⟩ : Doc)) (fun t s => s = ⟨((List.range t).filter fun j => !S j).map fun (j : Nat) => gx d.Nodes (j : Int), []⟩) (by omega) rfl (fun i s hi' hI => by
      subst hI
      have hi2 : i < d.Nodes.length := by omega
      have hlen := cnt_bd i S
      unfold cntS at hlen
      unfold page_Delete_L5
      rw [need_of ⟨by omega, by omega⟩, bnd_eq, need_of ⟨by omega, by rw [MK_len]; omega⟩, MK_at hi2]
      cases hc : S i with
      | true =>
        simp only [Bool.not_true, cond_false]
        refine ⟨_, rfl, ?_⟩
        rw [List.range_succ, List.filter_append, List.map_append]
        simp [hc]
      | false =>
        simp only [Bool.not_false, cond_true]
        rw [need_of (by rw [room_iff]; simp only [List.length_map, List.length_singleton]; omega)]
        refine ⟨_, rfl, ?_⟩
        rw [List.range_succ, List.filter_append, List.map_append]
        simp [hc])
    have hle : ∀ k : Nat, k ≤ d.Edges.length → ((d.Edges.take k).filter fun x => !(S (nodeAt d.Nodes x.From.Node).toNat || S (nodeAt d.Nodes x.To.Node).toNat)).length ≤ 1000 := fun k hk => by
      have h1 := List.length_filter_le (fun x : DEdge => !(S (nodeAt d.Nodes x.From.Node).toNat || S (nodeAt d.Nodes x.To.Node).toNat)) (d.Edges.take k)
      rw [List.length_take] at h1; omega
    have hvn : (viewD d).number = numM d.Nodes := rfl
    obtain ⟨b, b1, b2⟩ := rfor_inv (n := (d.Edges.length : Int)) (step := page_Delete_L6 d (viewD d) (MK d.Nodes.length S)) (s0 := (⟨leftN d S, []⟩ : Doc)) (fun t s => s = ⟨leftN d S, (d.Edges.take t).filter fun x => !(S (nodeAt d.Nodes x.From.Node).toNat || S (nodeAt d.Nodes x.To.Node).toNat)⟩) (by omega) rfl (fun i s hi' hI => by
      subst hI
      have hi2 : i < d.Edges.length := by omega
      have hlen := hle i (by omega)
      obtain ⟨⟨f1, f2⟩, t1, t2⟩ := h.endsIn (List.getElem_mem hi2)
      unfold page_Delete_L6
      rw [need_of ⟨by omega, by omega⟩, bnd_eq, hvn, gx_nat hi2, numM_getD f1, numM_getD t1]
      have g1 : gx (MK d.Nodes.length S) (nodeAt d.Nodes d.Edges[i].From.Node) = S (nodeAt d.Nodes d.Edges[i].From.Node).toNat := by
        conv => lhs; rw [← Int.toNat_of_nonneg f1]
        rw [MK_at (by omega)]
      have g2 : gx (MK d.Nodes.length S) (nodeAt d.Nodes d.Edges[i].To.Node) = S (nodeAt d.Nodes d.Edges[i].To.Node).toNat := by
        conv => lhs; rw [← Int.toNat_of_nonneg t1]
        rw [MK_at (by omega)]
      rw [need_of ⟨by omega, by rw [MK_len]; omega⟩, need_of (fun _ => ⟨by omega, by rw [MK_len]; omega⟩), g1, g2, ← Bool.not_or]
      rw [List.take_succ_eq_append_getElem hi2, List.filter_append]
      cases hc : S (nodeAt d.Nodes d.Edges[i].From.Node).toNat || S (nodeAt d.Nodes d.Edges[i].To.Node).toNat with
      | true =>
        simp only [Bool.not_true, cond_false]
        refine ⟨_, rfl, ?_⟩
        rw [List.filter_cons_of_neg (by rw [hc]; simp)]
        simp
      | false =>
        simp only [Bool.not_false, cond_true]
        rw [need_of (by rw [room_iff]; simp only [List.length_singleton]; omega)]
        refine ⟨_, rfl, ?_⟩
        rw [List.filter_cons_of_pos (by rw [hc]; rfl)]
        simp)
    have e1 : (d.Nodes.length : Int).toNat = d.Nodes.length := by omega
    have e2 : (d.Edges.length : Int).toNat = d.Edges.length := by omega
    rw [e1] at a2
    rw [e2, List.take_length] at b2
    have ha : a = ⟨leftN d S, []⟩ := a2
    have hb : b = ⟨leftN d S, leftE d S⟩ := b2
    rw [a1, Option.bind_some, ha]
    show Option.bind (rfor (d.Edges.length : Int) _ (⟨leftN d S, []⟩ : Doc)) _ = _
    rw [b1, Option.bind_some, hb]
    rw [cloned_of (by simp only; rw [leftN_len]; have := cnt_bd d.Nodes.length S; omega) (by simp only; unfold leftE; have := List.length_filter_le (fun x : DEdge => !(S (nodeAt d.Nodes x.From.Node).toNat || S (nodeAt d.Nodes x.To.Node).toNat)) d.Edges; omega) (fun x hx => by
      have := h.bends ((List.mem_filter.1 hx).1); omega), Option.bind_some]
theorem getD_setT {m : GMap Str Bool} {k x : Str} {v : Bool} : (m.set k v).getD x false = if x = k then v else m.getD x false := by
  unfold GMap.getD GMap.set
  simp only
  split <;> rfl
/-- What the map tells is what is picked. -/
def Tells (d : Doc) (m : GMap Str Bool) (S : Nat → Bool) : Prop := ∀ j : Nat, j < d.Nodes.length → m.getD (gx d.Nodes (j : Int)).Id false = S j
theorem gxId_inj {d : Doc} (h : Right d) {i j : Nat} (hi : i < d.Nodes.length) (hj : j < d.Nodes.length) (e : (gx d.Nodes (i : Int)).Id = (gx d.Nodes (j : Int)).Id) : i = j := by
  rw [gx_nat hi, gx_nat hj] at e
  exact h.at_Id hi hj e
theorem cut_eq {d : Doc} {m : GMap Str Bool} {S Rm : Nat → Bool} (hm : Tells d m S) (hR : Sup d Rm S) : (leftN d Rm).filter (fun n => !m.getD n.Id false) = leftN d S := by
  unfold leftN
  rw [List.filter_map, cnt_filter hR]
  congr 1
  refine List.filter_congr fun i hi => ?_
  have hi' := List.mem_range.1 ((List.mem_filter.1 hi).1)
  simp only [Function.comp]
  rw [hm i hi']
theorem members0 {d : Doc} (S : Nat → Bool) {i : Nat} : decide ((((leftN d S).filter fun n => decide (n.Parent = (gx d.Nodes (i : Int)).Id)).length : Int) = 0) = memAll d S i := by
  rw [Bool.eq_iff_iff, decide_eq_true_eq, memAll_iff]
  constructor
  · intro e m hm hp
    cases hS : S m with
    | true => rfl
    | false =>
      have : gx d.Nodes (m : Int) ∈ (leftN d S).filter fun n => decide (n.Parent = (gx d.Nodes (i : Int)).Id) := List.mem_filter.2 ⟨List.mem_map.2 ⟨m, List.mem_filter.2 ⟨List.mem_range.2 hm, by rw [hS]; rfl⟩, rfl⟩, decide_eq_true hp⟩
      have := List.length_pos_of_mem this
      omega
  · intro hall
    have : (leftN d S).filter (fun n => decide (n.Parent = (gx d.Nodes (i : Int)).Id)) = [] := by
      rw [List.filter_eq_nil_iff]
      intro n hn e
      obtain ⟨m, hm, rfl⟩ := List.mem_map.1 hn
      obtain ⟨h1, h2⟩ := List.mem_filter.1 hm
      have := hall m (List.mem_range.1 h1) (of_decide_eq_true e)
      rw [this] at h2; cases h2
    rw [this]; rfl
def pickK (d : Doc) (S : Nat → Bool) (j : Nat) : Bool := decide ((gx d.Nodes (j : Int)).Kind = 6) && memAll d S j
theorem pass_eq {d : Doc} (h : Right d) {m : GMap Str Bool} {S : Nat → Bool} (hm : Tells d m S) (b : Bool) (D : Doc) (m0 : GMap Str Bool) :
    ∃ m', rfor ((leftN d S).length : Int) (ref_DeleteOf_L3 (leftN d S) (b, D, m0)) m = some m' ∧ Tells d m' (fun j => S j || pickK d S j) := by
  have hnl := h.nl
  have hbd := cnt_bd d.Nodes.length S
  have hLl : (leftN d S).length = cntS d.Nodes.length S := leftN_len d S
  obtain ⟨m', p1, p2⟩ := rfor_inv (n := ((leftN d S).length : Int)) (step := ref_DeleteOf_L3 (leftN d S) (b, D, m0)) (s0 := m)
    (fun t s => Tells d s (fun j => S j || (decide (j ∈ ((List.range d.Nodes.length).filter fun j => !S j).take t) && pickK d S j))) (by omega) (fun j hj => by rw [hm j hj]; simp) (fun i s hi hI => by
      have hi' : i < (leftN d S).length := by omega
      have hi2 : i < ((List.range d.Nodes.length).filter fun j => !S j).length := by unfold leftN at hi'; rwa [List.length_map] at hi'
      unfold ref_DeleteOf_L3
      have hg : gx (leftN d S) (i : Int) = gx d.Nodes ((((List.range d.Nodes.length).filter fun j => !S j)[i] : Nat) : Int) := by
        rw [gx_nat hi']; simp only [leftN, List.getElem_map]
      have hjm := List.getElem_mem hi2
      rw [need_of ⟨by omega, by omega⟩, bnd_eq, hg]
      generalize hj : ((List.range d.Nodes.length).filter fun j => !S j)[i] = j at *
      obtain ⟨j1, j2⟩ := List.mem_filter.1 hjm
      have j1 := List.mem_range.1 j1
      have hmem : ∃ r4, gd (decide ((gx d.Nodes (j : Int)).Kind = 6)) (ref_members { D with Nodes := leftN d S, Edges := D.Edges } (gx d.Nodes (j : Int)).Id) = some r4 ∧ (decide ((gx d.Nodes (j : Int)).Kind = 6) && decide ((r4.length : Int) = 0)) = pickK d S j := by
        unfold pickK
        by_cases c : (gx d.Nodes (j : Int)).Kind = 6
        · rw [decide_eq_true c, gd_true, members_eq (by simp only; omega)]
          exact ⟨_, rfl, by rw [members0]⟩
        · rw [decide_eq_false c]; exact ⟨default, rfl, rfl⟩
      obtain ⟨r4, r41, r42⟩ := hmem
      simp only
      rw [r41, Option.bind_some, r42]
      have htake : ∀ t : Nat, decide (t ∈ ((List.range d.Nodes.length).filter fun j => !S j).take (i + 1)) = (decide (t ∈ ((List.range d.Nodes.length).filter fun j => !S j).take i) || decide (t = j)) := fun t => by
        rw [List.take_succ_eq_append_getElem hi2, hj, Bool.eq_iff_iff]
        simp
      cases hc : pickK d S j with
      | true =>
        rw [cond_true]
        refine ⟨_, rfl, fun t ht => ?_⟩
        simp only
        rw [getD_setT, htake]
        by_cases e : t = j
        · subst e; rw [if_pos rfl, hc]; simp
        · rw [if_neg (fun x => e (gxId_inj h ht j1 x)), hI t ht, decide_eq_false e, Bool.or_false]
      | false =>
        rw [cond_false]
        refine ⟨_, rfl, fun t ht => ?_⟩
        simp only
        rw [hI t ht, htake]
        by_cases e : t = j
        · subst e; simp [hc]
        · rw [decide_eq_false e, Bool.or_false])
  refine ⟨m', p1, fun j hj => ?_⟩
  rw [p2 j hj]
  have e : ((leftN d S).length : Int).toNat = ((List.range d.Nodes.length).filter fun j => !S j).length := by
    unfold leftN; rw [List.length_map]; omega
  rw [e, List.take_length]
  show (S j || (decide (j ∈ (List.range d.Nodes.length).filter fun j => !S j) && pickK d S j)) = (S j || pickK d S j)
  cases hS : S j with
  | true => rfl
  | false =>
    have : decide (j ∈ (List.range d.Nodes.length).filter fun j => !S j) = true := decide_eq_true (List.mem_filter.2 ⟨List.mem_range.2 hj, by rw [hS]; rfl⟩)
    rw [this]; simp
theorem drops_eq {d : Doc} (h : Right d) (P : Nat → Bool) {m : GMap Str Bool} (hm : Tells d m P) :
    ∃ S m', loop ref_DeleteOf_L2 (true, d, m) = some ((⟨leftN d S, d.Edges⟩ : Doc), m') ∧ Tells d m' S ∧ Sup d P S ∧ Jf d P S ∧ Cl d S := by
  have hnl := h.nl
  obtain ⟨e, e1, S, e2, e3, e4, e5, e6⟩ := loop_inv (body := ref_DeleteOf_L2) (s0 := (true, d, m))
    (fun s => ∃ S Rm, s.2.1 = ⟨leftN d Rm, d.Edges⟩ ∧ Tells d s.2.2 S ∧ Sup d Rm S ∧ Sup d P S ∧ Jf d P S ∧ (s.1 = false → Cl d S ∧ ∀ j : Nat, j < d.Nodes.length → Rm j = S j))
    (fun s => 2 * (s.2.1.Nodes.length + cntS d.Nodes.length (fun j => s.2.2.getD (gx d.Nodes (j : Int)).Id false)) + (if s.1 = true then 1 else 0))
    (fun e => ∃ S, e.1 = ⟨leftN d S, d.Edges⟩ ∧ Tells d e.2 S ∧ Sup d P S ∧ Jf d P S ∧ Cl d S)
    ⟨P, fun _ => false, by
      have : leftN d (fun _ => false) = d.Nodes := by
        unfold leftN
        simp only [Bool.not_false]
        rw [List.filter_eq_self.2 (fun _ _ => rfl), range_gxS]
      rw [this], hm, fun i _ hx => by simp at hx, fun i _ hx => hx, fun T hT _ => hT, fun hx => by cases hx⟩ (fun s hI => by
      obtain ⟨S, Rm, q1, q2, q3, q4, q5, q6⟩ := hI
      obtain ⟨b, D, mp⟩ := s
      simp only at q1 q2 q6
      subst q1
      unfold ref_DeleteOf_L2
      cases b with
      | true =>
        left
        have hRl : (leftN d Rm).length = cntS d.Nodes.length Rm := leftN_len d Rm
        have hSl : (leftN d S).length = cntS d.Nodes.length S := leftN_len d S
        have hb1 := cnt_bd d.Nodes.length Rm
        have hb2 := cnt_bd d.Nodes.length S
        have hSR := cnt_le (n := d.Nodes.length) (S := Rm) (S' := S) q3
        obtain ⟨m', p1, p2⟩ := pass_eq h q2 true (⟨leftN d Rm, d.Edges⟩ : Doc) mp
        simp only [cond_true]
        rw [DeleteFunc_Node_eq (leftN d Rm) (fun x0 => ref_DeleteOf_1 x0 mp) (fun n => mp.getD n.Id false) (by omega) (fun x _ => rfl), Option.bind_some, cut_eq q2 q3]
        rw [p1, Option.bind_some]
        have hany : ∃ r5, gd (!(!decide (((leftN d Rm).length : Int) = ((leftN d S).length : Int)))) (slices_ContainsFunc_Node (leftN d S) (fun x0 => ref_DeleteOf_2 x0 m')) = some r5 ∧
            ((!decide (((leftN d Rm).length : Int) = ((leftN d S).length : Int))) || r5) = ((!decide ((leftN d Rm).length = (leftN d S).length)) || (leftN d S).any (fun n => m'.getD n.Id false)) := by
          rw [ContainsFunc_Node_eq (leftN d S) (fun x0 => ref_DeleteOf_2 x0 m') (fun n => m'.getD n.Id false) (by omega) (fun x _ => rfl)]
          by_cases c : (leftN d Rm).length = (leftN d S).length
          · rw [decide_eq_true c, decide_eq_true (show ((leftN d Rm).length : Int) = ((leftN d S).length : Int) by omega)]; exact ⟨_, rfl, rfl⟩
          · rw [decide_eq_false c, decide_eq_false (show ¬ ((leftN d Rm).length : Int) = ((leftN d S).length : Int) by omega)]; exact ⟨default, rfl, rfl⟩
        obtain ⟨r5, g1, g2⟩ := hany
        rw [g1, Option.bind_some, g2]
        have hsup : Sup d S (fun j => S j || pickK d S j) := fun j _ hj => by simp only; rw [hj]; rfl
        have hany0 : (leftN d S).any (fun n => m'.getD n.Id false) = false → ∀ j : Nat, j < d.Nodes.length → (S j || pickK d S j) = S j := fun e j hj => by
          cases hS : S j with
          | true => rfl
          | false =>
            rw [List.any_eq_false] at e
            have := e (gx d.Nodes (j : Int)) (List.mem_map.2 ⟨j, List.mem_filter.2 ⟨List.mem_range.2 hj, by rw [hS]; rfl⟩, rfl⟩)
            rw [p2 j hj] at this
            have this : ¬ ((S j || pickK d S j) = true) := this
            rw [hS] at this
            simpa using this
        refine ⟨_, rfl, ⟨fun j => S j || pickK d S j, S, rfl, p2, hsup, fun i hi hp => hsup i hi (q4 i hi hp), fun T hT hC j hj hs => ?_, fun e => ?_⟩, ?_⟩
        · cases hS : S j with
          | true => exact q5 T hT hC j hj hS
          | false =>
            simp only [hS, Bool.false_or] at hs
            unfold pickK at hs
            rw [Bool.and_eq_true, decide_eq_true_eq] at hs
            exact hC j hj hs.1 (memAll_iff.2 fun t ht hp => q5 T hT hC t ht (memAll_iff.1 hs.2 t ht hp))
        · simp only [Bool.or_eq_false_iff, Bool.not_eq_false', decide_eq_true_eq] at e
          have hsame := hany0 e.2
          refine ⟨fun i hi hk hmm => ?_, fun j hj => (hsame j hj).symm⟩
          have : memAll d S i = true := memAll_iff.2 fun t ht hp => by rw [← hsame t ht]; exact memAll_iff.1 hmm t ht hp
          show (S i || pickK d S i) = true
          unfold pickK
          rw [this, decide_eq_true hk]; simp
        · simp only [if_true]
          have hc1 : cntS d.Nodes.length (fun j => mp.getD (gx d.Nodes (j : Int)).Id false) = cntS d.Nodes.length S := by
            unfold cntS
            congr 1
            exact List.filter_congr fun j hj => by show (!mp.getD (gx d.Nodes (j : Int)).Id false) = !S j; rw [q2 j (List.mem_range.1 hj)]
          have hc2 : cntS d.Nodes.length (fun j => m'.getD (gx d.Nodes (j : Int)).Id false) = cntS d.Nodes.length (fun j => S j || pickK d S j) := by
            unfold cntS
            congr 1
            exact List.filter_congr fun j hj => by show (!m'.getD (gx d.Nodes (j : Int)).Id false) = !(S j || pickK d S j); rw [p2 j (List.mem_range.1 hj)]
          rw [hc1, hc2]
          have hle := cnt_le (n := d.Nodes.length) (S := S) (S' := fun j => S j || pickK d S j) hsup
          by_cases c : (leftN d Rm).length = (leftN d S).length
          · rw [decide_eq_true c, Bool.not_true, Bool.false_or]
            cases ha : (leftN d S).any (fun n => m'.getD n.Id false) with
            | false => simp only [Bool.false_eq_true, if_false]; omega
            | true =>
              obtain ⟨x, hx, ex⟩ := List.any_eq_true.1 ha
              obtain ⟨j, hj, rfl⟩ := List.mem_map.1 hx
              obtain ⟨j1, j2⟩ := List.mem_filter.1 hj
              have j1 := List.mem_range.1 j1
              have hlt := cnt_lt (n := d.Nodes.length) (S := S) (S' := fun j => S j || pickK d S j) hsup j1 (by simpa using j2) (by have q : m'.getD (gx d.Nodes (j : Int)).Id false = (S j || pickK d S j) := p2 j j1; show (S j || pickK d S j) = true; rw [← q]; exact ex)
              simp only [if_true]; omega
          · rw [decide_eq_false c]
            simp only [Bool.not_false, Bool.true_or, if_true]; omega
      | false =>
        right
        obtain ⟨c1, c2⟩ := q6 rfl
        simp only [cond_false]
        exact ⟨_, rfl, S, by simp only; rw [leftN_congr c2], q2, q4, q5, c1⟩)
  exact ⟨S, e.2, by rw [e1, ← e2], e3, e4, e5, e6⟩
theorem DeleteOf_eq {d : Doc} (h : Right d) {ids : List Str} (hi : (ids.length : Int) ≤ 9223372036854775807) :
    ∃ S, Sup d (fun j => tchB d.Nodes ids (gx d.Nodes (j : Int))) S ∧ Jf d (fun j => tchB d.Nodes ids (gx d.Nodes (j : Int))) S ∧ Cl d S ∧
      ref_DeleteOf d ids = some (if lockT d (fun j => tchB d.Nodes ids (gx d.Nodes (j : Int))) = true then (⟨[], []⟩, 12) else (⟨leftN d S, leftE d S⟩, 0)) := by
  have hnl := h.nl
  have hel := h.el
  obtain ⟨m, hm, hmt⟩ := Touched_eq h hi
  have ht : Tells d m (fun j => tchB d.Nodes ids (gx d.Nodes (j : Int))) := fun j hj => by
    have := hmt j hj
    show m.getD (gx d.Nodes (j : Int)).Id false = tchB d.Nodes ids (gx d.Nodes (j : Int))
    rw [gx_nat hj]; exact this
  generalize hP : (fun j : Nat => tchB d.Nodes ids (gx d.Nodes (j : Int))) = P at *
  obtain ⟨S, m', s1, s2, s3, s4, s5⟩ := drops_eq h P ht
  refine ⟨S, s3, s4, s5, ?_⟩
  unfold ref_DeleteOf
  rw [bnd_eq, hm, Option.bind_some]
  have hlk : rforE (d.Nodes.length : Int) (ref_DeleteOf_L1 d m) (fun s => Res.nx s) () = some (if lockT d P = true then Res.ab ((⟨[], []⟩ : Doc), (12 : Int)) else Res.nx ()) := by
    obtain ⟨e, e1, e2⟩ := rforE_inv (n := (d.Nodes.length : Int)) (step := ref_DeleteOf_L1 d m) (fin := fun s => Res.nx s) (s0 := ()) (fun t _ => ∀ j : Nat, j < t → j < d.Nodes.length → (P j && (gx d.Nodes (j : Int)).Locked) = false)
      (fun o => o = if lockT d P = true then Res.ab ((⟨[], []⟩ : Doc), (12 : Int)) else Res.nx ()) (by omega) (fun j hj => by omega) (fun i s hi' hI => by
        have hi2 : i < d.Nodes.length := by omega
        unfold ref_DeleteOf_L1
        rw [need_of ⟨by omega, by omega⟩, bnd_eq, ht i hi2]
        cases hc : P i && (gx d.Nodes (i : Int)).Locked with
        | true =>
          right
          refine ⟨_, rfl, ?_⟩
          rw [if_pos (show lockT d P = true from List.any_eq_true.2 ⟨i, List.mem_range.2 hi2, hc⟩)]
        | false =>
          left
          refine ⟨(), rfl, fun j hj hjn => ?_⟩
          by_cases e : j = i
          · subst e; exact hc
          · exact hI j (by omega) hjn)
      (fun s hI => by
        rw [if_neg]
        intro hl
        obtain ⟨j, hj, e⟩ := List.any_eq_true.1 hl
        have := hI j (by have := List.mem_range.1 hj; omega) (List.mem_range.1 hj)
        rw [this] at e; cases e)
    rw [e1, e2]
  rw [hlk]
  cases lockT d P with
  | true => rfl
  | false =>
    simp only [Bool.false_eq_true, if_false]
    show Option.bind (ref_Copied d) _ = _
    rw [Copied_eq h, Option.bind_some]
    show Option.bind (loop ref_DeleteOf_L2 (true, d, m)) _ = _
    rw [s1, Option.bind_some]
    simp only
    rw [DeleteFunc_Edge_eq d.Edges (fun x0 => ref_DeleteOf_3 x0 m') (fun x => m'.getD x.From.Node false || m'.getD x.To.Node false) (by omega) (fun x _ => rfl), Option.bind_some, bnd_eq]
    have he : d.Edges.filter (fun x => !(m'.getD x.From.Node false || m'.getD x.To.Node false)) = leftE d S := by
      unfold leftE
      refine List.filter_congr fun x hx => ?_
      have key : ∀ id, inR d.Nodes (nodeAt d.Nodes id) → m'.getD id false = S (nodeAt d.Nodes id).toNat := fun id hin => by
        obtain ⟨a, b⟩ := hin
        have h2 := (nodeAt_in (l := d.Nodes) (id := id) (by omega)).2
        have := s2 (nodeAt d.Nodes id).toNat (by omega)
        rw [Int.toNat_of_nonneg a, h2] at this
        exact this
      obtain ⟨a, b⟩ := h.endsIn hx
      rw [key _ a, key _ b]
    rw [he]
end Go.DB
