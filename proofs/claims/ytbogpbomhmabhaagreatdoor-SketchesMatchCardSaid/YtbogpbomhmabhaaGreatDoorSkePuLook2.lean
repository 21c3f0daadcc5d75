/-
  Right diagrams, in plain words: the order of drawing.
-/
import Derived.Test.YtbogpbomhmabhaaGreatDoorSkePuLook1
set_option linter.unusedSimpArgs false
set_option linter.unusedVariables false
namespace Go.DB
open Go Go.RowKit

/-- A node, and what is below it. -/
def ordF (l : List DNode) : Nat → Int → List Int
  | 0, _ => []
  | f + 1, k => k :: (idxs l (gx l k).Id).flatMap (ordF l f)
/-- All nodes, in order. -/
def ordT (l : List DNode) : List Int := (idxs l Str.nil).flatMap (ordF l 9)
section
variable {d : Doc}
theorem sub_anc (h : Right d) {c j : Nat} (hc : c < d.Nodes.length) (hj : j < d.Nodes.length) (hs : subB d.Nodes c j = true) {m mj : Nat} (hm : Dp d.Nodes d.Nodes[c] m) (hmj : Dp d.Nodes d.Nodes[j] mj) : m ≤ mj ∧ anc d.Nodes d.Nodes[j] (mj - m) = d.Nodes[c] := by
  unfold subB at hs
  rw [Bool.or_eq_true, decide_eq_true_eq, belB_iff, gx_nat hj, gx_nat hc] at hs
  rcases hs with rfl | ⟨q, h1, h2⟩
  · have := hm.uni hmj
    subst this
    exact ⟨Nat.le_refl _, by rw [Nat.sub_self]; rfl⟩
  · have e : anc d.Nodes d.Nodes[j] (q + 1) = d.Nodes[c] := par_at h.hd hc h2
    have hle : q + 1 ≤ mj := by
      apply Classical.byContradiction
      intro hx
      exact h1 mj (by omega) hmj.1
    have := hmj.anc hle
    rw [e] at this
    have := this.uni hm
    refine ⟨by omega, ?_⟩
    rw [show mj - m = q + 1 by omega]; exact e
theorem sub_one (h : Right d) {c c' j : Nat} (hc : c < d.Nodes.length) (hc' : c' < d.Nodes.length) (hj : j < d.Nodes.length) {m : Nat} (hm : Dp d.Nodes d.Nodes[c] m) (hm' : Dp d.Nodes d.Nodes[c'] m)
    (hs : subB d.Nodes c j = true) (hs' : subB d.Nodes c' j = true) : c = c' := by
  obtain ⟨mj, _, hmj⟩ := h.deep _ (List.getElem_mem hj)
  have e1 := (sub_anc h hc hj hs hm hmj).2
  have e2 := (sub_anc h hc' hj hs' hm' hmj).2
  exact h.at_Id hc hc' (by rw [← e1, ← e2])
theorem idxs_nodup {l : List DNode} {p : Str} : (idxs l p).Nodup := by
  unfold idxs
  rw [List.nodup_iff_pairwise_ne, List.pairwise_map]
  exact (List.Pairwise.filter _ List.pairwise_lt_range).imp (fun h => by omega)
theorem idxs_nat {l : List DNode} {p : Str} {c : Int} (h : c ∈ idxs l p) : ∃ j : Nat, ∃ hj : j < l.length, c = j ∧ l[j].Parent = p := by
  obtain ⟨⟨h1, h2⟩, h3⟩ := idxs_mem.1 h
  refine ⟨c.toNat, by omega, by omega, ?_⟩
  rw [show c = ((c.toNat : Nat) : Int) by omega, gx_nat (by omega)] at h3
  exact h3
/-- What comes in the order of a node. -/
theorem ordF_sub (h : Right d) : ∀ (f k : Nat), k < d.Nodes.length → ∀ x ∈ ordF d.Nodes f (k : Int), ∃ j : Nat, x = j ∧ j < d.Nodes.length ∧ subB d.Nodes k j = true
  | 0, k, hk, x, hx => by simp [ordF] at hx
  | f + 1, k, hk, x, hx => by
    rw [ordF, List.mem_cons, List.mem_flatMap, gx_nat hk] at hx
    rcases hx with rfl | ⟨c, hc, hx⟩
    · exact ⟨k, rfl, hk, by simp [subB]⟩
    · obtain ⟨t, ht, rfl, hp⟩ := (kid_iff (h := h) hk).1 hc
      obtain ⟨j, rfl, hj, hs⟩ := ordF_sub h f t ht x hx
      refine ⟨j, rfl, hj, ?_⟩
      rw [sub_step h hk hj, Bool.or_eq_true]
      right
      exact List.any_eq_true.2 ⟨_, hc, by rw [show (t : Int).toNat = t by omega]; exact hs⟩
theorem flat_nodup (h : Right d) {f m : Nat} {p : Str} (hm : ∀ (c : Nat) (hc : c < d.Nodes.length), d.Nodes[c].Parent = p → Dp d.Nodes d.Nodes[c] m) (hn : ∀ (c : Nat), c < d.Nodes.length → (ordF d.Nodes f (c : Int)).Nodup) : ((idxs d.Nodes p).flatMap (ordF d.Nodes f)).Nodup := by
  rw [List.nodup_iff_pairwise_ne, List.pairwise_flatMap]
  refine ⟨fun c hc => ?_, ?_⟩
  · obtain ⟨j, hj, rfl, _⟩ := idxs_nat hc
    exact hn j hj
  · have := List.nodup_iff_pairwise_ne.1 (idxs_nodup (l := d.Nodes) (p := p))
    refine List.Pairwise.imp_of_mem (fun {a b} ha hb hne x hx y hy e => ?_) this
    obtain ⟨i, hi, rfl, hip⟩ := idxs_nat ha
    obtain ⟨j, hj, rfl, hjp⟩ := idxs_nat hb
    subst e
    obtain ⟨q, rfl, hq, hs⟩ := ordF_sub h f i hi x hx
    obtain ⟨q', e, hq', hs'⟩ := ordF_sub h f j hj _ hy
    have : q = q' := by omega
    subst this
    have := sub_one h hi hj hq (hm i hi hip) (hm j hj hjp) hs hs'
    exact hne (by rw [this])
theorem dp_kid (h : Right d) {k : Nat} (hk : k < d.Nodes.length) {m : Nat} (hm : Dp d.Nodes d.Nodes[k] m) {c : Nat} (hc : c < d.Nodes.length) (hp : d.Nodes[c].Parent = d.Nodes[k].Id) : Dp d.Nodes d.Nodes[c] (m + 1) := by
  have hpe := par_at h.hd hk hp
  exact Dp.kid (by rw [hp]; exact h.hid (List.getElem_mem hk)) (by rw [hpe]; exact hm)
theorem ordF_nodup (h : Right d) : ∀ (f k : Nat), k < d.Nodes.length → (ordF d.Nodes f (k : Int)).Nodup
  | 0, k, hk => by simp [ordF]
  | f + 1, k, hk => by
    obtain ⟨m, _, hm⟩ := h.deep _ (List.getElem_mem hk)
    rw [ordF, List.nodup_cons, gx_nat hk]
    refine ⟨fun hx => ?_, flat_nodup h (m := m + 1) (fun c hc hp => dp_kid h hk hm hc hp) (fun c hc => ordF_nodup h f c hc)⟩
    obtain ⟨c, hc, hx⟩ := List.mem_flatMap.1 hx
    obtain ⟨t, ht, rfl, hp⟩ := (kid_iff (h := h) hk).1 hc
    obtain ⟨j, e, hj, hs⟩ := ordF_sub h f t ht _ hx
    have : k = j := by omega
    subst this
    have := (sub_anc h ht hk hs (dp_kid h hk hm ht hp) hm).1
    omega
theorem dp_root {c : Nat} (hc : c < d.Nodes.length) (hp : d.Nodes[c].Parent = Str.nil) : Dp d.Nodes d.Nodes[c] 0 := ⟨hp, fun j hj => by omega⟩
theorem ordT_nodup (h : Right d) : (ordT d.Nodes).Nodup := flat_nodup h (m := 0) (fun c hc hp => dp_root hc hp) (fun c hc => ordF_nodup h 9 c hc)
theorem ordT_mem (h : Right d) {x : Int} (hx : x ∈ ordT d.Nodes) : ∃ j : Nat, x = j ∧ j < d.Nodes.length := by
  obtain ⟨c, hc, hx⟩ := List.mem_flatMap.1 hx
  obtain ⟨i, hi, rfl, _⟩ := idxs_nat hc
  obtain ⟨j, e, hj, _⟩ := ordF_sub h 9 i hi x hx
  exact ⟨j, e, hj⟩
theorem ordT_len (h : Right d) : (ordT d.Nodes).length ≤ 500 := by
  have := nodup_subD (ordT d.Nodes) ((List.range d.Nodes.length).map (fun (i : Nat) => (i : Int))) (ordT_nodup h) (fun x hx => by
    obtain ⟨j, rfl, hj⟩ := ordT_mem h hx
    exact List.mem_map.2 ⟨j, by simpa using hj, rfl⟩)
  have := h.nl
  simp at *
  omega
theorem flat_take {α β : Type} {l : List α} {g : α → List β} {t : Nat} (ht : t < l.length) : ((l.take t).flatMap g).length + (g l[t]).length ≤ (l.flatMap g).length := by
  have e : (l.take (t + 1)).flatMap g = (l.take t).flatMap g ++ g l[t] := by
    rw [List.take_succ_eq_append_getElem ht, List.flatMap_append]; simp
  have e2 : l.flatMap g = (l.take (t + 1)).flatMap g ++ (l.drop (t + 1)).flatMap g := by
    rw [← List.flatMap_append, List.take_append_drop]
  rw [e2, e]
  simp only [List.length_append]
  omega
theorem idxs_len (h : Right d) (p : Str) : (idxs d.Nodes p).length ≤ 500 := by
  unfold idxs
  rw [List.length_map]
  have := List.length_filter_le (fun (i : Nat) => decide ((gx d.Nodes (i : Int)).Parent = p)) (List.range d.Nodes.length)
  have := h.nl
  simp at *
  omega
end
theorem add_eq {d : Doc} (h : Right d) {k : Nat} (hk : k < d.Nodes.length) (out : List Int) (hout : out.length + (ordF d.Nodes 9 (k : Int)).length ≤ 1000000) : page_view_order_1 (k : Int) out (some (viewD d)) = some (out ++ ordF d.Nodes 9 (k : Int)) := by
  have hv : (viewD d).d.Nodes = d.Nodes := rfl
  have hvm : (viewD d).members = memM d.Nodes := rfl
  have key : ∀ (f m k : Nat) (hk : k < d.Nodes.length), Dp d.Nodes d.Nodes[k] m → 9 ≤ m + f → ∀ (out : List Int), out.length + (ordF d.Nodes f (k : Int)).length ≤ 1000000 → ∀ N, f ≤ N → fixN page_view_order_1_body N ((k : Int), out, some (viewD d)) = some (out ++ ordF d.Nodes f (k : Int)) := by
    intro f
    induction f with
    | zero =>
      intro m k hk hm hf
      obtain ⟨q, hq, hq2⟩ := h.deep _ (List.getElem_mem hk)
      have := hm.uni hq2
      omega
    | succ f ih =>
      intro m k hk hm hf out hout N hN
      obtain ⟨N, rfl⟩ : ∃ q, N = q + 1 := ⟨N - 1, by omega⟩
      show page_view_order_1_body (fixN page_view_order_1_body N) _ = _
      have ih' := fun m k hk hm hf out ho => ih m k hk hm hf out ho N (by omega)
      generalize fixN page_view_order_1_body N = slf at ih' ⊢
      have hin : inR d.Nodes (k : Int) := ⟨by omega, by omega⟩
      rw [ordF, gx_nat hk] at hout ⊢
      unfold page_view_order_1_body
      simp only [bnd_eq, Option.bind_some]
      rw [need_of (by show _ ≤ _; simp at hout ⊢; omega), hv, hvm, need_of hin, gx_nat hk, memM_getD (h.hid (List.getElem_mem hk))]
      have hkl := idxs_len h d.Nodes[k].Id
      have hkid : ∀ c ∈ idxs d.Nodes d.Nodes[k].Id, ∃ j : Nat, ∃ hj : j < d.Nodes.length, c = j ∧ d.Nodes[j].Parent = d.Nodes[k].Id := fun c hc => idxs_nat hc
      generalize idxs d.Nodes d.Nodes[k].Id = ks at hout hkl hkid ⊢
      obtain ⟨s, h1, h2⟩ := rfor_inv (n := (ks.length : Int)) (step := page_view_order_1_L1 slf ((k : Int), out, some (viewD d)) ks) (s0 := out ++ [(k : Int)])
        (fun t s => s = out ++ (k : Int) :: (ks.take t).flatMap (ordF d.Nodes f)) (by omega) (by simp) (fun t s ht hI => by
          subst hI
          have ht' : t < ks.length := by omega
          unfold page_view_order_1_L1
          rw [need_of ⟨by omega, by omega⟩, gx_nat ht']
          obtain ⟨c, hc, hce, hcp⟩ := hkid ks[t] (List.getElem_mem ht')
          have hle := flat_take (g := ordF d.Nodes f) ht'
          rw [hce] at hle
          rw [hce, ih' (m + 1) c hc (dp_kid h hk hm hc hcp) (by omega) _ (by simp only [List.length_append, List.length_cons] at hout ⊢; omega), Option.bind_some]
          refine ⟨_, rfl, ?_⟩
          rw [List.take_succ_eq_append_getElem ht', List.flatMap_append, hce]
          simp)
      rw [h1, h2]
      have : (ks.length : Int).toNat = ks.length := by omega
      rw [this, List.take_length]
      rfl
  obtain ⟨m, hm, hm2⟩ := h.deep _ (List.getElem_mem hk)
  exact fixp_of 9 (fun N hN => key 9 m k hk hm2 (by omega) out hout N hN)
theorem range_flat {l : List DNode} {p : Str} {β : Type} (g : Int → List β) : ∀ n, ((List.range n).flatMap (fun (i : Nat) => if (gx l (i : Int)).Parent = p then g (i : Int) else [])) = (((List.range n).filter (fun (i : Nat) => decide ((gx l (i : Int)).Parent = p))).map (fun (i : Nat) => (i : Int))).flatMap g
  | 0 => rfl
  | n + 1 => by
    rw [List.range_succ, List.flatMap_append, range_flat g n, List.filter_append, List.map_append, List.flatMap_append]
    congr 1
    by_cases h : (gx l (n : Int)).Parent = p <;> simp [h]
theorem order_eq {d : Doc} (h : Right d) : page_view_order (viewD d) = some (ordT d.Nodes) := by
  have hv : (viewD d).d.Nodes = d.Nodes := rfl
  have hnl := h.nl
  unfold page_view_order
  rw [hv]
  let g : Nat → List Int := fun i => if (gx d.Nodes (i : Int)).Parent = Str.nil then ordF d.Nodes 9 (i : Int) else []
  have htot : (List.range d.Nodes.length).flatMap g = ordT d.Nodes := range_flat (ordF d.Nodes 9) d.Nodes.length
  have hlen := ordT_len h
  obtain ⟨s, h1, h2⟩ := rfor_inv (n := (d.Nodes.length : Int)) (step := page_view_order_L1 (viewD d)) (s0 := ([] : List Int)) (fun t s => s = (List.range t).flatMap g) (by omega) rfl (fun t s ht hI => by
    subst hI
    have ht' : t < d.Nodes.length := by omega
    have hle := flat_take (l := List.range d.Nodes.length) (g := g) (t := t) (by simpa using ht')
    rw [htot, List.take_range, Nat.min_eq_left (by omega), List.getElem_range] at hle
    unfold page_view_order_L1
    rw [hv, need_of ⟨by omega, by omega⟩, bnd_eq, List.range_succ, List.flatMap_append, gx_nat ht']
    by_cases hp : d.Nodes[t].Parent = Str.nil
    · have hg : g t = ordF d.Nodes 9 (t : Int) := by
        show (if (gx d.Nodes (t : Int)).Parent = Str.nil then _ else _) = _
        rw [gx_nat ht', if_pos hp]
      rw [hg] at hle
      rw [decide_eq_true hp, cond_true, add_eq h ht' _ (by omega), Option.bind_some]
      refine ⟨_, rfl, by simp [hg]⟩
    · have hg : g t = [] := by
        show (if (gx d.Nodes (t : Int)).Parent = Str.nil then _ else _) = _
        rw [gx_nat ht', if_neg hp]
      rw [decide_eq_false hp, cond_false]
      refine ⟨_, rfl, by simp [hg]⟩)
  rw [h1, h2, show (d.Nodes.length : Int).toNat = d.Nodes.length by omega, htot]
  rfl
/-- The Ids of nodes. -/
def idL (l : List DNode) (ks : List Int) : List Str := ks.map (fun k => (gx l k).Id)
theorem put_eq {d : Doc} (h : Right d) (out : List Str) (hout : out.length + (ordT d.Nodes).length ≤ 1000000) : ref_OrderOf_1 Str.nil d out = some (out ++ idL d.Nodes (ordT d.Nodes)) := by
  have key : ∀ (f : Nat) (p : Str), (∀ (c : Nat) (hc : c < d.Nodes.length), d.Nodes[c].Parent = p → ∃ m, Dp d.Nodes d.Nodes[c] m ∧ 9 ≤ m + f) → ∀ (out : List Str), out.length + ((idxs d.Nodes p).flatMap (ordF d.Nodes f)).length ≤ 1000000 →
      ∀ N, f + 1 ≤ N → fixN ref_OrderOf_1_body N (p, d, out) = some (out ++ idL d.Nodes ((idxs d.Nodes p).flatMap (ordF d.Nodes f))) := by
    intro f
    induction f with
    | zero =>
      intro p hp out hout N hN
      obtain ⟨N, rfl⟩ : ∃ q, N = q + 1 := ⟨N - 1, by omega⟩
      have hnil : idxs d.Nodes p = [] := by
        apply List.eq_nil_iff_forall_not_mem.2
        intro c hc
        obtain ⟨j, hj, rfl, hjp⟩ := idxs_nat hc
        obtain ⟨m, hm, hm2⟩ := hp j hj hjp
        obtain ⟨q, hq, hq2⟩ := h.deep _ (List.getElem_mem hj)
        have := hm.uni hq2
        omega
      show ref_OrderOf_1_body _ _ = _
      unfold ref_OrderOf_1_body
      simp only
      rw [members_eq h.nl, Option.bind_some, ← idxs_map, hnil]
      rw [List.map_nil, rfor_eq (by simp)]
      simp [rgo, idL]
    | succ f ih =>
      intro p hp out hout N hN
      obtain ⟨N, rfl⟩ : ∃ q, N = q + 1 := ⟨N - 1, by omega⟩
      show ref_OrderOf_1_body (fixN ref_OrderOf_1_body N) _ = _
      have ih' := fun p hp out ho => ih p hp out ho N (by omega)
      generalize fixN ref_OrderOf_1_body N = slf at ih' ⊢
      unfold ref_OrderOf_1_body
      simp only
      rw [members_eq h.nl, Option.bind_some, ← idxs_map]
      have hkl := idxs_len h p
      have hkid : ∀ c ∈ idxs d.Nodes p, ∃ j : Nat, ∃ hj : j < d.Nodes.length, c = j ∧ d.Nodes[j].Parent = p := fun c hc => idxs_nat hc
      generalize idxs d.Nodes p = ks at hout hkl hkid ⊢
      obtain ⟨s, h1, h2⟩ := rfor_inv (n := ((ks.map (gx d.Nodes)).length : Int)) (step := ref_OrderOf_1_L1 slf (p, d, out) (ks.map (gx d.Nodes))) (s0 := out)
        (fun t s => s = out ++ idL d.Nodes ((ks.take t).flatMap (ordF d.Nodes (f + 1)))) (by simp; omega) (by simp [idL]) (fun t s ht hI => by
          subst hI
          have ht' : t < ks.length := by simp at ht; omega
          have hle := flat_take (g := ordF d.Nodes (f + 1)) ht'
          unfold ref_OrderOf_1_L1
          have hg : gx (ks.map (gx d.Nodes)) (t : Int) = gx d.Nodes ks[t] := by rw [gx_nat (by simpa using ht')]; simp
          rw [need_of ⟨by omega, by simp at ht ⊢; omega⟩, bnd_eq, hg]
          obtain ⟨c, hc, hce, hcp⟩ := hkid ks[t] (List.getElem_mem ht')
          rw [hce, ordF, gx_nat hc] at hle
          rw [hce, gx_nat hc, need_of (by show _ ≤ _; simp [idL] at hout hle ⊢; omega), bnd_eq]
          have hT : (ks.take (t + 1)).flatMap (ordF d.Nodes (f + 1)) = (ks.take t).flatMap (ordF d.Nodes (f + 1)) ++ ((c : Int) :: (idxs d.Nodes d.Nodes[c].Id).flatMap (ordF d.Nodes f)) := by
            rw [List.take_succ_eq_append_getElem ht', List.flatMap_append, hce, List.flatMap_singleton, ordF, gx_nat hc]
          rw [hT]
          by_cases hk : d.Nodes[c].Kind = 6
          · obtain ⟨m, hm, hm2⟩ := hp c hc hcp
            rw [decide_eq_true hk, cond_true, ih' d.Nodes[c].Id (fun c' hc' hp' => ⟨m + 1, dp_kid h hc hm hc' hp', by omega⟩) _ (by simp [idL] at hout hle ⊢; omega), Option.bind_some]
            refine ⟨_, rfl, ?_⟩
            simp [idL, gx_nat hc]
          · have hnil : idxs d.Nodes d.Nodes[c].Id = [] := by
              apply List.eq_nil_iff_forall_not_mem.2
              intro x hx
              obtain ⟨j, hj, rfl, hjp⟩ := idxs_nat hx
              obtain ⟨g, _, _, hg3⟩ := h.tree _ (List.getElem_mem hj) (by rw [hjp]; exact h.hid (List.getElem_mem hc))
              rw [par_at h.hd hc hjp] at hg3
              exact hk hg3
            rw [decide_eq_false hk, cond_false, hnil]
            refine ⟨_, rfl, ?_⟩
            simp [idL, gx_nat hc])
      rw [h1, h2]
      have : ((ks.map (gx d.Nodes)).length : Int).toNat = ks.length := by simp
      rw [this, List.take_length]
      rfl
  exact fixp_of 10 (fun N hN => key 9 Str.nil (fun c hc hp => ⟨0, dp_root hc hp, by omega⟩) out hout N hN)
theorem OrderOf_eq {d : Doc} (h : Right d) : ref_OrderOf d = some (idL d.Nodes (ordT d.Nodes) ++ d.Edges.map (·.Id)) := by
  have hlen := ordT_len h
  have hel := h.el
  unfold ref_OrderOf
  rw [put_eq h [] (by simp; omega), Option.bind_some, rfor_gather (fun x => [x.Id]) _ (fun a _ => by simp) (by simp [idL]; omega) (fun i s hi hs => by
    unfold ref_OrderOf_L1
    rw [need_of hi, bnd_eq, need_of (by show _ ≤ _; simp; omega)])]
  rw [List.map_eq_flatMap (l := d.Edges)]
  simp
end Go.DB
