/-
  Signs of a diagram: its lines and their stretches.
-/
import Derived.Test.YtbogpbomhmabhaaGreatDoorSkePuLook4
import Derived.Test.YtbogpbomhmabhaaGreatDoorSkePuSke1
set_option linter.unusedSimpArgs false
set_option linter.unusedVariables false
namespace Go.DB
open Go Go.RowKit

theorem sk_Concat3 {a b c : List Point} (h : a.length + b.length + c.length ≤ 100000) : slices_Concat_Point [a, b, c] = some (a ++ b ++ c) := by
  unfold slices_Concat_Point
  rw [rfor_eq (by simp)]
  have e3 : (([a, b, c] : List (List Point)).length : Int).toNat = 3 := rfl
  rw [e3]
  have st1 : ∀ (i : Nat) (x : List Point) (s : Int), ([a, b, c] : List (List Point))[i]? = some x → 0 ≤ s → s + x.length ≤ 1000000 → slices_Concat_Point_L1 [a, b, c] (i : Int) s = some (s + x.length) := fun i x s hi h0 h1 => by
    have hlt := (List.getElem?_eq_some_iff.1 hi).1
    have hx := (List.getElem?_eq_some_iff.1 hi).2
    unfold slices_Concat_Point_L1
    rw [need_of ⟨by omega, by omega⟩, gx_nat hlt, hx, bnd_eq, Wk (by omega) (by omega), decide_eq_false (by omega)]; rfl
  have st2 : ∀ (i : Nat) (x : List Point) (s : List Point), ([a, b, c] : List (List Point))[i]? = some x → s.length + x.length ≤ 1000000 → slices_Concat_Point_L2 [a, b, c] (i : Int) s = some (s ++ x) := fun i x s hi h1 => by
    have hlt := (List.getElem?_eq_some_iff.1 hi).1
    have hx := (List.getElem?_eq_some_iff.1 hi).2
    unfold slices_Concat_Point_L2
    rw [need_of ⟨by omega, by omega⟩, gx_nat hlt, hx, need_of (by show _ ≤ _; omega)]
  have r1 : rgo (slices_Concat_Point_L1 [a, b, c]) 3 0 0 = some ((0 : Int) + a.length + b.length + c.length) := by
    simp only [rgo]
    rw [show (0 : Int) = ((0 : Nat) : Int) from rfl, st1 0 a _ rfl (by omega) (by omega)]
    simp only
    rw [show ((0 : Nat) : Int) + 1 = ((1 : Nat) : Int) from rfl, st1 1 b _ rfl (by omega) (by omega)]
    simp only
    rw [show ((1 : Nat) : Int) + 1 = ((2 : Nat) : Int) from rfl, st1 2 c _ rfl (by omega) (by omega)]
  rw [r1, Option.bind_some]
  unfold slices_Grow_Point
  rw [need_of ⟨by omega, by omega⟩, Option.bind_some, rfor_eq (by simp), e3]
  have r2 : rgo (slices_Concat_Point_L2 [a, b, c]) 3 0 [] = some (a ++ b ++ c) := by
    simp only [rgo]
    rw [show (0 : Int) = ((0 : Nat) : Int) from rfl, st2 0 a _ rfl (by simp; omega)]
    simp only
    rw [show ((0 : Nat) : Int) + 1 = ((1 : Nat) : Int) from rfl, st2 1 b _ rfl (by simp; omega)]
    simp only
    rw [show ((1 : Nat) : Int) + 1 = ((2 : Nat) : Int) from rfl, st2 2 c _ rfl (by simp; omega)]
    simp
  rw [r2]; rfl
/-- Where the points of lines lie. -/
def okQ (p : Point) : Prop := -1000000 ≤ p.X ∧ p.X ≤ 1020000 ∧ -1000000 ≤ p.Y ∧ p.Y ≤ 1020000
theorem sk_port {d : Doc} (h : Right d) {y : DEnd} (hy : endErr d.Nodes y = 0) : ∃ q, page_view_port (viewD d) y = some q ∧ ref_PortPoint d y = some q ∧ okQ q := by
  obtain ⟨h1, h2, h3, h4⟩ := endErr_zero hy
  obtain ⟨j, hj, ha, he⟩ := nodeAt_nat h1
  have hnl := h.nl
  have hat := h.at (List.getElem_mem hj)
  rw [ha, gx_nat hj] at h2
  obtain ⟨q, q1, q2, q3⟩ := port_both (k := d.Nodes[j].Kind) (hat.2.2 h2) (by have := hat.2.1; omega) h3.1 h3.2 h4.1 h4.2
  refine ⟨q, ?_, ?_, q3⟩
  · unfold page_view_port
    rw [bnd_eq, view_node ⟨_, List.getElem_mem hj, he⟩, ha, gx_nat hj, Option.bind_some, q1]; rfl
  · unfold ref_PortPoint
    rw [bnd_eq, NodeAt_eq (by omega), Option.bind_some, ha, need_of ⟨by omega, by omega⟩, bnd_eq, gx_nat hj, q2]; rfl
theorem sk_bends {l : List DNode} {x : DEdge} {tw : Bool} (h : edgeErr l x tw = 0) : ∀ p ∈ x.Bends, okQ p := fun p hp => by
  have h1 := firstErr_zero.1 h (ptsErr x.Bends) (by simp)
  have h2 := (ptsErr_zero.1 h1).2 p hp
  obtain ⟨a, b, c, e⟩ := h2
  exact ⟨a, by omega, c, by omega⟩
theorem sk_line {d : Doc} (hc : page_Check d = some 0) (h : Right d) {i : Nat} (hi : i < d.Edges.length) : ∃ l, page_Line d d.Edges[i].Id = some (l, 0) ∧ ref_LineOf d d.Edges[i] = some l ∧ 1 ≤ l.length ∧ l.length ≤ 60 ∧ ∀ p ∈ l, okQ p := by
  have hel := h.el
  have hnl := h.nl
  obtain ⟨z0, z1, z2, z3⟩ := edgeErr_zero (h.edge i hi)
  have zb := sk_bends (h.edge i hi)
  obtain ⟨q, q1, q2, q3⟩ := sk_port h z1
  obtain ⟨r, r1, r2, r3⟩ := sk_port h z2
  have hin : inR d.Edges (i : Int) := ⟨by omega, by omega⟩
  have hix : slices_IndexFunc_Edge d.Edges (fun x0 => page_Line_1 x0 d.Edges[i].Id) = some (i : Int) := by
    rw [IndexFunc_Edge_eq d.Edges (fun x0 => page_Line_1 x0 d.Edges[i].Id) (fun n => decide (n.Id = d.Edges[i].Id)) (by omega) (fun x _ => rfl)]
    have : d.Edges.findIdx? (fun n => decide (n.Id = d.Edges[i].Id)) = some i := by
      rw [List.findIdx?_eq_some_iff_getElem]
      refine ⟨hi, by simp, fun j hj => ?_⟩
      have hm := of_decide_eq_false z0
      intro e
      refine hm (List.mem_append_right _ (List.mem_map.2 ⟨d.Edges[j], ?_, by simpa using e⟩))
      rw [List.mem_take_iff_getElem]
      exact ⟨j, by omega, rfl⟩
    rw [this]
  refine ⟨[q] ++ d.Edges[i].Bends ++ [r], ?_, ?_, by simp, by simp; omega, ?_⟩
  · unfold page_Line
    rw [look_ok hc h, Option.bind_some]
    simp only [decide_true, Bool.not_true, cond_false, Option.bind_some]
    rw [hix, Option.bind_some, decide_eq_false (by omega), cond_false, need_of hin, gx_nat hi, bnd_eq, q1, Option.bind_some, r1, Option.bind_some, sk_Concat3 (by simp; omega), Option.bind_some]
  · unfold ref_LineOf
    rw [q2, Option.bind_some, need_of (by show _ ≤ _; simp; omega), bnd_eq, r2, Option.bind_some, need_of (by show _ ≤ _; simp; omega)]
  · intro p hp
    simp only [List.mem_append, List.mem_singleton, List.mem_cons, List.not_mem_nil, or_false] at hp
    rcases hp with (rfl | hp) | rfl
    · exact q3
    · exact zb p hp
    · exact r3

/-! Stretches that go across or down. -/

def strt (a b : Point) : Bool := !decide ((decide (a.X = b.X)) = (decide (a.Y = b.Y)))
def lnUpto (l : List Point) (n : Nat) : List (Point × Point) := ((List.range n).filter (fun (i : Nat) => decide (1 ≤ i) && strt (gx l ((i : Int) - 1)) (gx l (i : Int)))).map (fun (i : Nat) => (gx l ((i : Int) - 1), gx l (i : Int)))
theorem lnUpto_one {l : List Point} : lnUpto l 1 = [] := by simp [lnUpto, List.range_succ]
theorem lnUpto_snoc {l : List Point} {n : Nat} (hn : 1 ≤ n) : lnUpto l (n + 1) = if strt (gx l ((n : Int) - 1)) (gx l (n : Int)) = true then lnUpto l n ++ [(gx l ((n : Int) - 1), gx l (n : Int))] else lnUpto l n := by
  unfold lnUpto
  rw [List.range_succ, List.filter_append, List.map_append]
  have e : decide (1 ≤ n) = true := decide_eq_true hn
  cases h : strt (gx l ((n : Int) - 1)) (gx l (n : Int)) <;> simp [h, e]
theorem lnUpto_len {l : List Point} {n : Nat} : (lnUpto l n).length ≤ n := by
  unfold lnUpto
  rw [List.length_map]
  exact Nat.le_trans (List.length_filter_le _ _) (by simp)
theorem lnUpto_mem {l : List Point} {n : Nat} (hn : n ≤ l.length) {p : Point × Point} : p ∈ lnUpto l n ↔ ∃ i : Nat, 1 ≤ i ∧ i < n ∧ strt (gx l ((i : Int) - 1)) (gx l (i : Int)) = true ∧ p = (gx l ((i : Int) - 1), gx l (i : Int)) := by
  unfold lnUpto
  simp only [List.mem_map, List.mem_filter, List.mem_range, Bool.and_eq_true, decide_eq_true_eq]
  constructor
  · rintro ⟨i, ⟨h1, h2, h3⟩, rfl⟩; exact ⟨i, h2, h1, h3, rfl⟩
  · rintro ⟨i, h1, h2, h3, rfl⟩; exact ⟨i, ⟨h2, h1, h3⟩, rfl⟩
def toA (p : Point × Point) : Arr 1 Point := ⟨[p.1, p.2]⟩
/-- The line of an edge. -/
noncomputable def liD (d : Doc) (x : DEdge) : List Point := (ref_LineOf d x).getD []
noncomputable def lanesD (d : Doc) (n : Nat) : List (Point × Point) := (d.Edges.take n).flatMap (fun x => lnUpto (liD d x) (liD d x).length)
theorem lanesD_snoc {d : Doc} {n : Nat} (hn : n < d.Edges.length) : lanesD d (n + 1) = lanesD d n ++ lnUpto (liD d d.Edges[n]) (liD d d.Edges[n]).length := by
  unfold lanesD
  rw [List.take_succ_eq_append_getElem hn, List.flatMap_append]
  simp
theorem liD_eq {d : Doc} {x : DEdge} {l : List Point} (h : ref_LineOf d x = some l) : liD d x = l := by unfold liD; rw [h]; rfl
theorem lanesD_ok {d : Doc} (hc : page_Check d = some 0) (h : Right d) {p : Point × Point} (hp : p ∈ lanesD d d.Edges.length) : okQ p.1 ∧ okQ p.2 := by
  unfold lanesD at hp
  rw [List.take_length, List.mem_flatMap] at hp
  obtain ⟨x, hx, hp⟩ := hp
  obtain ⟨i, hi, rfl⟩ := List.mem_iff_getElem.1 hx
  obtain ⟨l, l1, l2, l3, l4, l5⟩ := sk_line hc h hi
  rw [liD_eq l2, lnUpto_mem (Nat.le_refl _)] at hp
  obtain ⟨k, k1, k2, _, rfl⟩ := hp
  exact ⟨l5 _ (gx_mem ⟨by omega, by omega⟩), l5 _ (gx_mem ⟨by omega, by omega⟩)⟩
theorem sk_lanes {d : Doc} (hc : page_Check d = some 0) (h : Right d) : desk_lanes d = some ((lanesD d d.Edges.length).map toA) ∧ (lanesD d d.Edges.length).length ≤ 60000 := by
  have hel := h.el
  unfold desk_lanes
  obtain ⟨s, s1, s2, s3⟩ := rfor_inv (n := (d.Edges.length : Int)) (step := desk_lanes_L1 d) (s0 := ([] : List (Arr 1 Point))) (fun n s => s = (lanesD d n).map toA ∧ (lanesD d n).length ≤ 60 * n) (by omega) ⟨rfl, by simp [lanesD]⟩ (fun i s hi ⟨hs, hsl⟩ => by
    have hi' : i < d.Edges.length := by omega
    obtain ⟨l, l1, l2, l3, l4, l5⟩ := sk_line hc h hi'
    unfold desk_lanes_L1
    rw [need_of ⟨by omega, by omega⟩, bnd_eq, gx_nat hi', l1, Option.bind_some]
    have hsn := lanesD_snoc hi'
    rw [liD_eq l2] at hsn
    have hll := @lnUpto_len l l.length
    have key := loop_inv (body := desk_lanes_L2 (l, 0)) (s0 := (s, 1)) (fun t => ∃ n : Nat, 1 ≤ n ∧ n ≤ l.length ∧ t = (s ++ (lnUpto l n).map toA, (n : Int))) (fun t => l.length - t.2.toNat) (fun e => e = s ++ (lnUpto l l.length).map toA)
      ⟨1, by omega, l3, by rw [lnUpto_one]; simp⟩ (fun t ⟨n, n1, n2, ht⟩ => by
        subst ht
        have hsl2 : s.length ≤ 60 * i := by rw [hs, List.length_map]; exact hsl
        have hnl := @lnUpto_len l n
        unfold desk_lanes_L2
        simp only
        by_cases hn : n < l.length
        · left
          rw [decide_eq_true (by omega), cond_true, Wk (n := (n : Int) - 1) (by omega) (by omega), need_of ⟨by omega, by omega⟩, bnd_eq, need_of ⟨by omega, by omega⟩, bnd_eq]
          have hst : (!decide ((decide ((gx l ((n : Int) - 1)).X = (gx l (n : Int)).X)) = (decide ((gx l ((n : Int) - 1)).Y = (gx l (n : Int)).Y)))) = strt (gx l ((n : Int) - 1)) (gx l (n : Int)) := rfl
          rw [hst, Wk (n := (n : Int) + 1) (by omega) (by omega)]
          refine ⟨(s ++ (lnUpto l (n + 1)).map toA, ((n + 1 : Nat) : Int)), ?_, ⟨n + 1, by omega, by omega, rfl⟩, by simp only; omega⟩
          rw [lnUpto_snoc n1]
          cases strt (gx l ((n : Int) - 1)) (gx l (n : Int)) with
          | true =>
            rw [cond_true, need_of (by show _ ≤ _; simp; omega), Option.bind_some, if_pos rfl, List.map_append]
            simp [bnd_eq, toA]
          | false =>
            rw [cond_false, Option.bind_some, if_neg (by simp)]
            simp [bnd_eq]
        · right
          rw [decide_eq_false (by omega), cond_false]
          have : n = l.length := by omega
          subst this
          exact ⟨_, rfl, rfl⟩)
    obtain ⟨e, e1, e2⟩ := key
    refine ⟨e, e1, ?_, ?_⟩
    · rw [e2, hs, hsn, List.map_append]
    · rw [hsn, List.length_append]; omega)
  rw [s1]
  have en : ((d.Edges.length : Int)).toNat = d.Edges.length := by omega
  rw [en] at s2 s3
  exact ⟨by rw [s2]; rfl, by omega⟩
end Go.DB
