/-
  Diagrams, in plain words: chains of groups, and what is wrong with them.
-/
import Derived.Test.YtbogpbomhmabhaaGreatDoorSkePuDoc1
set_option linter.unusedSimpArgs false
set_option linter.unusedVariables false
namespace Go.DB
open Go Go.RowKit

theorem nodup_subD {α : Type} [DecidableEq α] : ∀ (l m : List α), l.Nodup → (∀ x ∈ l, x ∈ m) → l.length ≤ m.length
  | [], m, _, _ => by simp
  | x :: l, m, hn, hs => by
    have hx := hs x (by simp)
    have hn' := List.nodup_cons.1 hn
    have := nodup_subD l (m.erase x) hn'.2 (fun y hy => by
      have hne : y ≠ x := fun e => hn'.1 (e ▸ hy)
      rw [List.mem_erase_of_ne hne]; exact hs y (by simp [hy]))
    rw [List.length_erase_of_mem hx] at this
    have := List.length_pos_of_mem hx
    simp; omega

/-- The node above. -/
def par (l : List DNode) (n : DNode) : DNode := gx l (nodeAt l n.Parent)
def anc (l : List DNode) (n : DNode) : Nat → DNode
  | 0 => n
  | k + 1 => par l (anc l n k)
theorem anc_add {l : List DNode} {n : DNode} {i : Nat} : ∀ t, anc l n (i + t) = anc l (anc l n i) t
  | 0 => rfl
  | t + 1 => by
    show par l (anc l n (i + t)) = par l (anc l (anc l n i) t)
    rw [anc_add t]
/-- Parents are there. -/
def ParIn (l : List DNode) : Prop := ∀ n ∈ l, n.Parent ≠ Str.nil → ∃ g ∈ l, g.Id = n.Parent
theorem par_mem {l : List DNode} (hp : ParIn l) {n : DNode} (hn : n ∈ l) (h : n.Parent ≠ Str.nil) : par l n ∈ l ∧ (par l n).Id = n.Parent := by
  obtain ⟨h1, h2⟩ := nodeAt_pos (hp n hn h)
  exact ⟨gx_mem h1, h2⟩
theorem anc_mem {l : List DNode} (hp : ParIn l) {n : DNode} (hn : n ∈ l) : ∀ k, (∀ j, j < k → (anc l n j).Parent ≠ Str.nil) → anc l n k ∈ l
  | 0, _ => hn
  | k + 1, h => (par_mem hp (anc_mem hp hn k (fun j hj => h j (by omega))) (h k (by omega))).1

/-- What the chain of a node comes to. -/
def Up (l : List DNode) (n : DNode) (m : Int) (b : Bool) : Prop :=
  (b = false ∧ ∃ k : Nat, m = k ∧ (anc l n k).Parent = Str.nil ∧ ∀ j, j < k → (anc l n j).Parent ≠ Str.nil ∧ (anc l n j).Parent ≠ n.Id) ∨
  ∃ k : Nat, m = k + 1 ∧ (∀ j, j ≤ k → (anc l n j).Parent ≠ Str.nil) ∧ (b = true ↔ (anc l n k).Parent = n.Id) ∧ (b = false → k = l.length ∧ ∀ j, j ≤ k → (anc l n j).Parent ≠ n.Id)

/-- Where no node is below itself every chain ends. -/
theorem ends {l : List DNode} (hp : ParIn l) (hu : ∀ n ∈ l, ∃ m, Up l n m false) {n : DNode} (hn : n ∈ l) {m : Int} (h : Up l n m false) : ∃ k : Nat, m = k ∧ (anc l n k).Parent = Str.nil ∧ ∀ j, j < k → (anc l n j).Parent ≠ Str.nil := by
  rcases h with ⟨_, k, h1, h2, h3⟩ | ⟨k, h1, h2, h3, h4⟩
  · exact ⟨k, h1, h2, fun j hj => (h3 j hj).1⟩
  · exfalso
    obtain ⟨rfl, h5⟩ := h4 rfl
    -- one node comes twice
    have hmem : ∀ j, j ≤ l.length → anc l n j ∈ l := fun j hj => anc_mem hp hn j (fun q hq => h2 q (by omega))
    have hnd : ¬ ((List.range (l.length + 1)).map (anc l n)).Nodup := fun hd => by
      have := nodup_subD _ l hd (fun x hx => by
        obtain ⟨j, hj, rfl⟩ := List.mem_map.1 hx
        exact hmem j (by have := List.mem_range.1 hj; omega))
      rw [List.length_map, List.length_range] at this
      omega
    have : ∃ i j, i < j ∧ j ≤ l.length ∧ anc l n i = anc l n j := by
      apply Classical.byContradiction
      intro hne
      apply hnd
      rw [List.nodup_iff_pairwise_ne, List.pairwise_iff_getElem]
      intro i j hi hj hij e
      simp only [List.length_map, List.length_range] at hi hj
      simp at e
      exact hne ⟨i, j, hij, by omega, e⟩
    obtain ⟨i, j, hij, hj, he⟩ := this
    let a := anc l n i
    have ha : a ∈ l := hmem i (by omega)
    let q := j - i - 1
    have hq : (anc l a q).Parent = a.Id := by
      have e1 : anc l a q = anc l n (j - 1) := by
        rw [← anc_add]
        congr 1
        omega
      have e2 := (par_mem hp (hmem (j - 1) (by omega)) (h2 (j - 1) (by omega))).2
      have e3 : par l (anc l n (j - 1)) = a := by
        show anc l n (j - 1 + 1) = a
        rw [show j - 1 + 1 = j by omega, ← he]
      rw [e1, ← e2, e3]
    have hnn : ∀ t, t ≤ q → (anc l a t).Parent ≠ Str.nil := fun t ht => by
      rw [← anc_add]
      exact h2 _ (by omega)
    obtain ⟨m', hm'⟩ := hu a ha
    rcases hm' with ⟨_, k, g1, g2, g3⟩ | ⟨k, g1, g2, g3, g4⟩
    · by_cases hk : k ≤ q
      · exact hnn k hk g2
      · exact (g3 q (by omega)).2 hq
    · obtain ⟨rfl, g5⟩ := g4 rfl
      exact g5 q (by omega) hq
theorem view_node {d : Doc} {p : Str} (h : ∃ g ∈ d.Nodes, g.Id = p) : page_view_node (viewD d) p = some (gx d.Nodes (nodeAt d.Nodes p)) := by
  obtain ⟨h1, h2⟩ := nodeAt_pos h
  unfold page_view_node viewD
  simp only [bnd_eq]
  rw [numM_getD h1.1, need_of h1]
theorem above_both {d : Doc} (hl : d.Nodes.length ≤ 500) (hp : ParIn d.Nodes) {n : DNode} (hn : n ∈ d.Nodes) : ∃ m b, page_view_above (viewD d) n = some (m, !b) ∧ ref_above d n = some (m, b) ∧ Up d.Nodes n m b := by
  obtain ⟨e, e', h1, h2, h3⟩ := loop_inv2 (body := page_view_above_L1 n (viewD d)) (body' := ref_above_L1 d n) (s0 := ((0 : Int), n)) (t0 := ((0 : Int), n.Parent))
    (fun s t => ∃ k : Nat, k ≤ d.Nodes.length ∧ s = ((k : Int), anc d.Nodes n k) ∧ t = ((k : Int), (anc d.Nodes n k).Parent) ∧ ∀ j, j < k → (anc d.Nodes n j).Parent ≠ Str.nil ∧ (anc d.Nodes n j).Parent ≠ n.Id)
    (fun s => (d.Nodes.length + 1 - s.1).toNat)
    (fun e e' => (∃ k : Nat, e = Res.nx (k : Int) ∧ e' = Res.nx (k : Int) ∧ Up d.Nodes n k false) ∨ ∃ m b, e = Res.ab (m, !b) ∧ e' = Res.ab (m, b) ∧ Up d.Nodes n m b)
    ⟨0, by omega, rfl, rfl, fun j hj => by omega⟩ (fun s t hR => by
      obtain ⟨k, hk, rfl, rfl, hbef⟩ := hR
      have hmem : anc d.Nodes n k ∈ d.Nodes := anc_mem hp hn k (fun j hj => (hbef j hj).1)
      unfold page_view_above_L1 ref_above_L1
      simp only [bnd_eq]
      by_cases hnil : (anc d.Nodes n k).Parent = Str.nil
      · right
        refine ⟨Res.nx (k : Int), Res.nx (k : Int), by rw [decide_eq_true hnil]; rfl, by rw [decide_eq_true hnil]; rfl, .inl ⟨k, rfl, rfl, .inl ⟨rfl, k, rfl, hnil, hbef⟩⟩⟩
      · rw [decide_eq_false hnil]
        simp only [Bool.not_false, cond_true]
        have hw : W ((k : Int) + 1) = (k : Int) + 1 := Wk (by omega) (by omega)
        rw [hw]
        have hv : (viewD d).d.Nodes = d.Nodes := rfl
        rw [hv]
        have hall : ∀ j, j ≤ k → (anc d.Nodes n j).Parent ≠ Str.nil := fun j hj => by
          rcases Nat.lt_or_eq_of_le hj with h | h
          · exact (hbef j h).1
          · rw [h]; exact hnil
        by_cases hid : (anc d.Nodes n k).Parent = n.Id
        · right
          rw [decide_eq_true hid]
          simp only [Bool.true_or, cond_true]
          refine ⟨Res.ab ((k : Int) + 1, !true), Res.ab ((k : Int) + 1, true), rfl, rfl, .inr ⟨_, true, rfl, rfl, .inr ⟨k, rfl, hall, by simp [hid], fun h => by cases h⟩⟩⟩
        · rw [decide_eq_false hid]
          simp only [Bool.false_or]
          by_cases hlen : (d.Nodes.length : Int) < (k : Int) + 1
          · right
            rw [decide_eq_true hlen]
            refine ⟨Res.ab ((k : Int) + 1, !false), Res.ab ((k : Int) + 1, false), rfl, rfl, .inr ⟨_, false, rfl, rfl, .inr ⟨k, rfl, hall, by simp [hid], fun _ => ⟨by omega, fun j hj => ?_⟩⟩⟩⟩
            rcases Nat.lt_or_eq_of_le hj with h | h
            · exact (hbef j h).2
            · rw [h]; exact hid
          · left
            rw [decide_eq_false hlen]
            have hex := hp _ hmem hnil
            rw [view_node hex, NodeAt_eq (by omega), cond_false, cond_false, Option.bind_some, Option.bind_some, need_of (nodeAt_pos hex).1]
            refine ⟨_, _, rfl, rfl, ⟨k + 1, by omega, by rw [Int.natCast_add]; rfl, by rw [Int.natCast_add]; rfl, fun j hj => ?_⟩, by simp only; omega⟩
            rcases Nat.lt_or_eq_of_le (Nat.lt_succ_iff.1 hj) with h | h
            · exact hbef j h
            · rw [h]; exact ⟨hnil, hid⟩)
  unfold page_view_above ref_above
  rw [h1, h2]
  rcases h3 with ⟨k, rfl, rfl, h3⟩ | ⟨m, b, rfl, rfl, h3⟩
  · exact ⟨k, false, rfl, rfl, h3⟩
  · exact ⟨m, b, rfl, rfl, h3⟩

/-- Groups: what is wrong with them is found alike; where nothing is, every chain ends. -/
theorem tree_both {d : Doc} (hl : d.Nodes.length ≤ 500) (hid : ∀ n ∈ d.Nodes, n.Id ≠ Str.nil) : ∃ e, page_view_checkGroups (viewD d) = some e ∧ ref_treeError d = some e ∧
    (e = 0 → (∀ n ∈ d.Nodes, n.Parent ≠ Str.nil → ∃ g ∈ d.Nodes, g.Id = n.Parent ∧ (par d.Nodes n).Kind = 6) ∧ (∀ n ∈ d.Nodes, ∃ k : Nat, k ≤ 8 ∧ (anc d.Nodes n k).Parent = Str.nil ∧ ∀ j, j < k → (anc d.Nodes n j).Parent ≠ Str.nil) ∧
      ∀ n ∈ d.Nodes, n.Kind = 6 → idxs d.Nodes n.Id ≠ []) := by
  have hll : (d.Nodes.length : Int) ≤ 9223372036854775807 := by omega
  have hv : (viewD d).d.Nodes = d.Nodes := rfl
  have hvn : (viewD d).number = numM d.Nodes := rfl
  have hvm : (viewD d).members = memM d.Nodes := rfl
  let err1 : DNode → Int := fun n => if n.Parent ≠ Str.nil ∧ (nodeAt d.Nodes n.Parent < 0 ∨ (par d.Nodes n).Kind ≠ 6) then 10 else 0
  have p1 : rforE (d.Nodes.length : Int) (page_view_checkGroups_L1 (viewD d)) (fun s => Res.nx s) () = some (if firstErr (d.Nodes.map err1) = 0 then Res.nx () else Res.ab (firstErr (d.Nodes.map err1))) :=
    rforE_err err1 (fun e => (Res.ab e : Res Unit Int)) hll (fun i hi => by
      unfold page_view_checkGroups_L1
      rw [hv, hvn, need_of hi, bnd_eq]
      have hneed : (!decide ((gx d.Nodes i).Parent = Str.nil)) = true → (!(numM d.Nodes).has (gx d.Nodes i).Parent) = false → inR d.Nodes ((numM d.Nodes).getD (gx d.Nodes i).Parent 0) := fun _ h2 => by
        rw [numM_has] at h2
        have : 0 ≤ nodeAt d.Nodes (gx d.Nodes i).Parent := by simpa using h2
        rw [numM_getD this]
        apply Classical.byContradiction
        intro hc
        have := nodeAt_pos (l := d.Nodes) (id := (gx d.Nodes i).Parent) (Classical.byContradiction fun hne => by
          have : nodeAt d.Nodes (gx d.Nodes i).Parent < 0 := nodeAt_neg.2 (fun n hn e => hne ⟨n, hn, e⟩)
          omega)
        exact hc this.1
      rw [need_of hneed, numM_has]
      by_cases h0 : (gx d.Nodes i).Parent = Str.nil
      · rw [show err1 (gx d.Nodes i) = 0 from if_neg (fun h => h.1 h0)]
        simp [h0]
      · by_cases hneg : nodeAt d.Nodes (gx d.Nodes i).Parent < 0
        · rw [show err1 (gx d.Nodes i) = 10 from if_pos ⟨h0, .inl hneg⟩]
          have : ¬ 0 ≤ nodeAt d.Nodes (gx d.Nodes i).Parent := by omega
          simp [h0, this]
        · have hge : 0 ≤ nodeAt d.Nodes (gx d.Nodes i).Parent := by omega
          rw [numM_getD hge]
          by_cases hk : (par d.Nodes (gx d.Nodes i)).Kind = 6
          · rw [show err1 (gx d.Nodes i) = 0 from if_neg (fun h => h.2.elim hneg (fun h => h hk))]
            unfold par at hk
            simp [h0, hge, hk]
          · rw [show err1 (gx d.Nodes i) = 10 from if_pos ⟨h0, .inr hk⟩]
            unfold par at hk
            simp [h0, hge, hk])
  have q1 : rforE (d.Nodes.length : Int) (ref_treeError_L1 d) (fun s => Res.nx s) () = some (if firstErr (d.Nodes.map err1) = 0 then Res.nx () else Res.ab (firstErr (d.Nodes.map err1))) :=
    rforE_err err1 (fun e => (Res.ab e : Res Unit Int)) hll (fun i hi => by
      unfold ref_treeError_L1
      rw [need_of hi, bnd_eq, NodeAt_eq hll, Option.bind_some]
      have hneed : (!decide ((gx d.Nodes i).Parent = Str.nil)) = true → decide (nodeAt d.Nodes (gx d.Nodes i).Parent < 0) = false → inR d.Nodes (nodeAt d.Nodes (gx d.Nodes i).Parent) := fun _ h2 => by
        have h2 : ¬ nodeAt d.Nodes (gx d.Nodes i).Parent < 0 := by simpa using h2
        exact (nodeAt_pos (l := d.Nodes) (id := (gx d.Nodes i).Parent) (Classical.byContradiction fun hne => h2 (nodeAt_neg.2 (fun n hn e => hne ⟨n, hn, e⟩)))).1
      rw [need_of hneed]
      by_cases h0 : (gx d.Nodes i).Parent = Str.nil
      · rw [show err1 (gx d.Nodes i) = 0 from if_neg (fun h => h.1 h0)]
        simp [h0]
      · by_cases hneg : nodeAt d.Nodes (gx d.Nodes i).Parent < 0
        · rw [show err1 (gx d.Nodes i) = 10 from if_pos ⟨h0, .inl hneg⟩]
          simp [h0, hneg]
        · by_cases hk : (par d.Nodes (gx d.Nodes i)).Kind = 6
          · rw [show err1 (gx d.Nodes i) = 0 from if_neg (fun h => h.2.elim hneg (fun h => h hk))]
            unfold par at hk
            simp [h0, hneg, hk]
          · rw [show err1 (gx d.Nodes i) = 10 from if_pos ⟨h0, .inr hk⟩]
            unfold par at hk
            simp [h0, hneg, hk])
  by_cases h1 : firstErr (d.Nodes.map err1) = 0
  case neg =>
    refine ⟨firstErr (d.Nodes.map err1), ?_, ?_, fun h => absurd h h1⟩
    · unfold page_view_checkGroups; rw [hv, p1, if_neg h1]; rfl
    · unfold ref_treeError; rw [q1, if_neg h1]; rfl
  have hgood : ∀ n ∈ d.Nodes, n.Parent ≠ Str.nil → ∃ g ∈ d.Nodes, g.Id = n.Parent ∧ (par d.Nodes n).Kind = 6 := fun n hn hne => by
    have := firstErr_zero.1 h1 _ (List.mem_map_of_mem hn)
    have hx : ¬ (n.Parent ≠ Str.nil ∧ (nodeAt d.Nodes n.Parent < 0 ∨ (par d.Nodes n).Kind ≠ 6)) := fun h => by
      have e : err1 n = 10 := if_pos h
      rw [e] at this; cases this
    have hk : (par d.Nodes n).Kind = 6 := Classical.byContradiction fun hk => hx ⟨hne, .inr hk⟩
    have hge : ¬ nodeAt d.Nodes n.Parent < 0 := fun h => hx ⟨hne, .inl h⟩
    apply Classical.byContradiction
    intro hno
    exact hge (nodeAt_neg.2 (fun g hg e => hno ⟨g, hg, e, hk⟩))
  have hpar : ParIn d.Nodes := fun n hn hne => by
    obtain ⟨g, h1, h2, _⟩ := hgood n hn hne
    exact ⟨g, h1, h2⟩
  let A : DNode → Int × Bool := fun n => (ref_above d n).getD (0, false)
  have hA : ∀ n ∈ d.Nodes, page_view_above (viewD d) n = some ((A n).1, !(A n).2) ∧ ref_above d n = some (A n) ∧ Up d.Nodes n (A n).1 (A n).2 := fun n hn => by
    obtain ⟨m, b, g1, g2, g3⟩ := above_both hl hpar hn
    have e : A n = (m, b) := by show (ref_above d n).getD _ = _; rw [g2]; rfl
    rw [e]; exact ⟨g1, g2, g3⟩
  let err2 : DNode → Int := fun n => if (A n).2 = true then 13 else 0
  let err3 : DNode → Int := fun n => if 8 < (A n).1 then 4 else 0
  let err4 : DNode → Int := fun n => if n.Kind = 6 ∧ idxs d.Nodes n.Id = [] then 9 else 0
  have p2 : rforE (d.Nodes.length : Int) (page_view_checkGroups_L2 (viewD d)) (fun s => Res.nx s) () = some (if firstErr (d.Nodes.map err2) = 0 then Res.nx () else Res.ab (firstErr (d.Nodes.map err2))) :=
    rforE_err err2 (fun e => (Res.ab e : Res Unit Int)) hll (fun i hi => by
      unfold page_view_checkGroups_L2
      rw [hv, need_of hi, bnd_eq, (hA _ (gx_mem hi)).1, Option.bind_some]
      by_cases h : (A (gx d.Nodes i)).2 = true
      · rw [show err2 (gx d.Nodes i) = 13 from if_pos h]; simp [h]
      · rw [show err2 (gx d.Nodes i) = 0 from if_neg h]; simp [h])
  have q2 : rforE (d.Nodes.length : Int) (ref_treeError_L2 d) (fun s => Res.nx s) () = some (if firstErr (d.Nodes.map err2) = 0 then Res.nx () else Res.ab (firstErr (d.Nodes.map err2))) :=
    rforE_err err2 (fun e => (Res.ab e : Res Unit Int)) hll (fun i hi => by
      unfold ref_treeError_L2
      rw [need_of hi, bnd_eq, (hA _ (gx_mem hi)).2.1, Option.bind_some]
      by_cases h : (A (gx d.Nodes i)).2 = true
      · rw [show err2 (gx d.Nodes i) = 13 from if_pos h]; simp [h]
      · rw [show err2 (gx d.Nodes i) = 0 from if_neg h]; simp [h])
  have p3 : rforE (d.Nodes.length : Int) (page_view_checkGroups_L3 (viewD d)) (fun s => Res.nx s) () = some (if firstErr (d.Nodes.map err3) = 0 then Res.nx () else Res.ab (firstErr (d.Nodes.map err3))) :=
    rforE_err err3 (fun e => (Res.ab e : Res Unit Int)) hll (fun i hi => by
      unfold page_view_checkGroups_L3
      rw [hv, need_of hi, bnd_eq, (hA _ (gx_mem hi)).1, Option.bind_some]
      by_cases h : 8 < (A (gx d.Nodes i)).1
      · rw [show err3 (gx d.Nodes i) = 4 from if_pos h]; simp [h]
      · rw [show err3 (gx d.Nodes i) = 0 from if_neg h]; simp [h])
  have q3 : rforE (d.Nodes.length : Int) (ref_treeError_L3 d) (fun s => Res.nx s) () = some (if firstErr (d.Nodes.map err3) = 0 then Res.nx () else Res.ab (firstErr (d.Nodes.map err3))) :=
    rforE_err err3 (fun e => (Res.ab e : Res Unit Int)) hll (fun i hi => by
      unfold ref_treeError_L3
      rw [need_of hi, bnd_eq, (hA _ (gx_mem hi)).2.1, Option.bind_some]
      by_cases h : 8 < (A (gx d.Nodes i)).1
      · rw [show err3 (gx d.Nodes i) = 4 from if_pos h]; simp [h]
      · rw [show err3 (gx d.Nodes i) = 0 from if_neg h]; simp [h])
  have hlen : ∀ p, (d.Nodes.filter (fun n => decide (n.Parent = p))).length = (idxs d.Nodes p).length := fun p => by rw [← idxs_map, List.length_map]
  have p4 : rforE (d.Nodes.length : Int) (page_view_checkGroups_L4 (viewD d)) (fun s => Res.nx s) () = some (if firstErr (d.Nodes.map err4) = 0 then Res.nx () else Res.ab (firstErr (d.Nodes.map err4))) :=
    rforE_err err4 (fun e => (Res.ab e : Res Unit Int)) hll (fun i hi => by
      unfold page_view_checkGroups_L4
      rw [hv, hvm, need_of hi, bnd_eq, memM_getD (hid _ (gx_mem hi))]
      by_cases h : (gx d.Nodes i).Kind = 6 ∧ idxs d.Nodes (gx d.Nodes i).Id = []
      · rw [show err4 (gx d.Nodes i) = 9 from if_pos h]; simp [h.1, h.2]
      · rw [show err4 (gx d.Nodes i) = 0 from if_neg h]
        by_cases h2 : (gx d.Nodes i).Kind = 6
        · have h3 : idxs d.Nodes (gx d.Nodes i).Id ≠ [] := fun e => h ⟨h2, e⟩
          simp [h2, h3]
        · simp [h2])
  have q4 : rforE (d.Nodes.length : Int) (ref_treeError_L4 d) (fun s => Res.nx s) () = some (if firstErr (d.Nodes.map err4) = 0 then Res.nx () else Res.ab (firstErr (d.Nodes.map err4))) :=
    rforE_err err4 (fun e => (Res.ab e : Res Unit Int)) hll (fun i hi => by
      unfold ref_treeError_L4
      rw [need_of hi, bnd_eq, members_eq hl]
      by_cases h2 : (gx d.Nodes i).Kind = 6
      · rw [decide_eq_true h2, gd_true, Option.bind_some, hlen]
        by_cases h3 : idxs d.Nodes (gx d.Nodes i).Id = []
        · rw [show err4 (gx d.Nodes i) = 9 from if_pos ⟨h2, h3⟩]; simp [h3]
        · rw [show err4 (gx d.Nodes i) = 0 from if_neg (fun h => h3 h.2)]; simp [h3]
      · rw [show err4 (gx d.Nodes i) = 0 from if_neg (fun h => h2 h.1), decide_eq_false h2]; simp [gd])
  unfold page_view_checkGroups ref_treeError
  rw [hv, p1, p2, p3, p4, q1, q2, q3, q4, if_pos h1, bindR_nx]
  by_cases h2 : firstErr (d.Nodes.map err2) = 0
  case neg => rw [if_neg h2]; exact ⟨_, rfl, rfl, fun h => absurd h h2⟩
  rw [if_pos h2, bindR_nx]
  by_cases h3 : firstErr (d.Nodes.map err3) = 0
  case neg => rw [if_neg h3]; exact ⟨_, rfl, rfl, fun h => absurd h h3⟩
  rw [if_pos h3, bindR_nx]
  by_cases h4 : firstErr (d.Nodes.map err4) = 0
  case neg => rw [if_neg h4]; exact ⟨_, rfl, rfl, fun h => absurd h h4⟩
  rw [if_pos h4, bindR_nx]
  have hu : ∀ n ∈ d.Nodes, Up d.Nodes n (A n).1 false := fun n hn => by
    have := firstErr_zero.1 h2 _ (List.mem_map_of_mem hn)
    have hb : (A n).2 = false := by
      cases hb : (A n).2 with
      | false => rfl
      | true =>
        have e : err2 n = 13 := if_pos hb
        rw [e] at this; cases this
    have := (hA n hn).2.2
    rwa [hb] at this
  refine ⟨0, rfl, rfl, fun _ => ⟨hgood, fun n hn => ?_, fun n hn hk he => ?_⟩⟩
  · obtain ⟨k, e1, e2, e3⟩ := ends hpar (fun n hn => ⟨_, hu n hn⟩) hn (hu n hn)
    refine ⟨k, ?_, e2, e3⟩
    have := firstErr_zero.1 h3 _ (List.mem_map_of_mem hn)
    apply Classical.byContradiction
    intro hc
    have e : err3 n = 4 := if_pos (by omega)
    rw [e] at this; cases this
  · have := firstErr_zero.1 h4 _ (List.mem_map_of_mem hn)
    have e : err4 n = 9 := if_pos ⟨hk, he⟩
    rw [e] at this; cases this
end Go.DB
