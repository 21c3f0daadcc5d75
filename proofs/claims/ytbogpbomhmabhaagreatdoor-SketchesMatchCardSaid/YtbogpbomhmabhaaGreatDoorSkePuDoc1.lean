/-
  Diagrams, in plain words: names, what is where, the view of a diagram.
-/
import Derived.Test.YtbogpbomhmabhaaGreatDoorSkePuName
import Derived.Test.YtbogpbomhmabhaaGreatDoorSkePuTErr
import Derived.Test.YtbogpbomhmabhaaGreatDoorSkePuBox
set_option linter.unusedSimpArgs false
set_option linter.unusedVariables false
namespace Go.DB
open Go Go.RowKit


/-! What is where. -/

/-- The place of a node, or -1. -/
def nodeAt (l : List DNode) (id : Str) : Int := match l.findIdx? (fun n => decide (n.Id = id)) with | some i => (i : Int) | none => -1
theorem IndexFunc_Node_eq (s : List DNode) (f : DNode → Option Bool) (p : DNode → Bool) (hl : (s.length : Int) ≤ 9223372036854775807) (hf : ∀ x ∈ s, f x = some (p x)) :
    slices_IndexFunc_Node s f = some (match s.findIdx? p with | some i => (i : Int) | none => -1) := by
  unfold slices_IndexFunc_Node
  rw [rforE_index p hl (fun i h => by unfold slices_IndexFunc_Node_L1; rw [need_of ⟨by omega, by omega⟩, gx_nat h, hf _ (List.getElem_mem h)]; simp only [bind_sm]; cases p s[i] <;> rfl)]
  cases s.findIdx? p <;> rfl
theorem ContainsFunc_Node_eq (s : List DNode) (f : DNode → Option Bool) (p : DNode → Bool) (hl : (s.length : Int) ≤ 9223372036854775807) (hf : ∀ x ∈ s, f x = some (p x)) :
    slices_ContainsFunc_Node s f = some (s.any p) := by
  unfold slices_ContainsFunc_Node
  rw [IndexFunc_Node_eq s f p hl hf, bind_sm]
  exact congrArg some idx_any
theorem IndexFunc_Edge_eq (s : List DEdge) (f : DEdge → Option Bool) (p : DEdge → Bool) (hl : (s.length : Int) ≤ 9223372036854775807) (hf : ∀ x ∈ s, f x = some (p x)) :
    slices_IndexFunc_Edge s f = some (match s.findIdx? p with | some i => (i : Int) | none => -1) := by
  unfold slices_IndexFunc_Edge
  rw [rforE_index p hl (fun i h => by unfold slices_IndexFunc_Edge_L1; rw [need_of ⟨by omega, by omega⟩, gx_nat h, hf _ (List.getElem_mem h)]; simp only [bind_sm]; cases p s[i] <;> rfl)]
  cases s.findIdx? p <;> rfl
theorem ContainsFunc_Edge_eq (s : List DEdge) (f : DEdge → Option Bool) (p : DEdge → Bool) (hl : (s.length : Int) ≤ 9223372036854775807) (hf : ∀ x ∈ s, f x = some (p x)) :
    slices_ContainsFunc_Edge s f = some (s.any p) := by
  unfold slices_ContainsFunc_Edge
  rw [IndexFunc_Edge_eq s f p hl hf, bind_sm]
  exact congrArg some idx_any
theorem NodeAt_eq {d : Doc} (hl : (d.Nodes.length : Int) ≤ 9223372036854775807) (id : Str) : ref_NodeAt d id = some (nodeAt d.Nodes id) := by
  unfold ref_NodeAt
  rw [IndexFunc_Node_eq d.Nodes (fun x0 => ref_NodeAt_1 x0 id) (fun n => decide (n.Id = id)) hl (fun x _ => rfl)]
  rfl
theorem nodeAt_neg {l : List DNode} {id : Str} : nodeAt l id < 0 ↔ ∀ n ∈ l, n.Id ≠ id := by
  unfold nodeAt
  cases h : l.findIdx? (fun n => decide (n.Id = id)) with
  | none =>
    rw [List.findIdx?_eq_none_iff] at h
    simpa using h
  | some i =>
    obtain ⟨hi, hp, _⟩ := List.findIdx?_eq_some_iff_getElem.1 h
    simp only
    constructor
    · intro h; omega
    · intro h; exact absurd (by simpa using hp) (h _ (List.getElem_mem hi))
theorem nodeAt_pos {l : List DNode} {id : Str} (h : ∃ n ∈ l, n.Id = id) : inR l (nodeAt l id) ∧ (gx l (nodeAt l id)).Id = id := by
  unfold nodeAt
  cases hq : l.findIdx? (fun n => decide (n.Id = id)) with
  | none =>
    rw [List.findIdx?_eq_none_iff] at hq
    obtain ⟨n, hn, e⟩ := h
    exact absurd e (by simpa using hq n hn)
  | some i =>
    obtain ⟨hi, hp, _⟩ := List.findIdx?_eq_some_iff_getElem.1 hq
    refine ⟨⟨by simp, by simp only; omega⟩, ?_⟩
    simp only
    rw [gx_nat hi]; simpa using hp
/-- Where Ids are told apart. -/
theorem nodeAt_of {l : List DNode} (hd : (l.map (·.Id)).Nodup) {i : Nat} (hi : i < l.length) : nodeAt l l[i].Id = i := by
  unfold nodeAt
  have : l.findIdx? (fun n => decide (n.Id = l[i].Id)) = some i := by
    rw [List.findIdx?_eq_some_iff_getElem]
    refine ⟨hi, by simp, fun j hj => ?_⟩
    simp only [decide_eq_true_eq]
    intro e
    have := List.pairwise_iff_getElem.1 hd j i (by simp; omega) (by simpa using hi) hj
    simp at this
    exact this e
  rw [this]

/-- The numbers of those whose parent p is. -/
def idxs (l : List DNode) (p : Str) : List Int := ((List.range l.length).filter (fun (i : Nat) => decide ((gx l (i : Int)).Parent = p))).map (fun (i : Nat) => (i : Int))
theorem gx_left {α : Type} [Inhabited α] {l m : List α} {i : Nat} (hi : i < l.length) : gx (l ++ m) (i : Int) = gx l (i : Int) := by
  rw [gx_nat hi, gx_nat (by simp; omega), List.getElem_append_left hi]
theorem gx_end {α : Type} [Inhabited α] {l : List α} {x : α} : gx (l ++ [x]) (l.length : Int) = x := by
  rw [gx_nat (by simp)]; simp
theorem idxs_snoc {l : List DNode} {x : DNode} {p : Str} : idxs (l ++ [x]) p = idxs l p ++ (if x.Parent = p then [(l.length : Int)] else []) := by
  unfold idxs
  rw [List.length_append, List.length_singleton, List.range_succ, List.filter_append, List.map_append]
  congr 1
  · congr 1
    refine List.filter_congr fun i hi => ?_
    rw [gx_left (by simpa using hi)]
  · by_cases h : x.Parent = p
    · simp [h, gx_end]
    · simp [h, gx_end]
theorem idxs_mem {l : List DNode} {p : Str} {k : Int} : k ∈ idxs l p ↔ inR l k ∧ (gx l k).Parent = p := by
  unfold idxs
  simp only [List.mem_map, List.mem_filter, List.mem_range, decide_eq_true_eq]
  constructor
  · rintro ⟨i, ⟨h1, h2⟩, rfl⟩; exact ⟨⟨by omega, by omega⟩, h2⟩
  · rintro ⟨⟨h1, h2⟩, h3⟩
    refine ⟨k.toNat, ⟨by omega, ?_⟩, by omega⟩
    rw [show ((k.toNat : Nat) : Int) = k by omega]; exact h3
theorem idxs_map {l : List DNode} {p : Str} : (idxs l p).map (gx l) = l.filter (fun n => decide (n.Parent = p)) := by
  have key : ∀ (k : Nat), k ≤ l.length → (idxs (l.take k) p).map (gx l) = (l.take k).filter (fun n => decide (n.Parent = p)) := by
    intro k
    induction k with
    | zero => intro _; rfl
    | succ k ih =>
      intro hk
      rw [List.take_succ_eq_append_getElem (by omega), idxs_snoc, List.map_append, ih (by omega), List.filter_append]
      congr 1
      have hlen : (l.take k).length = k := by simp; omega
      by_cases h : (l[k]'(by omega)).Parent = p
      · rw [if_pos h, hlen]; simp [h, gx_nat (show k < l.length by omega)]
      · rw [if_neg h]; simp [h]
  have := key l.length (Nat.le_refl _)
  rwa [List.take_length] at this

/-- The numbers of the nodes, by Id; what is in the groups. -/
def numM (l : List DNode) : GMap Str Int := ⟨fun id => (l.findIdx? (fun n => decide (n.Id = id))).map (fun (i : Nat) => (i : Int))⟩
def memM (l : List DNode) : GMap Str (List Int) := ⟨fun p => if p ≠ Str.nil ∧ idxs l p ≠ [] then some (idxs l p) else none⟩
theorem numM_snoc {l : List DNode} {x : DNode} (h : ∀ n ∈ l, n.Id ≠ x.Id) : numM (l ++ [x]) = (numM l).set x.Id l.length := by
  unfold numM GMap.set
  congr 1
  funext id
  rw [List.findIdx?_append]
  by_cases he : id = x.Id
  · subst he
    have : l.findIdx? (fun n => decide (n.Id = x.Id)) = none := by
      rw [List.findIdx?_eq_none_iff]
      intro n hn
      simpa using h n hn
    rw [this, if_pos rfl]
    simp [List.findIdx?_cons]
  · rw [if_neg he]
    have : [x].findIdx? (fun n => decide (n.Id = id)) = none := by
      rw [List.findIdx?_eq_none_iff]
      intro n hn
      have : n = x := by simpa using hn
      subst this
      simpa using fun e => he e.symm
    rw [this]
    simp only
    cases l.findIdx? (fun n => decide (n.Id = id)) <;> rfl
theorem memM_getD {l : List DNode} {p : Str} (hp : p ≠ Str.nil) : (memM l).getD p [] = idxs l p := by
  unfold memM GMap.getD
  simp only
  by_cases h : idxs l p = []
  · rw [if_neg (by simp [h])]; simp [h]
  · rw [if_pos ⟨hp, h⟩]; rfl
theorem memM_snoc0 {l : List DNode} {x : DNode} (h : x.Parent = Str.nil) : memM (l ++ [x]) = memM l := by
  unfold memM
  congr 1
  funext p
  by_cases hp : p = Str.nil
  · simp [hp]
  · have e : (if x.Parent = p then [(l.length : Int)] else []) = [] := if_neg (fun e => hp (by rw [← e, h]))
    rw [idxs_snoc, e, List.append_nil]
theorem memM_snoc {l : List DNode} {x : DNode} (h : x.Parent ≠ Str.nil) : memM (l ++ [x]) = (memM l).set x.Parent ((memM l).getD x.Parent [] ++ [(l.length : Int)]) := by
  rw [memM_getD h]
  unfold memM GMap.set
  congr 1
  funext p
  simp only
  by_cases hp : p = x.Parent
  · subst hp
    rw [if_pos rfl, idxs_snoc, if_pos rfl, if_pos ⟨h, by simp⟩]
  · have e : (if x.Parent = p then [(l.length : Int)] else []) = [] := if_neg (fun e => hp e.symm)
    rw [if_neg hp, idxs_snoc, e, List.append_nil]
theorem numM_has {l : List DNode} {id : Str} : (numM l).has id = decide (0 ≤ nodeAt l id) := by
  unfold numM GMap.has nodeAt
  simp only
  cases l.findIdx? (fun n => decide (n.Id = id)) <;> simp
theorem numM_getD {l : List DNode} {id : Str} (h : 0 ≤ nodeAt l id) : (numM l).getD id 0 = nodeAt l id := by
  unfold numM GMap.getD nodeAt at *
  simp only at *
  cases hq : l.findIdx? (fun n => decide (n.Id = id)) with
  | none => rw [hq] at h; simp at h
  | some i => rfl
/-- The view of a diagram. -/
def viewD (d : Doc) : Page_view := ⟨d, numM d.Nodes, memM d.Nodes⟩
theorem viewOf_eq {d : Doc} (hl : d.Nodes.length ≤ 500) (hd : (d.Nodes.map (·.Id)).Nodup) : page_viewOf d = some (some (viewD d)) := by
  unfold page_viewOf
  simp only [bnd_eq]
  have hlen : ∀ k p, (idxs (d.Nodes.take k) p).length ≤ 500 := fun k p => by
    unfold idxs
    rw [List.length_map]
    refine Nat.le_trans (List.length_filter_le _ _) ?_
    simp; omega
  obtain ⟨s, h1, h2⟩ := rfor_inv (n := (d.Nodes.length : Int)) (step := page_viewOf_L1 d) (s0 := (GMap.nil, GMap.nil)) (fun i s => s = (numM (d.Nodes.take i), memM (d.Nodes.take i))) (by omega) (by
    simp only [List.take_zero]
    have e1 : numM [] = (GMap.nil : GMap Str Int) := rfl
    have e2 : memM [] = (GMap.nil : GMap Str (List Int)) := by
      unfold memM GMap.nil
      congr 1
      funext p
      rw [if_neg (fun h => h.2 rfl)]
    rw [e1, e2]) (fun i s hi hI => by
    subst hI
    have hi' : i < d.Nodes.length := by omega
    have hln : (d.Nodes.take i).length = i := by simp; omega
    have hnew : ∀ n ∈ d.Nodes.take i, n.Id ≠ d.Nodes[i].Id := fun n hn => by
      obtain ⟨j, hj, rfl⟩ := List.mem_iff_getElem.1 hn
      rw [List.getElem_take]
      have hj' : j < i := by simp at hj; omega
      have := List.pairwise_iff_getElem.1 hd j i (by simp; omega) (by simpa using hi') hj'
      simpa using this
    unfold page_viewOf_L1
    rw [need_of ⟨by omega, by omega⟩, gx_nat hi', bnd_eq, bnd_eq, List.take_succ_eq_append_getElem hi', numM_snoc hnew, hln]
    simp only
    by_cases hp : d.Nodes[i].Parent = Str.nil
    · rw [decide_eq_true hp, memM_snoc0 hp]
      exact ⟨_, rfl, rfl⟩
    · rw [decide_eq_false hp, memM_snoc hp, hln]
      rw [memM_getD hp]
      refine ⟨_, ?_, rfl⟩
      simp only [Bool.not_false, cond_true]
      rw [need_of]
      show _ ≤ 1073741824
      have := hlen i d.Nodes[i].Parent
      simp; omega)
  rw [h1, h2]
  simp [viewD]
theorem members_eq {d : Doc} (hl : d.Nodes.length ≤ 500) (id : Str) : ref_members d id = some (d.Nodes.filter (fun n => decide (n.Parent = id))) := by
  unfold ref_members
  rw [rfor_gather (fun n => if n.Parent = id then [n] else []) [] (fun a _ => by split <;> simp) (by simp; omega) (fun i s hi hs => by
    unfold ref_members_L1
    rw [need_of hi, bnd_eq]
    by_cases h : (gx d.Nodes i).Parent = id
    · rw [decide_eq_true h, if_pos h, cond_true, need_of]
      show _ ≤ 1073741824
      simp; omega
    · rw [decide_eq_false h, if_neg h, cond_false, List.append_nil])]
  simp only [List.nil_append, Option.bind_some]
  congr 1
  generalize d.Nodes = l
  induction l with
  | nil => rfl
  | cons n l ih =>
    rw [List.flatMap_cons, ih, List.filter_cons]
    by_cases h : n.Parent = id <;> simp [h]
end Go.DB
