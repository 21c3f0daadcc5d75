/-
  Nodes with new parents; groups that are taken away.
-/
import Derived.Test.YtclcheggnlhamaaGreatDoorMGBPuCopy
import Derived.Test.YtclcheggnlhamaaGreatDoorMGBPuPages
set_option linter.unusedSimpArgs false
set_option linter.unusedVariables false
namespace Go.DB
open Go Go.RowKit

/-- The nodes whose numbers a condition picks have a new parent. -/
def reP (l : List DNode) (q : Nat → Bool) (p : Str) : List DNode := (List.range l.length).map (fun i => if q i = true then { gx l (i : Int) with Parent := p } else gx l (i : Int))
theorem reP_len {l : List DNode} {q : Nat → Bool} {p : Str} : (reP l q p).length = l.length := by simp [reP]
theorem reP_at {l : List DNode} {q : Nat → Bool} {p : Str} {i : Nat} (hi : i < l.length) : gx (reP l q p) (i : Int) = if q i = true then { gx l (i : Int) with Parent := p } else gx l (i : Int) := by
  rw [gx_nat (by rw [reP_len]; exact hi)]
  simp [reP]
theorem reP_none {l : List DNode} {q : Nat → Bool} {p : Str} (h : ∀ i, i < l.length → q i = false) : reP l q p = l := by
  unfold reP
  refine List.ext_getElem (by simp) fun i h1 h2 => ?_
  have hi : i < l.length := h2
  simp [h i hi, gx_nat hi]
theorem reP_congr {l : List DNode} {q r : Nat → Bool} {p : Str} (h : ∀ i, i < l.length → q i = r i) : reP l q p = reP l r p := by
  unfold reP
  exact List.map_congr_left fun i hi => by rw [h i (by simpa using hi)]
theorem reP_set {l : List DNode} {q : Nat → Bool} {p : Str} {i : Nat} (hi : i < l.length) : (reP l q p).set i { gx (reP l q p) (i : Int) with Parent := p } = reP l (fun j => q j || decide (j = i)) p := by
  rw [reP_at hi]
  refine List.ext_getElem (by simp [reP]) fun j h1 h2 => ?_
  have hj : j < l.length := by simpa [reP_len] using h2
  rw [List.getElem_set]
  by_cases e : i = j
  · subst e
    rw [if_pos rfl]
    have : (reP l (fun j => q j || decide (j = i)) p)[i] = { gx l (i : Int) with Parent := p } := by simp [reP]
    rw [this]
    split <;> rfl
  · rw [if_neg e]
    have e' : ¬ j = i := fun h => e h.symm
    simp [reP, e']

theorem ulook_ok {d : Doc} (hc : page_Check d = some 0) (h : Right d) : page_look d = some (some (viewD d), 0) := by
  unfold page_look
  rw [hc, Option.bind_some, h.viewOf]; rfl

theorem Ungroup_prog {d : Doc} (h : Right d) {k : Nat} (hk : k < d.Nodes.length) (hid : nodeAt d.Nodes d.Nodes[k].Id = k) (hc : page_Check d = some 0) (hkind : d.Nodes[k].Kind = 6) :
    page_Ungroup d d.Nodes[k].Id = some (⟨(reP d.Nodes (fun j => decide ((gx d.Nodes (j : Int)).Parent = d.Nodes[k].Id)) d.Nodes[k].Parent).take k ++ (reP d.Nodes (fun j => decide ((gx d.Nodes (j : Int)).Parent = d.Nodes[k].Id)) d.Nodes[k].Parent).drop (k + 1), d.Edges⟩, 0) := by
  have hnl := h.nl
  have hfind : page_find d d.Nodes[k].Id = some (some (viewD d), (k : Int), 0) := by
    unfold page_find
    rw [ulook_ok hc h, Option.bind_some]
    simp only [decide_true, Bool.not_true, cond_false, Option.bind_some]
    have h1 : (viewD d).number = numM d.Nodes := rfl
    rw [h1, numM_has, hid, numM_getD (by rw [hid]; omega), hid]
    simp
  have hgk : gx d.Nodes (k : Int) = d.Nodes[k] := gx_nat hk
  have hne : d.Nodes[k].Id ≠ Str.nil := h.hid (List.getElem_mem hk)
  unfold page_Ungroup
  rw [bnd_eq, hfind, Option.bind_some]
  simp only [decide_true, Bool.not_true, cond_false]
  rw [need_of ⟨by omega, by omega⟩, hgk]
  simp only [hkind, decide_true, Bool.not_true, cond_false]
  rw [cloned_eq h, Option.bind_some, Option.bind_some, bnd_eq]
  have hm : (viewD d).members = memM d.Nodes := rfl
  rw [hm, memM_getD hne]
  generalize hv : idxs d.Nodes d.Nodes[k].Id = v
  have hvm : ∀ c, c ∈ v ↔ inR d.Nodes c ∧ (gx d.Nodes c).Parent = d.Nodes[k].Id := fun c => by rw [← hv]; exact idxs_mem
  have hvl : v.length ≤ 500 := by
    rw [← hv]; unfold idxs
    rw [List.length_map]
    have := List.length_filter_le (fun (i : Nat) => decide ((gx d.Nodes (i : Int)).Parent = d.Nodes[k].Id)) (List.range d.Nodes.length)
    rw [List.length_range] at this
    omega
  obtain ⟨s, p1, p2⟩ := rfor_inv (n := (v.length : Int)) (step := page_Ungroup_L1 (some (viewD d), (k : Int), 0) v) (s0 := d.Nodes) (fun t s => s = reP d.Nodes (fun j => decide ((j : Int) ∈ v.take t)) d.Nodes[k].Parent) (by omega)
    (by rw [reP_none]; intro i hi; simp) (fun i s hi hs => by
      subst hs
      have hi' : i < v.length := by omega
      have hc := (hvm v[i]).1 (List.getElem_mem hi')
      obtain ⟨⟨c1, c2⟩, c3⟩ := hc
      obtain ⟨m, hm⟩ : ∃ m : Nat, v[i] = m := ⟨v[i].toNat, by omega⟩
      have hml : m < d.Nodes.length := by omega
      unfold page_Ungroup_L1
      rw [need_of ⟨by omega, by omega⟩, need_of ⟨by show (0 : Int) ≤ (k : Int); omega, by rw [reP_len]; show (k : Int) < _; omega⟩, bnd_eq, gx_nat hi', hm, need_of ⟨by omega, by rw [reP_len]; omega⟩]
      have hq : (gx (reP d.Nodes (fun j => decide ((j : Int) ∈ v.take i)) d.Nodes[k].Parent) ((k : Int))).Parent = d.Nodes[k].Parent := by
        rw [reP_at hk, hgk]
        split <;> rfl
      simp only [hq, Int.toNat_natCast]
      rw [reP_set hml]
      refine ⟨_, rfl, reP_congr fun j hj => ?_⟩
      rw [List.take_succ_eq_append_getElem hi', hm, Bool.eq_iff_iff]
      simp only [Bool.or_eq_true, decide_eq_true_eq, List.mem_append, List.mem_singleton]
      constructor <;> rintro (a | a) <;> first | exact .inl a | exact .inr (by omega))
  have hss : s = reP d.Nodes (fun j => decide ((gx d.Nodes (j : Int)).Parent = d.Nodes[k].Id)) d.Nodes[k].Parent := by
    rw [p2]
    refine reP_congr fun j hj => ?_
    rw [show (v.length : Int).toNat = v.length from rfl, List.take_length, Bool.eq_iff_iff]
    simp only [decide_eq_true_eq]
    rw [hvm]
    exact ⟨fun a => a.2, fun b => ⟨⟨by omega, by omega⟩, b⟩⟩
  have hsl : s.length = d.Nodes.length := by rw [hss, reP_len]
  rw [p1, Option.bind_some, ← hss, Wk (by omega) (by omega), show (k : Int) + 1 = ((k + 1 : Nat) : Int) by omega, Delete_Node_eq (by omega) (by omega)]
  rfl
end Go.DB
