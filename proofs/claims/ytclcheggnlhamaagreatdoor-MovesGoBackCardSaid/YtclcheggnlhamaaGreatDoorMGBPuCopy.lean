/-
  Diagrams that are copied, and compared.
-/
import Derived.Test.YtclcheggnlhamaaGreatDoorMGBPuLook1
set_option linter.unusedSimpArgs false
set_option linter.unusedVariables false
namespace Go.DB
open Go Go.RowKit

theorem Clone_Node_eq {l : List DNode} (h : l.length ≤ 1073741824) : slices_Clone_Node l = some l := by
  unfold slices_Clone_Node
  rw [need_of (by simpa [room_iff] using h), bnd_eq, List.nil_append]
  exact nilc_eq fun e => by rw [e]
theorem Clone_Edge_eq {l : List DEdge} (h : l.length ≤ 1073741824) : slices_Clone_Edge l = some l := by
  unfold slices_Clone_Edge
  rw [need_of (by simpa [room_iff] using h), bnd_eq, List.nil_append]
  exact nilc_eq fun e => by rw [e]
theorem Clone_Point_eq {l : List Point} (h : l.length ≤ 1073741824) : slices_Clone_Point l = some l := by
  unfold slices_Clone_Point
  rw [need_of (by simpa [room_iff] using h), bnd_eq, List.nil_append]
  exact nilc_eq fun e => by rw [e]
theorem Right.bends {d : Doc} (h : Right d) {x : DEdge} (hx : x ∈ d.Edges) : x.Bends.length ≤ 50 := by
  obtain ⟨i, hi, rfl⟩ := List.getElem_of_mem hx
  have := h.edge i hi
  unfold edgeErr at this
  have h4 := firstErr_zero.1 this (if 50 < d.Edges[i].Bends.length then 4 else 0) (by simp)
  by_cases c : 50 < d.Edges[i].Bends.length
  · rw [if_pos c] at h4; cases h4
  · omega
theorem set_selfE {l : List DEdge} {i : Nat} (hi : i < l.length) {x : DEdge} (hx : x = l[i]) : l.set i x = l := by
  subst hx; exact List.set_getElem_self hi
theorem cloned_eq {d : Doc} (h : Right d) : page_cloned d = some d := by
  unfold page_cloned
  have hn := h.nl
  have he := h.el
  rw [bnd_eq, Clone_Node_eq (by omega), Clone_Edge_eq (by omega), Option.bind_some, Option.bind_some]
  obtain ⟨s, h1, h2⟩ := rfor_inv (n := (d.Edges.length : Int)) (step := page_cloned_L1) (s0 := d.Edges) (fun _ s => s = d.Edges) (by omega) rfl (fun i s hi hs => by
    subst hs
    have hi' : i < d.Edges.length := by omega
    refine ⟨d.Edges, ?_, rfl⟩
    unfold page_cloned_L1
    rw [need_of ⟨by omega, by omega⟩, gx_nat hi', Clone_Point_eq (by have := h.bends (List.getElem_mem hi'); omega), Option.bind_some, need_of ⟨by omega, by omega⟩]
    rw [show ((i : Int).toNat) = i from rfl, set_selfE hi' rfl])
  rw [h1, Option.bind_some, h2]
theorem Delete_Node_eq {l : List DNode} {i j : Nat} (hij : i ≤ j) (hj : j ≤ l.length) : slices_Delete_Node l (i : Int) (j : Int) = some (l.take i ++ l.drop j) := by
  unfold slices_Delete_Node
  rw [need_of ⟨by omega, by omega, by omega, by omega⟩]
  by_cases he : i = j
  · subst he; simp
  · have hd : decide ((i : Int) = (j : Int)) = false := decide_eq_false (by omega)
    have hm : (i : Int) + ((l.length : Int) - (j : Int)) = ((i + (l.length - j) : Nat) : Int) := by omega
    have hlen : (l.take i ++ l.drop j ++ l.drop (i + (l.length - j))).length = l.length := by simp only [List.length_append, List.length_take, List.length_drop]; omega
    have hfst : (l.take i ++ l.drop j).length = i + (l.length - j) := by simp only [List.length_append, List.length_take, List.length_drop]; omega
    have hlf : (List.take (i + (l.length - j)) (l.take i ++ l.drop j ++ l.drop (i + (l.length - j)))) = l.take i ++ l.drop j := List.take_left' hfst
    rw [hd, cond_false, need_of ⟨by omega, by omega, by omega⟩, need_of ⟨by omega, by omega, by omega⟩, need_of (by omega), bnd_eq, hm]
    simp only [Int.toNat_natCast, Int.sub_zero]
    generalize hZ : (⟨Str.nil, (0 : Int), (⟨(0 : Int), (0 : Int), (0 : Int), (0 : Int)⟩ : Box), Str.nil, Str.nil, Str.nil, false⟩ : DNode) = Z
    rw [need_of ⟨by omega, by omega, by rw [hlen]; omega⟩, need_of ⟨by omega, by omega, by rw [hlen]; omega⟩, need_of ⟨by omega, by omega, by rw [hlen]; omega⟩, need_of (by rw [hlen]), bnd_eq, hlf]
    rw [need_of ⟨by omega, by omega, by simp only [List.length_append, List.length_replicate, hfst]; omega⟩]
    rw [List.take_left' hfst]
theorem Equal_Node_refl {l : List DNode} (hl : (l.length : Int) ≤ 9223372036854775807) : slices_Equal_Node l l = some true := by
  unfold slices_Equal_Node
  simp only [decide_true, Bool.not_true, cond_false]
  rw [rforE_same rfl hl (fun i hi => by
    unfold slices_Equal_Node_L1
    rw [need_of ⟨by omega, by omega⟩, need_of ⟨by omega, by omega⟩, gx_nat hi]
    simp)]
  simp
theorem SameDoc_refl {d : Doc} (hn : (d.Nodes.length : Int) ≤ 9223372036854775807) (he : (d.Edges.length : Int) ≤ 9223372036854775807) (hb : ∀ x ∈ d.Edges, (x.Bends.length : Int) ≤ 9223372036854775807) : ref_SameDoc d d = some true := by
  unfold ref_SameDoc
  rw [Equal_Node_refl hn, Option.bind_some, gd_true]
  have : slices_EqualFunc_Edge d.Edges d.Edges ref_SameDoc_1 = some true := by
    unfold slices_EqualFunc_Edge
    simp only [decide_true, Bool.not_true, cond_false]
    rw [rforE_any (fun _ => false) (Res.ab false) he (fun i hi => by
      unfold slices_EqualFunc_Edge_L1
      have hs : ref_SameDoc_1 (gx d.Edges i) (gx d.Edges i) = some true := by
        unfold ref_SameDoc_1
        rw [Equal_Point_eq _ _ (hb _ (gx_mem hi))]
        simp
      rw [need_of hi, bnd_eq, need_of hi, bnd_eq, hs]; rfl)]
    simp
  rw [this]; rfl
end Go.DB
