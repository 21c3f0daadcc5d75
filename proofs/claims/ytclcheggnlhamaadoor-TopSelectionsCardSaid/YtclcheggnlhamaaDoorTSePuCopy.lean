/-
  Diagrams that are copied, and compared.
-/
import Derived.Test.YtclcheggnlhamaaDoorTSePuLook1
set_option linter.unusedSimpArgs false
set_option linter.unusedVariables false
namespace Go.DB
open Go Go.RowKit
theorem Clone_Node_eq {l : List DNode} (h : l.length ≤ 1073741824) : slices_Clone_Node l = some l := by
 unfold slices_Clone_Node
 rw [need_of (by simpa [room_iff] using h), bnd_eq, List.nil_append]
 exact nilc_eq fun e => by rw [e]
theorem Clone_Edge_eq {l : List DEdge} (h : l.length ≤ 1073741824) : slices_Clone_Edge l = some l := by
 unfold slices_Clone_Edge
 rw [need_of (by simpa [room_iff] using h), bnd_eq, List.nil_append]
 exact nilc_eq fun e => by rw [e]
theorem Clone_Point_eq {l : List Point} (h : l.length ≤ 1073741824) : slices_Clone_Point l = some l := by
 unfold slices_Clone_Point
 rw [need_of (by simpa [room_iff] using h), bnd_eq, List.nil_append]
 exact nilc_eq fun e => by rw [e]
theorem Right.bends {d : Doc} (h : Right d) {x : DEdge} (hx : x ∈ d.Edges) : x.Bends.length ≤ 50 := by
 obtain ⟨i, hi, rfl⟩ := List.getElem_of_mem hx
 have := h.edge i hi
 unfold edgeErr at this
 have h4 := firstErr_zero.1 this (if 50 < d.Edges[i].Bends.length then 4 else 0) (by simp)
 by_cases c : 50 < d.Edges[i].Bends.length
 ·
  rw [if_pos c] at h4; cases h4
 ·
  omega
theorem set_selfE {l : List DEdge} {i : Nat} (hi : i < l.length) {x : DEdge} (hx : x = l[i]) : l.set i x = l := by
 subst hx; exact List.set_getElem_self hi
theorem cloned_eq {d : Doc} (h : Right d) : page_cloned d = some d := by
 unfold page_cloned
 have hn := h.nl
 have he := h.el
 rw [bnd_eq, Clone_Node_eq (by omega), Clone_Edge_eq (by omega), Option.bind_some, Option.bind_some]
 obtain ⟨s, h1, h2⟩ := rfor_inv (n := (d.Edges.length : Int)) (step := page_cloned_L1) (s0 := d.Edges) (fun _ s => s = d.Edges) (by omega) rfl (fun i s hi hs => by
  subst hs
  have hi' : i < d.Edges.length := by omega
  refine ⟨d.Edges, ?_, rfl⟩
  unfold page_cloned_L1
  rw [need_of ⟨by omega, by omega⟩, gx_nat hi', Clone_Point_eq (by have := h.bends (List.getElem_mem hi'); omega), Option.bind_some, need_of ⟨by omega, by omega⟩]
  rw [show ((i : Int).toNat) = i from rfl, set_selfE hi' rfl])
 rw [h1, Option.bind_some, h2]
end Go.DB
