/-
  Right diagrams, in plain words: what is looked at.
-/
import Derived.Test.YtclcheggnlhamaaGreatDoorLooPuLook2
import Derived.Test.YtclcheggnlhamaaGreatDoorLooPuPort
set_option linter.unusedSimpArgs false
set_option linter.unusedVariables false
namespace Go.DB
open Go Go.RowKit

theorem look_bad {d : Doc} {e : Int} (hc : page_Check d = some e) (he : e ≠ 0) : page_look d = some (none, e) := by
  unfold page_look
  rw [hc, Option.bind_some, decide_eq_false he]; rfl
theorem look_ok {d : Doc} (hc : page_Check d = some 0) (h : Right d) : page_look d = some (some (viewD d), 0) := by
  unfold page_look
  rw [hc, Option.bind_some, h.viewOf]; rfl
theorem find_bad {d : Doc} {e : Int} (hc : page_Check d = some e) (he : e ≠ 0) (id : Str) : page_find d id = some (none, 0, e) := by
  unfold page_find
  rw [look_bad hc he, Option.bind_some, decide_eq_false he]; rfl
theorem find_none {d : Doc} (hc : page_Check d = some 0) (h : Right d) {id : Str} (hi : nodeAt d.Nodes id < 0) : page_find d id = some (none, 0, 10) := by
  have hvn : (viewD d).number = numM d.Nodes := rfl
  unfold page_find
  rw [look_ok hc h, Option.bind_some]
  simp only [decide_true, Bool.not_true, cond_false, Option.bind_some]
  rw [hvn, numM_has, decide_eq_false (by omega)]; rfl
theorem find_ok {d : Doc} (hc : page_Check d = some 0) (h : Right d) {i : Nat} (hi : i < d.Nodes.length) : page_find d d.Nodes[i].Id = some (some (viewD d), (i : Int), 0) := by
  have hvn : (viewD d).number = numM d.Nodes := rfl
  have ha := nodeAt_of h.hd hi
  unfold page_find
  rw [look_ok hc h, Option.bind_some]
  simp only [decide_true, Bool.not_true, cond_false, Option.bind_some]
  rw [hvn, numM_has, numM_getD (by omega), ha, decide_eq_true (by omega)]; rfl
theorem nodeAt_nat {l : List DNode} {id : Str} (h : ¬ nodeAt l id < 0) : ∃ i : Nat, ∃ hi : i < l.length, nodeAt l id = i ∧ l[i].Id = id := by
  obtain ⟨⟨h1, h2⟩, h3⟩ := nodeAt_in h
  refine ⟨(nodeAt l id).toNat, by omega, by omega, ?_⟩
  rw [show nodeAt l id = (((nodeAt l id).toNat : Nat) : Int) by omega, gx_nat (by omega)] at h3
  exact h3
theorem filter_flat {α β : Type} (q : α → Bool) (f : α → β) : ∀ xs : List α, xs.flatMap (fun i => if q i = true then [f i] else []) = (xs.filter q).map f
  | [] => rfl
  | x :: xs => by
    rw [List.flatMap_cons, filter_flat q f xs, List.filter_cons]
    by_cases h : q x = true <;> simp [h]
theorem range_gx {α : Type} [Inhabited α] (l : List α) : (List.range l.length).map (fun (i : Nat) => gx l (i : Int)) = l := by
  apply List.ext_getElem
  · simp
  · intro i h1 h2
    simp [gx_nat h2]
theorem Equal_string_eq (s t : List Str) (hl : (s.length : Int) ≤ 9223372036854775807) : slices_Equal_string s t = some (decide (s = t)) := by
  unfold slices_Equal_string
  by_cases hlen : s.length = t.length
  · rw [decide_eq_true (by omega), Bool.not_true, cond_false, rforE_same hlen hl (fun i h => by
      unfold slices_Equal_string_L1
      rw [need_of ⟨by omega, by omega⟩, need_of ⟨by omega, by omega⟩, gx_nat h, gx_nat (by omega)]
      by_cases he : s[i] = t[i]'(hlen ▸ h)
      · rw [decide_eq_true he, if_pos he]; rfl
      · rw [decide_eq_false he, if_neg he]; rfl)]
    by_cases he : s = t
    · rw [if_pos he, decide_eq_true he]; rfl
    · rw [if_neg he, decide_eq_false he]; rfl
  · rw [decide_eq_false (by omega), decide_eq_false (fun e => hlen (by rw [e]))]; rfl
theorem listsS_bad {e : Int} (he : e ≠ 0) (r : Option (List Str)) : law_lists_string [] e e r = some true := by
  unfold law_lists_string
  rw [decide_eq_false he]; simp
theorem listsS_ok {l : List Str} (hl : l.length ≤ 100000) : law_lists_string l 0 0 (some l) = some true := by
  unfold law_lists_string
  simp only [decide_true, Bool.not_true, cond_false, gd_true, Option.bind_some]
  rw [Equal_string_eq l l (by omega)]; simp
theorem listsP_bad {e : Int} (he : e ≠ 0) (r : Option (List Point)) : law_lists_Point [] e e r = some true := by
  unfold law_lists_Point
  rw [decide_eq_false he]; simp
theorem listsP_ok {l : List Point} (hl : l.length ≤ 100000) : law_lists_Point l 0 0 (some l) = some true := by
  unfold law_lists_Point
  simp only [decide_true, Bool.not_true, cond_false, gd_true, Option.bind_some]
  rw [Equal_Point_eq l l (by omega)]; simp
theorem isB_bad {e : Int} (he : e ≠ 0) (r : Option Box) : law_is_Box zeroB e e r = some true := by
  unfold law_is_Box
  rw [decide_eq_false he]
  show some (decide (zeroB = zeroB) && decide (e = e)) = _
  simp
theorem isB_ok {b : Box} : law_is_Box b 0 0 (some b) = some true := by
  unfold law_is_Box
  simp [gd]
theorem isS_bad {e : Int} (he : e ≠ 0) (r : Option Str) : law_is_string Str.nil e e r = some true := by
  unfold law_is_string
  rw [decide_eq_false he]; simp
theorem isS_ok {b : Str} : law_is_string b 0 0 (some b) = some true := by
  unfold law_is_string
  simp [gd]
theorem rforE_none {α σ O : Type} {step : Int → σ → Option (Res σ O)} {fin : σ → O} {s : σ} : rforE (([] : List α).length : Int) step fin s = some (fin s) := by
  rw [rforE_eq (by simp)]; rfl
theorem pages_eq : law_pages = some true := by
  unfold law_pages
  have e1 : page_Check (⟨([] : (List DNode)), ([] : (List DEdge))⟩ : Doc) = some 0 := by
    unfold page_Check
    dsimp only
    rw [bnd_eq, rforE_none, bindR_nx, viewOf_eq (by simp) (by simp), Option.bind_some, Option.bind_some]
    have : page_view_checkGroups (viewD ⟨[], []⟩) = some 0 := by
      unfold page_view_checkGroups
      have hv : (viewD ⟨[], []⟩).d.Nodes = [] := rfl
      rw [hv, rforE_none, bindR_nx, rforE_none, bindR_nx, rforE_none, bindR_nx, rforE_none, bindR_nx]
    rw [this, Option.bind_some, rforE_none, bindR_nx, rforE_none, bindR_nx]
    rfl
  have e2 : page_Check (⟨[(⟨Str.nil, (0 : Int), (⟨(0 : Int), (0 : Int), (0 : Int), (0 : Int)⟩ : Box), Str.nil, Str.nil, Str.nil, false⟩ : DNode)], ([] : (List DEdge))⟩ : Doc) = some 5 := by
    unfold page_Check
    simp only [List.length_nil, List.length_cons, bnd_eq]
    rw [rforE_eq (by simp)]
    have : ((0 + 1 : Nat) : Int).toNat = 1 := rfl
    rw [this]
    simp only [rgoE]
    have : page_Check_L1 (⟨[(⟨Str.nil, (0 : Int), (⟨(0 : Int), (0 : Int), (0 : Int), (0 : Int)⟩ : Box), Str.nil, Str.nil, Str.nil, false⟩ : DNode)], ([] : (List DEdge))⟩ : Doc) 0 GMap.nil = some (Res.ab (Res.ab 5)) := by
      unfold page_Check_L1
      rw [need_of ⟨by omega, by simp⟩, bnd_eq, checkNode_eq]
      simp [gx, nodeErr, nameB, Str.nil]
    rw [this]
    rfl
  rw [e1, Option.bind_some]
  simp only [decide_true, gd_true]
  rw [e2]
  rfl
theorem view_box {d : Doc} {i : Int} {b : Box} {e : Int} (h : page_view_boxOf (viewD d) i = some (b, e)) : page_view_box (viewD d) i = some b := by
  unfold page_view_box
  rw [bnd_eq, h]; rfl
theorem BoxOf_part {d : Doc} {e : Int} (hc : page_Check d = some e) (hr : e = 0 → Right d) (id : Str) : ∃ r, page_BoxOf d id = some r ∧ law_is_Box r.1 r.2 (if e = 0 then (if nodeAt d.Nodes id < 0 then 10 else 0) else e) (law_LooksMatch_1 d id) = some true := by
  unfold page_BoxOf
  simp only [bnd_eq]
  by_cases he : e = 0
  · subst he
    have h := hr rfl
    rw [if_pos rfl]
    by_cases hi : nodeAt d.Nodes id < 0
    · rw [if_pos hi, find_none hc h hi, Option.bind_some]
      exact ⟨_, rfl, isB_bad (e := 10) (by decide) _⟩
    · obtain ⟨i, hi', ha, rfl⟩ := nodeAt_nat hi
      obtain ⟨b, b1, b2, b3⟩ := h.box i hi'
      rw [if_neg hi, find_ok hc h hi', Option.bind_some]
      simp only [decide_true, Bool.not_true, cond_false, Option.bind_some]
      rw [view_box b1, Option.bind_some]
      refine ⟨_, rfl, ?_⟩
      unfold law_LooksMatch_1
      simp only [bnd_eq]
      rw [b2]
      exact isB_ok
  · rw [if_neg he, find_bad hc he, Option.bind_some, decide_eq_false he]
    exact ⟨_, rfl, isB_bad he _⟩
theorem Below_part {d : Doc} {e : Int} (hc : page_Check d = some e) (hr : e = 0 → Right d) (id : Str) : ∃ r, page_Below d id = some r ∧ law_lists_string r.1 r.2 (if e = 0 then (if nodeAt d.Nodes id < 0 then 10 else 0) else e) (law_LooksMatch_2 d id) = some true := by
  unfold page_Below
  simp only [bnd_eq]
  by_cases he : e = 0
  · subst he
    have h := hr rfl
    have hnl := h.nl
    rw [if_pos rfl]
    by_cases hi : nodeAt d.Nodes id < 0
    · rw [if_pos hi, find_none hc h hi, Option.bind_some]
      exact ⟨_, rfl, listsS_bad (e := 10) (by decide) _⟩
    · obtain ⟨i, hi', ha, rfl⟩ := nodeAt_nat hi
      rw [if_neg hi, find_ok hc h hi', Option.bind_some]
      simp only [decide_true, Bool.not_true, cond_false, Option.bind_some]
      have hrep : List.replicate (d.Nodes.length : Int).toNat false = MK d.Nodes.length (fun _ => false) := by
        unfold MK
        rw [show (d.Nodes.length : Int).toNat = d.Nodes.length by omega, List.map_const', List.length_range]
      rw [need_of ⟨by omega, by omega, by omega⟩, hrep, below_eq h hi', Option.bind_some, need_of ⟨by omega, by rw [MK_len]; omega⟩, show (i : Int).toNat = i by omega, MK_set, marked_eq h, Option.bind_some]
      refine ⟨_, rfl, ?_⟩
      have hl2 : law_LooksMatch_2 d d.Nodes[i].Id = some (d.Nodes.flatMap (fun n => if belB d.Nodes n d.Nodes[i].Id = true then [n.Id] else [])) := by
        unfold law_LooksMatch_2
        rw [rfor_gather (fun n => if belB d.Nodes n d.Nodes[i].Id = true then [n.Id] else []) [] (fun a _ => by split <;> simp) (by simp; omega) (fun k s hk hs => by
          unfold law_LooksMatch_2_L1
          obtain ⟨j, rfl⟩ : ∃ j : Nat, k = j := ⟨k.toNat, by have := hk.1; omega⟩
          have hj : j < d.Nodes.length := by have := hk.2; omega
          rw [need_of hk, bnd_eq, gx_nat hj, IsBelow_eq h hj, Option.bind_some]
          cases belB d.Nodes d.Nodes[j] d.Nodes[i].Id with
          | true => rw [cond_true, need_of (by show _ ≤ _; simp; omega)]; rfl
          | false => simp)]
        simp
      have hsame : ((List.range d.Nodes.length).filter (fun j => if j = i then false else (false || subB d.Nodes i j))).map (fun (j : Nat) => (gx d.Nodes (j : Int)).Id) = d.Nodes.flatMap (fun n => if belB d.Nodes n d.Nodes[i].Id = true then [n.Id] else []) := by
        rw [← filter_flat]
        have hg : ∀ g : DNode → List Str, d.Nodes.flatMap g = (List.range d.Nodes.length).flatMap (fun (j : Nat) => g (gx d.Nodes (j : Int))) := fun g => by
          have e := List.flatMap_map (f := fun (j : Nat) => gx d.Nodes (j : Int)) (g := g) (l := List.range d.Nodes.length)
          rw [range_gx] at e
          exact e
        rw [hg]
        refine congrArg List.flatten (List.map_congr_left fun j hj => ?_)
        have hj' : j < d.Nodes.length := by simpa using hj
        have : (if j = i then false else (false || subB d.Nodes i j)) = belB d.Nodes (gx d.Nodes (j : Int)) d.Nodes[i].Id := by
          by_cases e : j = i
          · subst e
            rw [if_pos rfl, gx_nat hj', not_self h hj']
          · rw [if_neg e, Bool.false_or]
            unfold subB
            rw [decide_eq_false e, Bool.false_or, gx_nat hi']
        rw [this]
      rw [hl2, hsame]
      refine listsS_ok ?_
      rw [filter_flat, List.length_map]
      exact Nat.le_trans (List.length_filter_le _ _) (by omega)
  · rw [if_neg he, find_bad hc he, Option.bind_some, decide_eq_false he]
    exact ⟨_, rfl, listsS_bad he _⟩
theorem Order_part {d : Doc} {e : Int} (hc : page_Check d = some e) (hr : e = 0 → Right d) : ∃ r, page_Order d = some r ∧ law_lists_string r.1 r.2 e (law_LooksMatch_3 d) = some true := by
  unfold page_Order
  by_cases he : e = 0
  · subst he
    have h := hr rfl
    have hlen := ordT_len h
    have hel := h.el
    rw [look_ok hc h, Option.bind_some]
    simp only [decide_true, Bool.not_true, cond_false, Option.bind_some]
    rw [order_eq h, Option.bind_some, rfor_gather (l := ordT d.Nodes) (fun k => [(gx d.Nodes k).Id]) [] (fun a _ => by simp) (by simp; omega) (fun i s hi hs => by
      unfold page_Order_L1
      obtain ⟨j, hj, hj2⟩ := ordT_mem h (gx_mem hi)
      rw [need_of hi, need_of (by rw [hj]; exact ⟨by omega, by omega⟩), need_of (by show _ ≤ _; simp; omega)]), Option.bind_some,
      rfor_gather (l := d.Edges) (fun x => [x.Id]) _ (fun a _ => by simp) (by rw [← List.map_eq_flatMap]; simp; omega) (fun i s hi hs => by
      unfold page_Order_L2
      rw [need_of hi, bnd_eq, need_of (by show _ ≤ _; simp; omega)]), Option.bind_some]
    refine ⟨_, rfl, ?_⟩
    unfold law_LooksMatch_3
    rw [OrderOf_eq h, Option.bind_some, ← List.map_eq_flatMap, ← List.map_eq_flatMap, List.nil_append]
    exact listsS_ok (by simp; omega)
  · rw [look_bad hc he, Option.bind_some, decide_eq_false he]
    exact ⟨_, rfl, listsS_bad he _⟩
end Go.DB
