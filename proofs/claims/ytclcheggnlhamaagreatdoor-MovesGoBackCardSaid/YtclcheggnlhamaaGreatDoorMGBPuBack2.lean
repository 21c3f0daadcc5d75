/-
  Groups that are made, and taken away again.
-/
import Derived.Test.YtclcheggnlhamaaGreatDoorMGBPuMove1
import Derived.Test.YtclcheggnlhamaaGreatDoorMGBPuReP
set_option linter.unusedSimpArgs false
set_option linter.unusedVariables false
namespace Go.DB
open Go Go.RowKit

def groupN (id p : Str) : DNode := ⟨id, 6, ⟨0, 0, 0, 0⟩, Str.nil, Str.nil, p, false⟩
/-- The nodes R have a new parent. -/
def inGrp (d : Doc) (R : List Int) (id : Str) : List DNode := reP d.Nodes (fun j => decide ((j : Int) ∈ R)) id
/-- The diagram with a group of the nodes R, behind the one with the number k. -/
def grpD (d : Doc) (R : List Int) (p id : Str) (k : Nat) : Doc := ⟨(inGrp d R id).take (k + 1) ++ [groupN id p] ++ (inGrp d R id).drop (k + 1), d.Edges⟩
def parR (d : Doc) (R : List Int) : Str := (gx d.Nodes (gx R 0)).Parent
def lastR (R : List Int) : Nat := (gx R ((R.length : Int) - 1)).toNat
def hasId (d : Doc) (id : Str) : Bool := d.Nodes.any (fun n => decide (n.Id = id)) || d.Edges.any (fun x => decide (x.Id = id))
theorem lastR_in {d : Doc} {ids : List Str} (hR : rootL d.Nodes ids ≠ []) : lastR (rootL d.Nodes ids) < d.Nodes.length ∧ gx (rootL d.Nodes ids) (((rootL d.Nodes ids).length : Int) - 1) = (lastR (rootL d.Nodes ids) : Int) := by
  have hp := List.length_pos_iff.2 hR
  obtain ⟨j, hj, e, _⟩ := rootL_mem (gx_mem (l := rootL d.Nodes ids) (k := ((rootL d.Nodes ids).length : Int) - 1) ⟨by omega, by omega⟩)
  unfold lastR
  rw [e]
  exact ⟨by omega, rfl⟩
theorem inGrp_loop {d : Doc} (h : Right d) {ids : List Str} (id : Str) (o : Option Page_view) (c : Int) : rfor ((rootL d.Nodes ids).length : Int) (page_Group_L2 (o, rootL d.Nodes ids, c) id) d.Nodes = some (inGrp d (rootL d.Nodes ids) id) := by
  have hRl := rootL_len (l := d.Nodes) (ids := ids) h.nl
  have hin : ∀ k ∈ rootL d.Nodes ids, ∃ j : Nat, j < d.Nodes.length ∧ k = j := fun k hk => by obtain ⟨j, hj, e, _⟩ := rootL_mem hk; exact ⟨j, hj, e⟩
  generalize rootL d.Nodes ids = R at *
  obtain ⟨s, p1, p2⟩ := rfor_inv (n := (R.length : Int)) (step := page_Group_L2 (o, R, c) id) (s0 := d.Nodes) (fun t s => s = reP d.Nodes (fun j => decide ((j : Int) ∈ R.take t)) id) (by omega)
    (by rw [reP_none]; intro i hi; simp) (fun i s hi hs => by
      subst hs
      have hi' : i < R.length := by omega
      obtain ⟨m, hml, hm⟩ := hin R[i] (List.getElem_mem hi')
      unfold page_Group_L2
      simp only
      rw [need_of ⟨by omega, by omega⟩, gx_nat hi', hm, need_of ⟨by omega, by rw [reP_len]; omega⟩]
      simp only [Int.toNat_natCast]
      rw [reP_set hml]
      refine ⟨_, rfl, reP_congr fun j hj => ?_⟩
      rw [List.take_succ_eq_append_getElem hi', hm, Bool.eq_iff_iff]
      simp only [Bool.or_eq_true, decide_eq_true_eq, List.mem_append, List.mem_singleton]
      constructor <;> rintro (a | a) <;> first | exact .inl a | exact .inr (by omega))
  rw [p1, p2]
  congr 1
  unfold inGrp
  refine reP_congr fun j hj => ?_
  rw [show (R.length : Int).toNat = R.length from rfl, List.take_length]
theorem Group_eq {d : Doc} (hck : page_Check d = some 0) (h : Right d) {ids : List Str} (hi : (ids.length : Int) ≤ 9223372036854775807) (hs : selErr d.Nodes ids = 0) (id : Str) :
    page_Group d ids id = if rootL d.Nodes ids = [] then some (⟨[], []⟩, 9) else if (rootL d.Nodes ids).any (fun k => !decide ((gx d.Nodes k).Parent = parR d (rootL d.Nodes ids))) = true then some (⟨[], []⟩, 11) else
      if nameB id = false then some (⟨[], []⟩, 5) else if hasId d id = true then some (⟨[], []⟩, 6) else
      Option.bind (page_Check (grpD d (rootL d.Nodes ids) (parR d (rootL d.Nodes ids)) id (lastR (rootL d.Nodes ids)))) fun e =>
        some (if e = 0 then (grpD d (rootL d.Nodes ids) (parR d (rootL d.Nodes ids)) id (lastR (rootL d.Nodes ids)), 0) else (⟨[], []⟩, e)) := by
  have hnl := h.nl
  have hel := h.el
  have hRl := rootL_len (l := d.Nodes) (ids := ids) h.nl
  have hin : ∀ k ∈ rootL d.Nodes ids, ∃ j : Nat, j < d.Nodes.length ∧ k = j := fun k hk => by obtain ⟨j, hj, e, _⟩ := rootL_mem hk; exact ⟨j, hj, e⟩
  unfold page_Group
  rw [bnd_eq, selected_eq hck h hi, if_pos hs, Option.bind_some]
  simp only [decide_true, Bool.not_true, cond_false]
  by_cases hR : rootL d.Nodes ids = []
  · rw [if_pos hR, hR]; rfl
  rw [if_neg hR]
  have hp := List.length_pos_iff.2 hR
  have hlast := lastR_in hR
  have hlp := inGrp_loop h (ids := ids) id (some (viewD d)) 0
  obtain ⟨j0, hj0, e0⟩ := hin _ (gx_mem (l := rootL d.Nodes ids) (k := 0) ⟨by omega, by omega⟩)
  rw [decide_eq_false (by omega), cond_false, need_of ⟨by omega, by omega⟩, need_of (by rw [e0]; exact ⟨by omega, by omega⟩), bnd_eq]
  have hpar : (gx d.Nodes (gx (rootL d.Nodes ids) 0)).Parent = parR d (rootL d.Nodes ids) := rfl
  rw [hpar, rforE_any (l := rootL d.Nodes ids) (fun k => !decide ((gx d.Nodes k).Parent = parR d (rootL d.Nodes ids))) (Res.ab ((⟨[], []⟩ : Doc), (11 : Int))) (by omega) (fun i hi' => by
    obtain ⟨j, hj, e⟩ := hin _ (gx_mem hi')
    unfold page_Group_L1
    simp only
    rw [need_of hi', need_of (by rw [e]; exact ⟨by omega, by omega⟩)]
    cases decide ((gx d.Nodes (gx (rootL d.Nodes ids) i)).Parent = parR d (rootL d.Nodes ids)) <;> rfl)]
  cases hany : (rootL d.Nodes ids).any (fun k => !decide ((gx d.Nodes k).Parent = parR d (rootL d.Nodes ids))) with
  | true => rfl
  | false =>
    simp only [Bool.false_eq_true, if_false]
    show Option.bind (page_isName id) _ = _
    rw [isName_eq, Option.bind_some]
    cases hnm : nameB id with
    | false => rfl
    | true =>
      simp only [Bool.not_true, cond_false, Bool.true_eq_false, if_false]
      rw [ContainsFunc_Node_eq d.Nodes (fun x0 => page_Group_1 x0 id) (fun n => decide (n.Id = id)) (by omega) (fun x _ => rfl), Option.bind_some]
      have h4 : Option.bind (gd (!d.Nodes.any (fun n => decide (n.Id = id))) (slices_ContainsFunc_Edge d.Edges (fun x0 => page_Group_2 x0 id))) (fun r4 => some (d.Nodes.any (fun n => decide (n.Id = id)) || r4)) = some (hasId d id) := by
        rw [ContainsFunc_Edge_eq d.Edges (fun x0 => page_Group_2 x0 id) (fun n => decide (n.Id = id)) (by omega) (fun x _ => rfl)]
        unfold hasId
        cases d.Nodes.any (fun n => decide (n.Id = id)) <;> rfl
      cases hg : gd (!d.Nodes.any (fun n => decide (n.Id = id))) (slices_ContainsFunc_Edge d.Edges (fun x0 => page_Group_2 x0 id)) with
      | none => rw [hg] at h4; cases h4
      | some r4 =>
        rw [hg, Option.bind_some] at h4
        rw [Option.bind_some, Option.some.inj h4]
        cases hasId d id with
        | true => rfl
        | false =>
          simp only [cond_false, Bool.false_eq_true, if_false]
          rw [cloned_eq h, Option.bind_some, hlp, Option.bind_some, Wk (n := ((rootL d.Nodes ids).length : Int) - 1) (by omega) (by omega), need_of ⟨by omega, by omega⟩, hlast.2, Wk (by omega) (by omega)]
          have hl : (inGrp d (rootL d.Nodes ids) id).length = d.Nodes.length := reP_len
          unfold slices_Insert_Node
          rw [need_of ⟨by omega, by omega, by simp; omega⟩, Option.bind_some]
          have ht : ((lastR (rootL d.Nodes ids) : Int) + 1).toNat = lastR (rootL d.Nodes ids) + 1 := by omega
          rw [ht]
          show Option.bind (page_Check (grpD d (rootL d.Nodes ids) (parR d (rootL d.Nodes ids)) id (lastR (rootL d.Nodes ids)))) _ = _
          congr 1
          funext e
          by_cases he : e = 0
          · subst he; rfl
          · rw [decide_eq_false he, if_neg he]; rfl
theorem reP_map {l : List DNode} {s p : Str} : reP l (fun j => decide ((gx l (j : Int)).Parent = s)) p = l.map (fun n => if n.Parent = s then { n with Parent := p } else n) := by
  rw [← range_mapS]
  unfold reP
  refine List.map_congr_left fun i _ => ?_
  by_cases c : (gx l (i : Int)).Parent = s
  · rw [if_pos (decide_eq_true c), if_pos c]
  · rw [if_neg (by simpa using c), if_neg c]
theorem fits_grp {d : Doc} (hf : fits d) (h : Right d) {id : Str} (hid : fits id) {R : List Int} {p : Str} (hp : fits p) {k : Nat} : fits (grpD d R p id k) := by
  obtain ⟨⟨f1, f2⟩, f3, f4⟩ := hf
  have hin : ∀ n ∈ inGrp d R id, fits n := fun n hn => by
    obtain ⟨i, hi, rfl⟩ := List.mem_map.1 hn
    have hi' : i < d.Nodes.length := by simpa using hi
    have := f2 _ (gx_mem (l := d.Nodes) (k := (i : Int)) ⟨by omega, by omega⟩)
    split
    · exact ⟨this.1, this.2.1, this.2.2.1, this.2.2.2.1, this.2.2.2.2.1, hid, this.2.2.2.2.2.2⟩
    · exact this
  have hl : (inGrp d R id).length = d.Nodes.length := reP_len
  have hnl := h.nl
  refine ⟨⟨?_, fun n hn => ?_⟩, f3, f4⟩
  · show ((inGrp d R id).take (k + 1) ++ [groupN id p] ++ (inGrp d R id).drop (k + 1)).length ≤ _
    simp only [List.length_append, List.length_take, List.length_drop, List.length_singleton]
    omega
  · have hn : n ∈ (inGrp d R id).take (k + 1) ++ [groupN id p] ++ (inGrp d R id).drop (k + 1) := hn
    rw [List.mem_append, List.mem_append, List.mem_singleton] at hn
    rcases hn with (hn | rfl) | hn
    · exact hin n (List.mem_of_mem_take hn)
    · have z : fits (0 : Int) := ⟨by decide, by decide⟩
      have s6 : fits (6 : Int) := ⟨by decide, by decide⟩
      have sn : fits Str.nil := by show (([] : List UInt8).length) ≤ _; decide
      exact ⟨hid, s6, ⟨z, z, z, z⟩, sn, sn, hp, trivial⟩
    · exact hin n (List.mem_of_mem_drop hn)
/-- A group, and its end. -/
theorem Group_back {d : Doc} (hf : fits d) (h : Right d) {ids : List Str} {id : Str} (hid : fits id) (hR : rootL d.Nodes ids ≠ []) (hall : ∀ k ∈ rootL d.Nodes ids, (gx d.Nodes k).Parent = parR d (rootL d.Nodes ids)) (hnm : nameB id = true) (hno : hasId d id = false)
    (hck : page_Check (grpD d (rootL d.Nodes ids) (parR d (rootL d.Nodes ids)) id (lastR (rootL d.Nodes ids))) = some 0) :
    page_Ungroup (grpD d (rootL d.Nodes ids) (parR d (rootL d.Nodes ids)) id (lastR (rootL d.Nodes ids))) id = some (d, 0) := by
  have hlast := lastR_in hR
  have hp := List.length_pos_iff.2 hR
  have hin : ∀ k ∈ rootL d.Nodes ids, ∃ j : Nat, j < d.Nodes.length ∧ k = j := fun k hk => by obtain ⟨j, hj, e, _⟩ := rootL_mem hk; exact ⟨j, hj, e⟩
  have hfp : fits (parR d (rootL d.Nodes ids)) := by
    obtain ⟨j0, hj0, e0⟩ := hin _ (gx_mem (l := rootL d.Nodes ids) (k := 0) ⟨by omega, by omega⟩)
    unfold parR
    rw [e0]
    exact (hf.1.2 _ (gx_mem (l := d.Nodes) (k := (j0 : Int)) ⟨by omega, by omega⟩)).2.2.2.2.2.1
  have hg : Right (grpD d (rootL d.Nodes ids) (parR d (rootL d.Nodes ids)) id (lastR (rootL d.Nodes ids))) := by
    obtain ⟨e, c1, c2, c3⟩ := Check_both (fits_grp hf h hid hfp (R := rootL d.Nodes ids) (k := lastR (rootL d.Nodes ids)))
    rw [hck] at c1
    exact c3 (Option.some.inj c1).symm
  have hno' : ∀ n ∈ d.Nodes, n.Id ≠ id := fun n hn e => by
    unfold hasId at hno
    rw [Bool.or_eq_false_iff, List.any_eq_false] at hno
    exact hno.1 n hn (by simpa using e)
  have hpar : ∀ n ∈ d.Nodes, n.Parent ≠ id := fun n hn e => by
    by_cases hz : n.Parent = Str.nil
    · rw [hz] at e; exact nameB_ne hnm e.symm
    · obtain ⟨g, hg, eg, _⟩ := h.tree n hn hz
      exact hno' g hg (by rw [eg, e])
  generalize hRR : rootL d.Nodes ids = R at *
  generalize hpp : parR d R = p at *
  generalize lastR R = k at *
  have hl : (inGrp d R id).length = d.Nodes.length := reP_len
  have hNl : (grpD d R p id k).Nodes = (inGrp d R id).take (k + 1) ++ [groupN id p] ++ (inGrp d R id).drop (k + 1) := rfl
  have htl : ((inGrp d R id).take (k + 1)).length = k + 1 := by rw [List.length_take]; omega
  have hk1 : k + 1 < (grpD d R p id k).Nodes.length := by
    rw [hNl]; simp only [List.length_append, List.length_take, List.length_drop, List.length_singleton]; omega
  have hat : (grpD d R p id k).Nodes[k + 1] = groupN id p := by
    simp only [hNl]
    rw [List.getElem_append_left (by simp only [List.length_append, htl, List.length_singleton]; omega), List.getElem_append_right (by omega)]
    simp [htl]
  have e1 := Ungroup_prog hg hk1 (nodeAt_of hg.hd hk1) hck (by rw [hat]; rfl)
  have eid : (grpD d R p id k).Nodes[k + 1].Id = id := by rw [hat]; rfl
  have epr : (grpD d R p id k).Nodes[k + 1].Parent = p := by rw [hat]; rfl
  rw [eid, epr, reP_map] at e1
  rw [e1]
  have hd : ((grpD d R p id k).Nodes.map (fun n => if n.Parent = id then { n with Parent := p } else n)).take (k + 1) ++ ((grpD d R p id k).Nodes.map (fun n => if n.Parent = id then { n with Parent := p } else n)).drop (k + 1 + 1) = d.Nodes := by
    rw [hNl, List.map_append, List.map_append, List.append_assoc, List.take_append_of_le_length (by rw [List.length_map, htl]; exact Nat.le_refl _), List.take_of_length_le (by rw [List.length_map, htl]; exact Nat.le_refl _)]
    rw [List.drop_append, List.drop_of_length_le (by rw [List.length_map, htl]; omega)]
    simp only [List.length_map, htl, List.nil_append, List.map_cons, List.map_nil]
    rw [show k + 1 + 1 - (k + 1) = 1 by omega]
    simp only [List.singleton_append, List.drop_succ_cons, List.drop_zero]
    rw [← List.map_append, List.take_append_drop]
    unfold inGrp reP
    rw [List.map_map]
    conv => rhs; rw [← range_gxS d.Nodes]
    refine List.map_congr_left fun i hi => ?_
    have hi' : i < d.Nodes.length := by simpa using hi
    have hm := gx_mem (l := d.Nodes) (k := (i : Int)) ⟨by omega, by omega⟩
    simp only [Function.comp]
    by_cases c : (i : Int) ∈ R
    · rw [if_pos (decide_eq_true c)]
      simp only [if_true]
      have := hall _ c
      rw [← this]
    · simp only [decide_eq_false c, Bool.false_eq_true, if_false]
      rw [if_neg (hpar _ hm)]
  rw [hd]
  rfl
end Go.DB
