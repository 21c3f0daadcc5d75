/-
  Groups that are made, and taken away again.
-/
import Derived.Test.YtclcheggnlhamaaGreatDoorChgPuMove1
import Derived.Test.YtclcheggnlhamaaGreatDoorChgPuReP
set_option linter.unusedSimpArgs false
set_option linter.unusedVariables false
namespace Go.DB
open Go Go.RowKit

def groupN (id p : Str) : DNode := ⟨id, 6, ⟨0, 0, 0, 0⟩, Str.nil, Str.nil, p, false⟩
/-- The nodes R have a new parent. -/
def inGrp (d : Doc) (R : List Int) (id : Str) : List DNode := reP d.Nodes (fun j => decide ((j : Int) ∈ R)) id
/-- The diagram with a group of the nodes R, behind the one with the number k. -/
def grpD (d : Doc) (R : List Int) (p id : Str) (k : Nat) : Doc := ⟨(inGrp d R id).take (k + 1) ++ [groupN id p] ++ (inGrp d R id).drop (k + 1), d.Edges⟩
def parR (d : Doc) (R : List Int) : Str := (gx d.Nodes (gx R 0)).Parent
def lastR (R : List Int) : Nat := (gx R ((R.length : Int) - 1)).toNat
def hasId (d : Doc) (id : Str) : Bool := d.Nodes.any (fun n => decide (n.Id = id)) || d.Edges.any (fun x => decide (x.Id = id))
theorem lastR_in {d : Doc} {ids : List Str} (hR : rootL d.Nodes ids ≠ []) : lastR (rootL d.Nodes ids) < d.Nodes.length ∧ gx (rootL d.Nodes ids) (((rootL d.Nodes ids).length : Int) - 1) = (lastR (rootL d.Nodes ids) : Int) := by
  have hp := List.length_pos_iff.2 hR
  obtain ⟨j, hj, e, _⟩ := rootL_mem (gx_mem (l := rootL d.Nodes ids) (k := ((rootL d.Nodes ids).length : Int) - 1) ⟨by omega, by omega⟩)
  unfold lastR
  rw [e]
  exact ⟨by omega, rfl⟩
theorem inGrp_loop {d : Doc} (h : Right d) {ids : List Str} (id : Str) (o : Option Page_view) (c : Int) : rfor ((rootL d.Nodes ids).length : Int) (page_Group_L2 (o, rootL d.Nodes ids, c) id) d.Nodes = some (inGrp d (rootL d.Nodes ids) id) := by
  have hRl := rootL_len (l := d.Nodes) (ids := ids) h.nl
  have hin : ∀ k ∈ rootL d.Nodes ids, ∃ j : Nat, j < d.Nodes.length ∧ k = j := fun k hk => by obtain ⟨j, hj, e, _⟩ := rootL_mem hk; exact ⟨j, hj, e⟩
  generalize rootL d.Nodes ids = R at *
  obtain ⟨s, p1, p2⟩ := rfor_inv (n := (R.length : Int)) (step := page_Group_L2 (o, R, c) id) (s0 := d.Nodes) (fun t s => s = reP d.Nodes (fun j => decide ((j : Int) ∈ R.take t)) id) (by omega)
    (by rw [reP_none]; intro i hi; simp) (fun i s hi hs => by
      subst hs
      have hi' : i < R.length := by omega
      obtain ⟨m, hml, hm⟩ := hin R[i] (List.getElem_mem hi')
      unfold page_Group_L2
      simp only
      rw [need_of ⟨by omega, by omega⟩, gx_nat hi', hm, need_of ⟨by omega, by rw [reP_len]; omega⟩]
      simp only [Int.toNat_natCast]
      rw [reP_set hml]
      refine ⟨_, rfl, reP_congr fun j hj => ?_⟩
      rw [List.take_succ_eq_append_getElem hi', hm, Bool.eq_iff_iff]
      simp only [Bool.or_eq_true, decide_eq_true_eq, List.mem_append, List.mem_singleton]
      constructor <;> rintro (a | a) <;> first | exact .inl a | exact .inr (by omega))
  rw [p1, p2]
  congr 1
  unfold inGrp
  refine reP_congr fun j hj => ?_
  rw [show (R.length : Int).toNat = R.length from rfl, List.take_length]
theorem Group_eq {d : Doc} (hck : page_Check d = some 0) (h : Right d) {ids : List Str} (hi : (ids.length : Int) ≤ 9223372036854775807) (hs : selErr d.Nodes ids = 0) (id : Str) :
    page_Group d ids id = if rootL d.Nodes ids = [] then some (⟨[], []⟩, 9) else if (rootL d.Nodes ids).any (fun k => !decide ((gx d.Nodes k).Parent = parR d (rootL d.Nodes ids))) = true then some (⟨[], []⟩, 11) else
      if nameB id = false then some (⟨[], []⟩, 5) else if hasId d id = true then some (⟨[], []⟩, 6) else
      Option.bind (page_Check (grpD d (rootL d.Nodes ids) (parR d (rootL d.Nodes ids)) id (lastR (rootL d.Nodes ids)))) fun e =>
        some (if e = 0 then (grpD d (rootL d.Nodes ids) (parR d (rootL d.Nodes ids)) id (lastR (rootL d.Nodes ids)), 0) else (⟨[], []⟩, e)) := by
  have hnl := h.nl
  have hel := h.el
  have hRl := rootL_len (l := d.Nodes) (ids := ids) h.nl
  have hin : ∀ k ∈ rootL d.Nodes ids, ∃ j : Nat, j < d.Nodes.length ∧ k = j := fun k hk => by obtain ⟨j, hj, e, _⟩ := rootL_mem hk; exact ⟨j, hj, e⟩
  unfold page_Group
  rw [bnd_eq, selected_eq hck h hi, if_pos hs, Option.bind_some]
  simp only [decide_true, Bool.not_true, cond_false]
  by_cases hR : rootL d.Nodes ids = []
  · rw [if_pos hR, hR]; rfl
  rw [if_neg hR]
  have hp := List.length_pos_iff.2 hR
  have hlast := lastR_in hR
  have hlp := inGrp_loop h (ids := ids) id (some (viewD d)) 0
  obtain ⟨j0, hj0, e0⟩ := hin _ (gx_mem (l := rootL d.Nodes ids) (k := 0) ⟨by omega, by omega⟩)
  rw [decide_eq_false (by omega), cond_false, need_of ⟨by omega, by omega⟩, need_of (by rw [e0]; exact ⟨by omega, by omega⟩), bnd_eq]
  have hpar : (gx d.Nodes (gx (rootL d.Nodes ids) 0)).Parent = parR d (rootL d.Nodes ids) := rfl
  rw [hpar, rforE_any (l := rootL d.Nodes ids) (fun k => !decide ((gx d.Nodes k).Parent = parR d (rootL d.Nodes ids))) (Res.ab ((⟨[], []⟩ : Doc), (11 : Int))) (by omega) (fun i hi' => by
    obtain ⟨j, hj, e⟩ := hin _ (gx_mem hi')
    unfold page_Group_L1
    simp only
    rw [need_of hi', need_of (by rw [e]; exact ⟨by omega, by omega⟩)]
    cases decide ((gx d.Nodes (gx (rootL d.Nodes ids) i)).Parent = parR d (rootL d.Nodes ids)) <;> rfl)]
  cases hany : (rootL d.Nodes ids).any (fun k => !decide ((gx d.Nodes k).Parent = parR d (rootL d.Nodes ids))) with
  | true => rfl
  | false =>
    simp only [Bool.false_eq_true, if_false]
    show Option.bind (page_isName id) _ = _
    rw [isName_eq, Option.bind_some]
    cases hnm : nameB id with
    | false => rfl
    | true =>
      simp only [Bool.not_true, cond_false, Bool.true_eq_false, if_false]
      rw [ContainsFunc_Node_eq d.Nodes (fun x0 => page_Group_1 x0 id) (fun n => decide (n.Id = id)) (by omega) (fun x _ => rfl), Option.bind_some]
      have h4 : Option.bind (gd (!d.Nodes.any (fun n => decide (n.Id = id))) (slices_ContainsFunc_Edge d.Edges (fun x0 => page_Group_2 x0 id))) (fun r4 => some (d.Nodes.any (fun n => decide (n.Id = id)) || r4)) = some (hasId d id) := by
        rw [ContainsFunc_Edge_eq d.Edges (fun x0 => page_Group_2 x0 id) (fun n => decide (n.Id = id)) (by omega) (fun x _ => rfl)]
        unfold hasId
        cases d.Nodes.any (fun n => decide (n.Id = id)) <;> rfl
      cases hg : gd (!d.Nodes.any (fun n => decide (n.Id = id))) (slices_ContainsFunc_Edge d.Edges (fun x0 => page_Group_2 x0 id)) with
      | none => rw [hg] at h4; cases h4
      | some r4 =>
        rw [hg, Option.bind_some] at h4
        rw [Option.bind_some, Option.some.inj h4]
        cases hasId d id with
        | true => rfl
        | false =>
          simp only [cond_false, Bool.false_eq_true, if_false]
          rw [cloned_eq h, Option.bind_some, hlp, Option.bind_some, Wk (n := ((rootL d.Nodes ids).length : Int) - 1) (by omega) (by omega), need_of ⟨by omega, by omega⟩, hlast.2, Wk (by omega) (by omega)]
          have hl : (inGrp d (rootL d.Nodes ids) id).length = d.Nodes.length := reP_len
          unfold slices_Insert_Node
          rw [need_of ⟨by omega, by omega, by simp; omega⟩, Option.bind_some]
          have ht : ((lastR (rootL d.Nodes ids) : Int) + 1).toNat = lastR (rootL d.Nodes ids) + 1 := by omega
          rw [ht]
          show Option.bind (page_Check (grpD d (rootL d.Nodes ids) (parR d (rootL d.Nodes ids)) id (lastR (rootL d.Nodes ids)))) _ = _
          congr 1
          funext e
          by_cases he : e = 0
          · subst he; rfl
          · rw [decide_eq_false he, if_neg he]; rfl
theorem fits_grp {d : Doc} (hf : fits d) (h : Right d) {id : Str} (hid : fits id) {R : List Int} {p : Str} (hp : fits p) {k : Nat} : fits (grpD d R p id k) := by
  obtain ⟨⟨f1, f2⟩, f3, f4⟩ := hf
  have hin : ∀ n ∈ inGrp d R id, fits n := fun n hn => by
    obtain ⟨i, hi, rfl⟩ := List.mem_map.1 hn
    have hi' : i < d.Nodes.length := by simpa using hi
    have := f2 _ (gx_mem (l := d.Nodes) (k := (i : Int)) ⟨by omega, by omega⟩)
    split
    · exact ⟨this.1, this.2.1, this.2.2.1, this.2.2.2.1, this.2.2.2.2.1, hid, this.2.2.2.2.2.2⟩
    · exact this
  have hl : (inGrp d R id).length = d.Nodes.length := reP_len
  have hnl := h.nl
  refine ⟨⟨?_, fun n hn => ?_⟩, f3, f4⟩
  · show ((inGrp d R id).take (k + 1) ++ [groupN id p] ++ (inGrp d R id).drop (k + 1)).length ≤ _
    simp only [List.length_append, List.length_take, List.length_drop, List.length_singleton]
    omega
  · have hn : n ∈ (inGrp d R id).take (k + 1) ++ [groupN id p] ++ (inGrp d R id).drop (k + 1) := hn
    rw [List.mem_append, List.mem_append, List.mem_singleton] at hn
    rcases hn with (hn | rfl) | hn
    · exact hin n (List.mem_of_mem_take hn)
    · have z : fits (0 : Int) := ⟨by decide, by decide⟩
      have s6 : fits (6 : Int) := ⟨by decide, by decide⟩
      have sn : fits Str.nil := by show (([] : List UInt8).length) ≤ _; decide
      exact ⟨hid, s6, ⟨z, z, z, z⟩, sn, sn, hp, trivial⟩
    · exact hin n (List.mem_of_mem_drop hn)
end Go.DB
