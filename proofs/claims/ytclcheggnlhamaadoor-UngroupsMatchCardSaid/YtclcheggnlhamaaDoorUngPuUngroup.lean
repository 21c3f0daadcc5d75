/-
  Groups that are taken away: the law.
-/
import Derived.Test.YtclcheggnlhamaaDoorUngPuCopy
import Derived.Test.YtclcheggnlhamaaDoorUngPuPages
set_option linter.unusedSimpArgs false
set_option linter.unusedVariables false
namespace Go.DB
open Go Go.RowKit

/-- The nodes whose numbers a condition picks have a new parent. -/
def reP (l : List DNode) (q : Nat → Bool) (p : Str) : List DNode := (List.range l.length).map (fun i => if q i = true then { gx l (i : Int) with Parent := p } else gx l (i : Int))
theorem reP_len {l : List DNode} {q : Nat → Bool} {p : Str} : (reP l q p).length = l.length := by simp [reP]
theorem reP_at {l : List DNode} {q : Nat → Bool} {p : Str} {i : Nat} (hi : i < l.length) : gx (reP l q p) (i : Int) = if q i = true then { gx l (i : Int) with Parent := p } else gx l (i : Int) := by
  rw [gx_nat (by rw [reP_len]; exact hi)]
  simp [reP]
theorem reP_none {l : List DNode} {q : Nat → Bool} {p : Str} (h : ∀ i, i < l.length → q i = false) : reP l q p = l := by
  unfold reP
  refine List.ext_getElem (by simp) fun i h1 h2 => ?_
  have hi : i < l.length := h2
  simp [h i hi, gx_nat hi]
theorem reP_congr {l : List DNode} {q r : Nat → Bool} {p : Str} (h : ∀ i, i < l.length → q i = r i) : reP l q p = reP l r p := by
  unfold reP
  exact List.map_congr_left fun i hi => by rw [h i (by simpa using hi)]
theorem reP_set {l : List DNode} {q : Nat → Bool} {p : Str} {i : Nat} (hi : i < l.length) : (reP l q p).set i { gx (reP l q p) (i : Int) with Parent := p } = reP l (fun j => q j || decide (j = i)) p := by
  rw [reP_at hi]
  refine List.ext_getElem (by simp [reP]) fun j h1 h2 => ?_
  have hj : j < l.length := by simpa [reP_len] using h2
  rw [List.getElem_set]
  by_cases e : i = j
  · subst e
    rw [if_pos rfl]
    have : (reP l (fun j => q j || decide (j = i)) p)[i] = { gx l (i : Int) with Parent := p } := by simp [reP]
    rw [this]
    split <;> rfl
  · rw [if_neg e]
    have e' : ¬ j = i := fun h => e h.symm
    simp [reP, e']

theorem nodeAt_natU {l : List DNode} {id : Str} (h : ¬ nodeAt l id < 0) : ∃ i : Nat, ∃ hi : i < l.length, nodeAt l id = i ∧ l[i].Id = id := by
  obtain ⟨⟨h1, h2⟩, h3⟩ := nodeAt_in h
  refine ⟨(nodeAt l id).toNat, by omega, by omega, ?_⟩
  rw [show nodeAt l id = (((nodeAt l id).toNat : Nat) : Int) by omega, gx_nat (by omega)] at h3
  exact h3

theorem ulook_bad {d : Doc} {e : Int} (hc : page_Check d = some e) (he : e ≠ 0) : page_look d = some (none, e) := by
  unfold page_look
  rw [hc, Option.bind_some, decide_eq_false he]; rfl
theorem ulook_ok {d : Doc} (hc : page_Check d = some 0) (h : Right d) : page_look d = some (some (viewD d), 0) := by
  unfold page_look
  rw [hc, Option.bind_some, h.viewOf]; rfl

section
variable {d : Doc}
theorem Ungroup_both (h : Right d) {k : Nat} (hk : k < d.Nodes.length) (hid : nodeAt d.Nodes d.Nodes[k].Id = k) (hc : page_Check d = some 0) :
    ∃ u e, page_Ungroup d d.Nodes[k].Id = some (u, e) ∧ ref_UngroupOf d d.Nodes[k].Id = some (u, e) ∧ (e ≠ 0 → u = ⟨[], []⟩) ∧ (e = 0 → u.Nodes.length ≤ 500 ∧ u.Edges = d.Edges) := by
  have hnl := h.nl
  have hfind : page_find d d.Nodes[k].Id = some (some (viewD d), (k : Int), 0) := by
    unfold page_find
    rw [ulook_ok hc h, Option.bind_some]
    simp only [decide_true, Bool.not_true, cond_false, Option.bind_some]
    have h1 : (viewD d).number = numM d.Nodes := rfl
    rw [h1, numM_has, hid, numM_getD (by rw [hid]; omega), hid]
    simp
  have hgk : gx d.Nodes (k : Int) = d.Nodes[k] := gx_nat hk
  have hne : d.Nodes[k].Id ≠ Str.nil := h.hid (List.getElem_mem hk)
  have hpk : d.Nodes[k].Parent ≠ d.Nodes[k].Id := fun e => by
    have := not_self h hk
    have hb : belB d.Nodes d.Nodes[k] d.Nodes[k].Id = true := belB_iff.2 ⟨0, fun j hj => by
      obtain rfl : j = 0 := by omega
      show d.Nodes[k].Parent ≠ _
      rw [e]; exact hne, e⟩
    rw [this] at hb; cases hb
  unfold page_Ungroup ref_UngroupOf
  rw [bnd_eq, bnd_eq, hfind, Option.bind_some, NodeAt_eq (by omega), hid, Option.bind_some]
  simp only [decide_true, Bool.not_true, cond_false]
  rw [need_of ⟨by omega, by omega⟩, need_of ⟨by omega, by omega⟩, hgk]
  by_cases hkind : d.Nodes[k].Kind = 6
  · simp only [hkind, decide_true, Bool.not_true, cond_false]
    rw [cloned_eq h, Copied_eq h, Option.bind_some, Option.bind_some, Option.bind_some, bnd_eq]
    have hm : (viewD d).members = memM d.Nodes := rfl
    rw [hm, memM_getD hne]
    generalize hv : idxs d.Nodes d.Nodes[k].Id = v
    have hvm : ∀ c, c ∈ v ↔ inR d.Nodes c ∧ (gx d.Nodes c).Parent = d.Nodes[k].Id := fun c => by rw [← hv]; exact idxs_mem
    have hvl : v.length ≤ 500 := by
      rw [← hv]; unfold idxs
      rw [List.length_map]
      have := List.length_filter_le (fun (i : Nat) => decide ((gx d.Nodes (i : Int)).Parent = d.Nodes[k].Id)) (List.range d.Nodes.length)
      rw [List.length_range] at this
      omega
    obtain ⟨s, p1, p2⟩ := rfor_inv (n := (v.length : Int)) (step := page_Ungroup_L1 (some (viewD d), (k : Int), 0) v) (s0 := d.Nodes) (fun t s => s = reP d.Nodes (fun j => decide ((j : Int) ∈ v.take t)) d.Nodes[k].Parent) (by omega)
      (by rw [reP_none]; intro i hi; simp) (fun i s hi hs => by
        subst hs
        have hi' : i < v.length := by omega
        have hc := (hvm v[i]).1 (List.getElem_mem hi')
        obtain ⟨⟨c1, c2⟩, c3⟩ := hc
        obtain ⟨m, hm⟩ : ∃ m : Nat, v[i] = m := ⟨v[i].toNat, by omega⟩
        have hml : m < d.Nodes.length := by omega
        unfold page_Ungroup_L1
        rw [need_of ⟨by omega, by omega⟩, need_of ⟨by show (0 : Int) ≤ (k : Int); omega, by rw [reP_len]; show (k : Int) < _; omega⟩, bnd_eq, gx_nat hi', hm, need_of ⟨by omega, by rw [reP_len]; omega⟩]
        have hq : (gx (reP d.Nodes (fun j => decide ((j : Int) ∈ v.take i)) d.Nodes[k].Parent) ((k : Int))).Parent = d.Nodes[k].Parent := by
          rw [reP_at hk, hgk]
          split <;> rfl
        simp only [hq, Int.toNat_natCast]
        rw [reP_set hml]
        refine ⟨_, rfl, reP_congr fun j hj => ?_⟩
        rw [List.take_succ_eq_append_getElem hi', hm, Bool.eq_iff_iff]
        simp only [Bool.or_eq_true, decide_eq_true_eq, List.mem_append, List.mem_singleton]
        constructor <;> rintro (a | a) <;> first | exact .inl a | exact .inr (by omega))
    obtain ⟨s', r1, r2⟩ := rfor_inv (n := (d.Nodes.length : Int)) (step := ref_UngroupOf_L1 d (k : Int) d.Nodes[k].Id) (s0 := d.Nodes) (fun t s => s = reP d.Nodes (fun j => decide (j < t ∧ (gx d.Nodes (j : Int)).Parent = d.Nodes[k].Id)) d.Nodes[k].Parent) (by omega)
      (by rw [reP_none]; intro i hi; simp) (fun i s hi hs => by
        subst hs
        have hi' : i < d.Nodes.length := by omega
        unfold ref_UngroupOf_L1
        rw [need_of ⟨by omega, by rw [reP_len]; omega⟩, reP_at hi']
        have hn : ¬ (decide (i < i ∧ (gx d.Nodes (i : Int)).Parent = d.Nodes[k].Id) = true) := by simp
        rw [if_neg hn]
        by_cases c : (gx d.Nodes (i : Int)).Parent = d.Nodes[k].Id
        · rw [decide_eq_true c, cond_true, need_of ⟨by omega, by omega⟩, bnd_eq, hgk, need_of ⟨by omega, by rw [reP_len]; omega⟩]
          have e := reP_set (q := fun j => decide (j < i ∧ (gx d.Nodes (j : Int)).Parent = d.Nodes[k].Id)) (p := d.Nodes[k].Parent) hi'
          rw [reP_at hi', if_neg hn] at e
          refine ⟨_, rfl, ?_⟩
          rw [show ((i : Int).toNat) = i from rfl, e]
          refine reP_congr fun j hj => ?_
          rw [Bool.eq_iff_iff]
          simp only [Bool.or_eq_true, decide_eq_true_eq]
          constructor
          · rintro (⟨a, b⟩ | rfl)
            · exact ⟨by omega, b⟩
            · exact ⟨by omega, c⟩
          · rintro ⟨a, b⟩
            by_cases e : j = i
            · exact .inr e
            · exact .inl ⟨by omega, b⟩
        · rw [decide_eq_false c, cond_false]
          refine ⟨_, rfl, reP_congr fun j hj => ?_⟩
          rw [Bool.eq_iff_iff]
          simp only [decide_eq_true_eq]
          constructor
          · rintro ⟨a, b⟩; exact ⟨by omega, b⟩
          · rintro ⟨a, b⟩
            refine ⟨?_, b⟩
            rcases Nat.lt_or_eq_of_le (Nat.lt_succ_iff.1 a) with e | e
            · exact e
            · subst e; exact absurd b c)
    have hss : s = s' := by
      rw [p2, r2]
      refine reP_congr fun j hj => ?_
      rw [show (v.length : Int).toNat = v.length from rfl, List.take_length, Bool.eq_iff_iff]
      simp only [decide_eq_true_eq]
      rw [hvm]
      constructor
      · rintro ⟨a, b⟩; exact ⟨by omega, b⟩
      · rintro ⟨a, b⟩; exact ⟨⟨by omega, by omega⟩, b⟩
    have hsl : s.length = d.Nodes.length := by rw [p2, reP_len]
    rw [p1, r1, Option.bind_some, Option.bind_some, ← hss, Wk (by omega) (by omega), show (k : Int) + 1 = ((k + 1 : Nat) : Int) by omega, Delete_Node_eq (by omega) (by omega)]
    refine ⟨_, _, rfl, rfl, fun e => absurd rfl e, fun _ => ⟨?_, rfl⟩⟩
    simp only [List.length_append, List.length_take, List.length_drop]; omega
  · rw [decide_eq_false hkind]
    exact ⟨_, _, rfl, rfl, fun _ => rfl, fun e => by cases e⟩
end

theorem UngroupsMatch_true (d : Doc) (id : Str) (hd : fits d) (hid : fits id) : law_UngroupsMatch d id = some true := by
  obtain ⟨e, c1, c2, hr⟩ := Check_both hd
  unfold law_UngroupsMatch
  rw [c2, pages_eq]
  by_cases he : e = 0
  case neg =>
    unfold page_Ungroup page_find
    rw [ulook_bad c1 he]
    simp only [bnd_eq, Option.bind_some, decide_eq_false he, Bool.not_false, cond_true, cond_false, gd_true]
    rw [docIs_bad he]; rfl
  subst he
  have h := hr rfl
  have hnl := h.nl
  simp only [bnd_eq, Option.bind_some, decide_true, cond_true]
  rw [NodeAt_eq (by omega), Option.bind_some, When_eq, Option.bind_some]
  by_cases hn : nodeAt d.Nodes id < 0
  · have hu : page_Ungroup d id = some (⟨[], []⟩, 10) := by
      unfold page_Ungroup page_find
      rw [ulook_ok c1 h]
      have hm : (viewD d).number = numM d.Nodes := rfl
      simp only [bnd_eq, Option.bind_some, decide_true, Bool.not_true, cond_false, hm, numM_has]
      rw [decide_eq_false (show ¬ 0 ≤ nodeAt d.Nodes id by omega)]
      rfl
    rw [hu, Option.bind_some, if_pos (decide_eq_true hn)]
    simp only [Option.bind_some, show decide ((10 : Int) = 0) = false from rfl, cond_false, gd_true]
    rw [docIs_bad (by decide)]; rfl
  · obtain ⟨k, hk, hkn, hki⟩ := nodeAt_natU hn
    subst hki
    obtain ⟨u, e, g1, g2, g3, g4⟩ := Ungroup_both h hk hkn c1
    rw [g1, Option.bind_some, if_neg (by simpa using hn)]
    simp only [Option.bind_some, decide_true, cond_true]
    rw [g2]
    simp only [Option.bind_some, gd_true]
    by_cases he : e = 0
    · subst he
      obtain ⟨u1, u2⟩ := g4 rfl
      have hel := h.el
      rw [docIs_ok (by omega) (by rw [u2]; omega) (fun x hx => by rw [u2] at hx; have := h.bends hx; omega)]; rfl
    · rw [g3 he, docIs_bad he]; rfl
end Go.DB
