/- A part of the proof. -/
import Derived.Test.YtlbbcehlhbaggaaGreatDoorTxdP1
set_option linter.unusedSimpArgs false
set_option linter.unusedVariables false
namespace Go.DB
open Go Go.RowKit
theorem side_in {k : Int} (h1 : 1 ≤ k) (h2 : k ≤ 4) : inR sidesL k := ⟨by omega, by show k < 5; omega⟩
theorem at_InI {y : DEnd} (h : EndT y) : InI y.At := by have := h.at_; unfold InI; omega
/-- An end, without the blank ahead. -/
def endB (y : DEnd) : List UInt8 := y.Node.b ++ (32 :: ((gx sidesL y.Side).b ++ (32 :: Go.Lib.itoa y.At)))
theorem sp_end (y : DEnd) : spB (endW y) = 32 :: endB y := by unfold endW endB; simp [spB]
theorem endB_len {y : DEnd} (h : EndT y) : (endB y).length ≤ 60 := by
  have h1 := nameB_len h.node
  have h2 := (side_word h.s1 h.s2).2
  have h3 := itoa_len9 h.at_
  unfold endB
  simp only [List.length_append, List.length_cons]; omega
theorem EndText_eq {y : DEnd} (h : EndT y) : edit_EndText y = some ⟨endB y⟩ := by
  have h1 := nameB_len h.node
  have h2 := (side_word h.s1 h.s2).2
  have h3 := itoa_len9 h.at_
  unfold edit_EndText
  rw [need_of (by simp only [List.length_cons, List.length_nil]; omega), show edit_SideWords = some sidesL from rfl, Option.bind_some, need_of (side_in h.s1 h.s2), need_of (by simp only [List.length_append, List.length_cons, List.length_nil]; omega), need_of (by simp only [List.length_append, List.length_cons, List.length_nil]; omega),
    Itoa_eq (at_InI h), Option.bind_some, need_of (by simp only [itoaS, List.length_append, List.length_cons, List.length_nil]; omega)]
  unfold endB
  simp [itoaS]
theorem rEndText_eq {y : DEnd} (h : EndT y) : ref_EndText y = some ⟨endB y⟩ := by
  have h1 := nameB_len h.node
  have h2 := (side_word h.s1 h.s2).2
  have h3 := itoa_len9 h.at_
  unfold ref_EndText
  rw [need_of (by simp only [List.length_cons, List.length_nil]; omega), SideWord_eq h.s1 h.s2, Option.bind_some, need_of (by simp only [List.length_append, List.length_cons, List.length_nil]; omega), need_of (by simp only [List.length_append, List.length_cons, List.length_nil]; omega),
    Itoa_eq (at_InI h), Option.bind_some, need_of (by simp only [itoaS, List.length_append, List.length_cons, List.length_nil]; omega)]
  unfold endB
  simp [itoaS]
theorem Coords_eq {l : List Point} (hl : l.length ≤ 100000) : edit_Coords l = some (coords l) := by
  unfold edit_Coords
  obtain ⟨s, h1, h2⟩ := rfor_inv (n := (l.length : Int)) (step := edit_Coords_L1 l) (s0 := ([] : List Int)) (fun i s => s = coords (l.take i)) (by omega) rfl (fun i s hi hI => by
    have hi' : i < l.length := by omega
    refine ⟨_, ?_, rfl⟩
    have hc := coords_len (l.take i)
    rw [List.length_take] at hc
    unfold edit_Coords_L1
    rw [need_of ⟨by omega, by omega⟩, bnd_eq, gx_nat hi', hI, need_of (by rw [room_iff]; simp only [List.length_cons, List.length_nil]; omega), List.take_succ_eq_append_getElem hi']
    unfold coords
    rw [List.flatMap_append]; rfl)
  rw [h1, h2]; simp
theorem coords_InI {x : DEdge} (h : EdgeT x) : ∀ v ∈ coords x.Bends, InI v := fun v hv => by have := h.bends v hv; unfold InI; omega
theorem bend_sp_len {x : DEdge} (h : EdgeT x) : (spB (bendW x.Bends)).length ≤ 5000 := by
  have hs : Short (bendW x.Bends) := by
    unfold bendW
    split
    · exact short_nil
    · exact short_cons (short_lit (by decide) (by decide)) (short_nums h.bends)
  have h1 := sp_len hs
  have h2 := bend_len x.Bends
  have h3 := h.few
  omega
theorem coords_ne {l : List Point} (h : l ≠ []) : coords l ≠ [] := by
  cases l with
  | nil => exact absurd rfl h
  | cons p l => unfold coords; simp
theorem edgeLine_eq {x : DEdge} (h : EdgeT x) : desk_edgeLine x = some ⟨edgeB x⟩ := by
  have hid := nameB_len h.id
  have hf := endB_len h.from_
  have ht := endB_len h.to_
  have hb := bend_sp_len h
  have hc := cls_len h.cls
  have htl := tailB_len (p := Str.nil) (lk := false) hc (by decide) h.text
  have hfew := h.few
  unfold desk_edgeLine
  rw [need_of (by simp only [List.length_cons, List.length_nil]; omega), need_of (by simp only [List.length_append, List.length_cons, List.length_nil]; omega), EndText_eq h.from_, Option.bind_some, need_of (by simp only [List.length_append, List.length_cons, List.length_nil]; omega),
    need_of (by simp only [List.length_append, List.length_cons, List.length_nil]; omega), EndText_eq h.to_, Option.bind_some, need_of (by simp only [List.length_append, List.length_cons, List.length_nil]; omega), bnd_eq, tail_eq (p := Str.nil) hc (by decide) h.text]
  rw [edgeB_eq, sp_end, sp_end]
  by_cases hn : x.Bends = []
  · rw [decide_eq_false (by rw [hn]; decide), cond_false, Option.bind_some, Option.bind_some, need_of (by simp only [List.length_append, List.length_cons, List.length_nil]; omega), hn]
    simp [bendW, spB]
  · have hl := List.length_pos_iff.2 hn
    have hcl := coords_len x.Bends
    have hnum := Numbers_eq (l := coords x.Bends) (by omega) (coords_InI h)
    have hsb : spB (bendW x.Bends) = 32 :: 98 :: 121 :: 32 :: numsB (coords x.Bends) := by
      unfold bendW
      rw [if_neg hn, spB, sp_nums (coords_ne hn)]; rfl
    rw [hsb] at hb ⊢
    simp only [List.length_cons] at hb
    rw [decide_eq_true (by omega), cond_true, Coords_eq (by omega), Option.bind_some, hnum, Option.bind_some, need_of (by simp only [List.length_cons, List.length_nil]; omega), need_of (by simp only [List.length_append, List.length_cons, List.length_nil]; omega), bnd_eq, Option.bind_some, Option.bind_some,
      need_of (by simp only [List.length_append, List.length_cons, List.length_nil]; omega)]
    simp
theorem ledge_loop {x : DEdge} (h : EdgeT x) (s : Str) (hs : s.b.length ≤ 1000) : rfor (x.Bends.length : Int) (law_edgeLine_L1 x) s = some ⟨s.b ++ spB (numsW (coords x.Bends))⟩ := by
  have hfew := h.few
  obtain ⟨r, h1, h2⟩ := rfor_inv (n := (x.Bends.length : Int)) (step := law_edgeLine_L1 x) (s0 := s) (fun i r => r = ⟨s.b ++ spB (numsW (coords (x.Bends.take i)))⟩ ∧ r.b.length ≤ 1000 + 82 * i) (by omega) ⟨by cases s; simp [coords, numsW, spB], hs⟩ (fun i r hi hI => by
    have hi' : i < x.Bends.length := by omega
    obtain ⟨i1, i2⟩ := hI
    have hb : ∀ v ∈ [x.Bends[i].X, x.Bends[i].Y], v.natAbs < 10000000 := fun v hv => h.bends v (List.mem_flatMap.2 ⟨_, List.getElem_mem hi', hv⟩)
    have hin : ∀ v ∈ [x.Bends[i].X, x.Bends[i].Y], InI v := fun v hv => by have := hb v hv; unfold InI; omega
    have hsl := sp_len (short_nums hb)
    have hnl : (numsW [x.Bends[i].X, x.Bends[i].Y]).length = 2 := rfl
    rw [hnl] at hsl
    have e : spB (numsW (coords (x.Bends.take (i + 1)))) = spB (numsW (coords (x.Bends.take i))) ++ spB (numsW [x.Bends[i].X, x.Bends[i].Y]) := by
      rw [List.take_succ_eq_append_getElem hi', ← sp_append]
      unfold numsW coords
      rw [← List.map_append, List.flatMap_append]; rfl
    refine ⟨_, ?_, rfl, ?_⟩
    · unfold law_edgeLine_L1
      rw [need_of ⟨by omega, by omega⟩, bnd_eq, gx_nat hi', ints_eq hin (by show (2 : Nat) ≤ _; decide), Option.bind_some, need_of (by show ((r.b.length : Nat) : Int) + (((spB (numsW [x.Bends[i].X, x.Bends[i].Y])).length : Nat) : Int) ≤ _; omega), bnd_eq, i1, e]
      simp only [List.append_assoc]
    · have : (s.b ++ spB (numsW (coords (x.Bends.take i)))).length = r.b.length := by rw [i1]
      show (s.b ++ spB (numsW (coords (x.Bends.take (i + 1))))).length ≤ _
      rw [e, ← List.append_assoc, List.length_append, this]; omega)
  rw [h1, h2.1]; simp
theorem ledgeLine_eq {x : DEdge} (h : EdgeT x) : law_edgeLine x = some ⟨edgeB x⟩ := by
  have hid := nameB_len h.id
  have hf := endB_len h.from_
  have ht := endB_len h.to_
  have hb := bend_sp_len h
  have hc := cls_len h.cls
  have htl := tailB_len (p := Str.nil) (lk := false) hc (by decide) h.text
  have hfew := h.few
  unfold law_edgeLine
  rw [need_of (by simp only [List.length_cons, List.length_nil]; omega), need_of (by simp only [List.length_append, List.length_cons, List.length_nil]; omega), rEndText_eq h.from_, Option.bind_some, need_of (by simp only [List.length_append, List.length_cons, List.length_nil]; omega),
    need_of (by simp only [List.length_append, List.length_cons, List.length_nil]; omega), rEndText_eq h.to_, Option.bind_some, need_of (by simp only [List.length_append, List.length_cons, List.length_nil]; omega), bnd_eq, ltail_eq hc h.text]
  rw [edgeB_eq, sp_end, sp_end]
  by_cases hn : x.Bends = []
  · rw [decide_eq_false (by rw [hn]; decide), cond_false, Option.bind_some, Option.bind_some, need_of (by simp only [List.length_append, List.length_cons, List.length_nil]; omega), hn]
    simp [bendW, spB]
  · have hl := List.length_pos_iff.2 hn
    have hsb : spB (bendW x.Bends) = 32 :: 98 :: 121 :: spB (numsW (coords x.Bends)) := by
      unfold bendW
      rw [if_neg hn, spB]; rfl
    rw [hsb] at hb ⊢
    simp only [List.length_cons] at hb
    rw [decide_eq_true (by omega), cond_true, need_of (by simp only [List.length_append, List.length_cons, List.length_nil]; omega), bnd_eq, ledge_loop h _ (by simp only [List.length_append, List.length_cons, List.length_nil]; omega), Option.bind_some, Option.bind_some,
      need_of (by simp only [List.length_append, List.length_cons, List.length_nil]; omega)]
    simp
theorem ruleB_eq2 (r : Rule) : ruleB r = [115, 116, 121, 108, 101, 32] ++ (starB r.Class ++ (32 :: (r.Prop_.b ++ (32 :: r.Value.b)))) := by
  unfold ruleB ruleW
  rw [join_sp]
  simp [spB]
theorem star_len {r : Rule} (h : RuleT r) : (starB r.Class).length ≤ 40 := by
  have := cls_len h.cls
  unfold starB
  split
  · decide
  · exact this
theorem ruleLine_eq {r : Rule} (h : RuleT r) : desk_ruleLine r = some ⟨ruleB r⟩ := by
  have h1 := star_len h
  have h2 := nameB_len h.prop
  have h3 := (value_word h.val).2
  have hs : (bif decide (r.Class = Str.nil) then (bnd ((⟨[42]⟩ : Str)) fun class1 => some class1) else (some r.Class)) = some ⟨starB r.Class⟩ := by
    unfold starB
    by_cases hc : r.Class = Str.nil
    · rw [decide_eq_true hc, if_pos hc]; rfl
    · rw [decide_eq_false hc, if_neg hc]; rfl
  unfold desk_ruleLine
  rw [hs, Option.bind_some, need_of (by simp only [List.length_append, List.length_cons, List.length_nil]; omega), need_of (by simp only [List.length_append, List.length_cons, List.length_nil]; omega), need_of (by simp only [List.length_append, List.length_cons, List.length_nil]; omega),
    need_of (by simp only [List.length_append, List.length_cons, List.length_nil]; omega), need_of (by simp only [List.length_append, List.length_cons, List.length_nil]; omega), ruleB_eq2]
  simp
theorem lines_loop {α : Type} [Inhabited α] {l : List α} (f : α → List UInt8) {step : Int → Str → Option Str} {s0 : Str} (hl : ∀ x ∈ l, (f x).length ≤ 7000) (hN : s0.b.length + l.length * 7001 ≤ 100000000)
    (hf : ∀ (i : Nat) (hi : i < l.length) (s : Str), s.b.length ≤ 100000000 → step (i : Int) s = some ⟨s.b ++ (f l[i] ++ [10])⟩) : rfor (l.length : Int) step s0 = some ⟨s0.b ++ textL (l.map f)⟩ := by
  obtain ⟨s, h1, h2⟩ := rfor_inv (n := (l.length : Int)) (step := step) (s0 := s0) (fun i s => s = ⟨s0.b ++ textL ((l.take i).map f)⟩) (by omega) (by cases s0; simp [textL]) (fun i s hi hI => by
    have hi' : i < l.length := by omega
    have hlen := map_len (f := f) (l := l.take i) (fun x hx => hl x (List.mem_of_mem_take hx))
    rw [List.length_take] at hlen
    have hm : min i l.length * 7001 ≤ l.length * 7001 := Nat.mul_le_mul_right _ (by omega)
    refine ⟨_, hf i hi' s ?_, ?_⟩
    · rw [hI]
      show (s0.b ++ textL ((l.take i).map f)).length ≤ _
      rw [List.length_append]; omega
    · rw [hI, List.take_succ_eq_append_getElem hi', List.map_append, textL_append, List.append_assoc]; rfl)
  rw [h1, h2]; simp
theorem Write_ok (c t : Str) (h : c.b.length + t.b.length ≤ 70368744177664) : strings_Builder_WriteString c t = some ⟨c.b ++ t.b⟩ := by unfold strings_Builder_WriteString; exact need_of h
theorem Print_text {d : Doc} {l : List Rule} (h : DocT d l) (hc : page_Check d = some 0) (hr : rulesErr l = 0) : desk_Print d l = some (if 1048576 < (docB d l).length then (Str.nil, 4) else (⟨docB d l⟩, 0)) := by
  have a1 := h.rl
  have a2 := h.nl
  have a3 := h.el
  have hbl := docB_len h
  have l1 := lines_loop (l := l) ruleB (step := desk_Print_L1 l) (s0 := ⟨[]⟩) (fun r hr => ruleB_len (h.rule r hr)) (by show 0 + _ ≤ _; omega) (fun i hi s hs => by
    have hx := h.rule _ (List.getElem_mem hi)
    have hle := ruleB_len hx
    unfold desk_Print_L1
    rw [need_of ⟨by omega, by omega⟩, bnd_eq, gx_nat hi, ruleLine_eq hx, Option.bind_some, need_of (by simp only [List.length_cons, List.length_nil]; omega), Write_ok _ _ (by simp only [List.length_append, List.length_cons, List.length_nil]; omega), Option.bind_some])
  have b1 := map_len (f := ruleB) (l := l) (fun r hr => ruleB_len (h.rule r hr))
  have b2 := map_len (f := nodeB) (l := d.Nodes) (fun n hn => nodeB_len (h.node n hn))
  have l2 := lines_loop (l := d.Nodes) nodeB (step := desk_Print_L2 d) (s0 := ⟨textL (l.map ruleB)⟩) (fun n hn => nodeB_len (h.node n hn)) (by show (textL (l.map ruleB)).length + _ ≤ _; omega) (fun i hi s hs => by
    have hx := h.node _ (List.getElem_mem hi)
    have hle := nodeB_len hx
    unfold desk_Print_L2
    rw [need_of ⟨by omega, by omega⟩, bnd_eq, gx_nat hi, nodeLine_eq hx, Option.bind_some, need_of (by simp only [List.length_cons, List.length_nil]; omega), Write_ok _ _ (by simp only [List.length_append, List.length_cons, List.length_nil]; omega), Option.bind_some])
  have l3 := lines_loop (l := d.Edges) edgeB (step := desk_Print_L3 d) (s0 := ⟨textL (l.map ruleB) ++ textL (d.Nodes.map nodeB)⟩) (fun x hx => edgeB_len (h.edge x hx)) (by show (textL (l.map ruleB) ++ textL (d.Nodes.map nodeB)).length + _ ≤ _; rw [List.length_append]; omega) (fun i hi s hs => by
    have hx := h.edge _ (List.getElem_mem hi)
    have hle := edgeB_len hx
    unfold desk_Print_L3
    rw [need_of ⟨by omega, by omega⟩, bnd_eq, gx_nat hi, edgeLine_eq hx, Option.bind_some, need_of (by simp only [List.length_cons, List.length_nil]; omega), Write_ok _ _ (by simp only [List.length_append, List.length_cons, List.length_nil]; omega), Option.bind_some])
  have e : docB d l = textL (l.map ruleB) ++ textL (d.Nodes.map nodeB) ++ textL (d.Edges.map edgeB) := by unfold docB; rw [List.append_assoc]
  have hlen : strings_Builder_Len ⟨docB d l⟩ = some (((docB d l).length : Int), ⟨docB d l⟩) := by unfold strings_Builder_Len; exact need_of (by show (docB d l).length ≤ _; omega)
  have hstr : strings_Builder_String ⟨docB d l⟩ = some ⟨docB d l⟩ := by unfold strings_Builder_String; exact need_of (by show (docB d l).length ≤ _; omega)
  unfold desk_Print
  rw [hc, Option.bind_some, CheckRules_eq, hr]
  simp only [decide_true, Bool.not_true, cond_false, Option.bind_some]
  rw [bnd_eq, l1, Option.bind_some, show (⟨(⟨[]⟩ : Str).b ++ textL (l.map ruleB)⟩ : Str) = ⟨textL (l.map ruleB)⟩ from rfl, l2, Option.bind_some, l3, Option.bind_some, ← e, hlen, Option.bind_some]
  simp only
  by_cases c : 1048576 < (docB d l).length
  · rw [decide_eq_true (by omega), cond_true, if_pos c]
  · rw [decide_eq_false (by omega), cond_false, if_neg c, hstr, Option.bind_some]
theorem docText_eq {d : Doc} {l : List Rule} (h : DocT d l) : law_docText d l = some ⟨docB d l⟩ := by
  have a1 := h.rl
  have a2 := h.nl
  have a3 := h.el
  have l1 := lines_loop (l := l) ruleB (step := law_docText_L1 l) (s0 := Str.nil) (fun r hr => ruleB_len (h.rule r hr)) (by show 0 + _ ≤ _; omega) (fun i hi s hs => by
    have hx := h.rule _ (List.getElem_mem hi)
    have h1 := star_len hx
    have h2 := nameB_len hx.prop
    have h3 := (value_word hx.val).2
    have hst : law_star l[i].Class = some ⟨starB l[i].Class⟩ := by
      unfold law_star starB
      by_cases hc : l[i].Class = Str.nil
      · rw [decide_eq_true hc, if_pos hc]; rfl
      · rw [decide_eq_false hc, if_neg hc]; rfl
    unfold law_docText_L1
    rw [need_of ⟨by omega, by omega⟩, bnd_eq, gx_nat hi, hst, Option.bind_some, need_of (by simp only [List.length_append, List.length_cons, List.length_nil]; omega), need_of (by simp only [List.length_append, List.length_cons, List.length_nil]; omega), need_of (by simp only [List.length_append, List.length_cons, List.length_nil]; omega),
      need_of (by simp only [List.length_append, List.length_cons, List.length_nil]; omega), need_of (by simp only [List.length_append, List.length_cons, List.length_nil]; omega), need_of (by simp only [List.length_append, List.length_cons, List.length_nil]; omega), need_of (by simp only [List.length_append, List.length_cons, List.length_nil]; omega), bnd_eq, ruleB_eq2]
    simp)
  have b1 := map_len (f := ruleB) (l := l) (fun r hr => ruleB_len (h.rule r hr))
  have b2 := map_len (f := nodeB) (l := d.Nodes) (fun n hn => nodeB_len (h.node n hn))
  have l2 := lines_loop (l := d.Nodes) nodeB (step := law_docText_L2 d) (s0 := ⟨textL (l.map ruleB)⟩) (fun n hn => nodeB_len (h.node n hn)) (by show (textL (l.map ruleB)).length + _ ≤ _; omega) (fun i hi s hs => by
    have hx := h.node _ (List.getElem_mem hi)
    have hle := nodeB_len hx
    unfold law_docText_L2
    rw [need_of ⟨by omega, by omega⟩, bnd_eq, gx_nat hi, lnodeLine_eq hx, Option.bind_some, need_of (by simp only [List.length_cons, List.length_nil]; omega), need_of (by simp only [List.length_append, List.length_cons, List.length_nil]; omega), bnd_eq])
  have l3 := lines_loop (l := d.Edges) edgeB (step := law_docText_L3 d) (s0 := ⟨textL (l.map ruleB) ++ textL (d.Nodes.map nodeB)⟩) (fun x hx => edgeB_len (h.edge x hx)) (by show (textL (l.map ruleB) ++ textL (d.Nodes.map nodeB)).length + _ ≤ _; rw [List.length_append]; omega) (fun i hi s hs => by
    have hx := h.edge _ (List.getElem_mem hi)
    have hle := edgeB_len hx
    unfold law_docText_L3
    rw [need_of ⟨by omega, by omega⟩, bnd_eq, gx_nat hi, ledgeLine_eq hx, Option.bind_some, need_of (by simp only [List.length_cons, List.length_nil]; omega), need_of (by simp only [List.length_append, List.length_cons, List.length_nil]; omega), bnd_eq])
  unfold law_docText
  rw [l1, Option.bind_some, show (⟨Str.nil.b ++ textL (l.map ruleB)⟩ : Str) = ⟨textL (l.map ruleB)⟩ from rfl, l2, Option.bind_some, l3, Option.bind_some]
  unfold docB
  rw [List.append_assoc]
theorem docB_rule {d : Doc} {l : List Rule} {r : Rule} (hn : d.Nodes = []) (he : d.Edges = []) : docB d (l ++ [r]) = docB d l ++ (ruleB r ++ [10]) := by
  unfold docB
  rw [hn, he, List.map_append, textL_append]
  simp [textL]
theorem docB_node {ns : List DNode} {l : List Rule} {n : DNode} : docB ⟨ns ++ [n], []⟩ l = docB ⟨ns, []⟩ l ++ (nodeB n ++ [10]) := by
  unfold docB
  simp only [List.map_append, textL_append]
  simp [textL]
theorem docB_edge {ns : List DNode} {es : List DEdge} {l : List Rule} {x : DEdge} : docB ⟨ns, es ++ [x]⟩ l = docB ⟨ns, es⟩ l ++ (edgeB x ++ [10]) := by
  unfold docB
  simp only [List.map_append, textL_append]
  simp [textL]
theorem docB_count (d : Doc) (l : List Rule) : l.length + d.Nodes.length + d.Edges.length ≤ (docB d l).count 10 := by
  have h1 := textL_count (l.map ruleB)
  have h2 := textL_count (d.Nodes.map nodeB)
  have h3 := textL_count (d.Edges.map edgeB)
  rw [List.length_map] at h1 h2 h3
  unfold docB
  rw [List.count_append, List.count_append]; omega
theorem Cut10 {a m : List UInt8} (h : 10 ∉ a) (hl : a.length + m.length + 1 ≤ 4294967280) : strings_Cut ⟨a ++ 10 :: m⟩ ⟨[10]⟩ = some (⟨a⟩, ⟨m⟩, true) :=
  Cut_any (cutS_hit h) (by show (a ++ 10 :: m).length ≤ _; simp only [List.length_append, List.length_cons]; omega) (by show a.length ≤ (a ++ 10 :: m).length; simp only [List.length_append, List.length_cons]; omega)
    (by show m.length ≤ (a ++ 10 :: m).length; simp only [List.length_append, List.length_cons]; omega)
theorem Cut10_miss {a : List UInt8} (h : 10 ∉ a) (hl : a.length ≤ 4294967280) : strings_Cut ⟨a⟩ ⟨[10]⟩ = some (⟨a⟩, ⟨[]⟩, false) :=
  Cut_any (cutS_miss h) hl (Nat.le_refl _) (Nat.zero_le _)
theorem line_ne {a m : List UInt8} : ¬ (⟨a ++ 10 :: m⟩ : Str) = Str.nil := fun e => by
  have e : a ++ 10 :: m = [] := congrArg Str.b e
  simp at e
/-! What was made of a diagram. -/

theorem line_len {α : Type} {f : α → List UInt8} {x : α} {R : List UInt8} {N : Nat} (h : (f x ++ 10 :: R).length ≤ N) : (f x).length + R.length + 1 ≤ N := by
  simp only [List.length_append, List.length_cons] at h; omega
theorem step_rule {r : Rule} (h : RuleT r) {acc : List Rule} {at_ : Nat} {R : List UInt8} (hl : (ruleB r ++ 10 :: R).length ≤ 100000000) (ha : acc.length ≤ 100000000) (hat : at_ ≤ 100000000) :
    desk_Parse_L1 (⟨ruleB r ++ 10 :: R⟩, acc, (at_ : Int), ⟨[], []⟩) = some (Step.again (⟨R⟩, acc ++ [r], ((at_ + 1 : Nat) : Int), ⟨[], []⟩)) := by
  have hw := h.words.word
  have hll := line_len hl
  have h10 : 10 ∉ ruleB r := by rw [ruleB_eq]; exact lineW_no10 hw
  have hsp := split_line (t := Str.nil) (by unfold ruleW; simp) hw (by rw [← ruleB_eq]; omega)
  rw [← ruleB_eq] at hsp
  have hg : gx ((ruleW r).map Str.mk) 0 = ⟨wStyle⟩ := rfl
  unfold desk_Parse_L1
  simp only
  rw [decide_eq_false line_ne, Bool.not_false, cond_true, Cut10 h10 (by omega), Option.bind_some, hsp, Option.bind_some, bnd_eq]
  simp only [Bool.and_self, decide_true, Bool.not_true, Bool.false_and, Bool.not_false, cond_false]
  rw [need_of ⟨by decide, by rw [List.length_map]; unfold ruleW; rw [List.length_cons]; omega⟩, hg, decide_eq_true rfl, cond_true, readRule_of h, Option.bind_some, bnd_eq, need_of (by rw [room_iff, List.length_singleton]; omega), Option.bind_some]
  simp only [List.length_nil, Int.ofNat_zero, decide_true, Bool.and_self, Bool.not_true, cond_false]
  rw [bnd_eq, Wk (by omega) (by omega)]; rfl
theorem kind_not {k : Int} (h1 : 1 ≤ k) (h2 : k ≤ 6) : gx kindsL k ≠ ⟨wStyle⟩ ∧ gx kindsL k ≠ ⟨wEdge⟩ := by
  rcases kind_cases h1 h2 with rfl | rfl | rfl | rfl | rfl | rfl <;> exact ⟨by decide, by decide⟩
theorem step_node {n : DNode} (h : NodeT n) {rules : List Rule} {acc : List DNode} {at_ : Nat} {R : List UInt8} (hl : (nodeB n ++ 10 :: R).length ≤ 100000000) (ha : acc.length ≤ 100000000) (hat : at_ ≤ 100000000) :
    desk_Parse_L1 (⟨nodeB n ++ 10 :: R⟩, rules, (at_ : Int), ⟨acc, []⟩) = some (Step.again (⟨R⟩, rules, ((at_ + 1 : Nat) : Int), ⟨acc ++ [n], []⟩)) := by
  have hw := h.words.word
  have hll := line_len hl
  have h10 : 10 ∉ nodeB n := lineW_no10 hw
  have hsp := split_line (t := n.Text) (by unfold nodeW; simp) hw (by show (nodeB n).length ≤ _; omega)
  have hg : gx ((nodeW n).map Str.mk) 0 = gx kindsL n.Kind := rfl
  obtain ⟨k1, k2⟩ := kind_not h.k1 h.k2
  have hq : (!((!decide (n.Text = Str.nil)) && decide (n.Text = Str.nil))) = true := by cases decide (n.Text = Str.nil) <;> rfl
  unfold desk_Parse_L1
  simp only
  rw [decide_eq_false line_ne, Bool.not_false, cond_true, Cut10 h10 (by omega), Option.bind_some, show desk_split ⟨nodeB n⟩ = _ from hsp, Option.bind_some, bnd_eq]
  simp only [Bool.and_self, hq, Bool.not_true, cond_false]
  rw [need_of ⟨by decide, by rw [List.length_map]; unfold nodeW; rw [List.length_cons]; omega⟩, hg, decide_eq_false k1, cond_false, need_of ⟨by decide, by rw [List.length_map]; unfold nodeW; rw [List.length_cons]; omega⟩, decide_eq_false k2, cond_false, readNode_of h, Option.bind_some, bnd_eq, need_of (by rw [room_iff, List.length_singleton]; omega), Option.bind_some]
  simp only [List.length_nil, Int.ofNat_zero, decide_true, Bool.and_self, Bool.not_true, cond_false]
  rw [bnd_eq, Wk (by omega) (by omega)]; rfl
theorem step_edge {x : DEdge} (h : EdgeT x) {rules : List Rule} {ns : List DNode} {acc : List DEdge} {at_ : Nat} {R : List UInt8} (hl : (edgeB x ++ 10 :: R).length ≤ 100000000) (ha : acc.length ≤ 100000000) (hat : at_ ≤ 100000000) :
    desk_Parse_L1 (⟨edgeB x ++ 10 :: R⟩, rules, (at_ : Int), ⟨ns, acc⟩) = some (Step.again (⟨R⟩, rules, ((at_ + 1 : Nat) : Int), ⟨ns, acc ++ [x]⟩)) := by
  have hw := h.words.word
  have hll := line_len hl
  have h10 : 10 ∉ edgeB x := lineW_no10 hw
  have hsp := split_line (t := x.Text) (by unfold edgeW; simp) hw (by show (edgeB x).length ≤ _; omega)
  have hg : gx ((edgeW x).map Str.mk) 0 = ⟨wEdge⟩ := rfl
  have hne : ¬ (⟨wEdge⟩ : Str) = ⟨wStyle⟩ := by decide
  have hq : (!((!decide (x.Text = Str.nil)) && decide (x.Text = Str.nil))) = true := by cases decide (x.Text = Str.nil) <;> rfl
  unfold desk_Parse_L1
  simp only
  rw [decide_eq_false line_ne, Bool.not_false, cond_true, Cut10 h10 (by omega), Option.bind_some, show desk_split ⟨edgeB x⟩ = _ from hsp, Option.bind_some, bnd_eq]
  simp only [Bool.and_self, hq, Bool.not_true, cond_false]
  rw [need_of ⟨by decide, by rw [List.length_map]; unfold edgeW; rw [List.length_cons]; omega⟩, hg, decide_eq_false hne, cond_false, need_of ⟨by decide, by rw [List.length_map]; unfold edgeW; rw [List.length_cons]; omega⟩, decide_eq_true rfl, cond_true, readEdge_of h, Option.bind_some, need_of (by rw [room_iff, List.length_singleton]; omega), Option.bind_some]
  simp only [Bool.not_true, cond_false]
  rw [bnd_eq, Wk (by omega) (by omega)]; rfl
theorem loop_rules : ∀ (l acc : List Rule) (at_ : Nat) (R : List UInt8), (∀ r ∈ l, RuleT r) → (textL (l.map ruleB) ++ R).length ≤ 50000000 → acc.length + l.length ≤ 50000000 → at_ + l.length ≤ 50000000 →
    loop desk_Parse_L1 (⟨textL (l.map ruleB) ++ R⟩, acc, (at_ : Int), ⟨[], []⟩) = loop desk_Parse_L1 (⟨R⟩, acc ++ l, ((at_ + l.length : Nat) : Int), ⟨[], []⟩)
  | [], acc, at_, R, _, _, _, _ => by rw [List.append_nil]; rfl
  | r :: l, acc, at_, R, h, h1, h2, h3 => by
    have e : textL ((r :: l).map ruleB) ++ R = ruleB r ++ 10 :: (textL (l.map ruleB) ++ R) := by rw [List.map_cons, textL, List.append_assoc, List.cons_append]
    rw [e] at h1
    have h1' := line_len h1
    simp only [List.length_cons] at h2 h3
    rw [e, loop_again (step_rule (h r (by simp)) (by omega) (by omega) (by omega)), loop_rules l (acc ++ [r]) (at_ + 1) R (fun x hx => h x (by simp [hx])) (by omega) (by rw [List.length_append, List.length_singleton]; omega) (by omega), List.append_assoc, List.singleton_append, show at_ + 1 + l.length = at_ + (r :: l).length by rw [List.length_cons]; omega]
theorem loop_nodes (rules : List Rule) : ∀ (l acc : List DNode) (at_ : Nat) (R : List UInt8), (∀ n ∈ l, NodeT n) → (textL (l.map nodeB) ++ R).length ≤ 50000000 → acc.length + l.length ≤ 50000000 → at_ + l.length ≤ 50000000 →
    loop desk_Parse_L1 (⟨textL (l.map nodeB) ++ R⟩, rules, (at_ : Int), ⟨acc, []⟩) = loop desk_Parse_L1 (⟨R⟩, rules, ((at_ + l.length : Nat) : Int), ⟨acc ++ l, []⟩)
  | [], acc, at_, R, _, _, _, _ => by rw [List.append_nil]; rfl
  | r :: l, acc, at_, R, h, h1, h2, h3 => by
    have e : textL ((r :: l).map nodeB) ++ R = nodeB r ++ 10 :: (textL (l.map nodeB) ++ R) := by rw [List.map_cons, textL, List.append_assoc, List.cons_append]
    rw [e] at h1
    have h1' := line_len h1
    simp only [List.length_cons] at h2 h3
    rw [e, loop_again (step_node (h r (by simp)) (by omega) (by omega) (by omega)), loop_nodes rules l (acc ++ [r]) (at_ + 1) R (fun x hx => h x (by simp [hx])) (by omega) (by rw [List.length_append, List.length_singleton]; omega) (by omega), List.append_assoc, List.singleton_append, show at_ + 1 + l.length = at_ + (r :: l).length by rw [List.length_cons]; omega]
theorem loop_edges (rules : List Rule) (ns : List DNode) : ∀ (l acc : List DEdge) (at_ : Nat), (∀ x ∈ l, EdgeT x) → (textL (l.map edgeB)).length ≤ 50000000 → acc.length + l.length ≤ 50000000 → at_ + l.length ≤ 50000000 →
    loop desk_Parse_L1 (⟨textL (l.map edgeB)⟩, rules, (at_ : Int), ⟨ns, acc⟩) = some (Res.nx (rules, ⟨ns, acc ++ l⟩))
  | [], acc, at_, _, _, _, _ => by
    rw [List.append_nil]
    refine loop_done ?_
    unfold desk_Parse_L1
    rw [show (⟨textL (([] : List DEdge).map edgeB)⟩ : Str) = Str.nil from rfl, decide_eq_true rfl, Bool.not_true, cond_false]
  | r :: l, acc, at_, h, h1, h2, h3 => by
    have e : textL ((r :: l).map edgeB) = edgeB r ++ 10 :: (textL (l.map edgeB)) := by rw [List.map_cons, textL]
    rw [e] at h1
    have h1' := line_len h1
    simp only [List.length_cons] at h2 h3
    rw [e, loop_again (step_edge (h r (by simp)) (by omega) (by omega) (by omega)), loop_edges rules ns l (acc ++ [r]) (at_ + 1) (fun x hx => h x (by simp [hx])) (by omega) (by rw [List.length_append, List.length_singleton]; omega) (by omega), List.append_assoc, List.singleton_append]
theorem Parse_text {d : Doc} {l : List Rule} (h : DocT d l) (hc : page_Check d = some 0) (hr : rulesErr l = 0) (hl : (docB d l).length ≤ 1048576) : desk_Parse ⟨docB d l⟩ = some (d, l, 0, 0) := by
  have a1 := h.rl
  have a2 := h.nl
  have a3 := h.el
  have hp : loop desk_Parse_L1 (⟨docB d l⟩, ([] : List Rule), 0, (⟨([] : List DNode), ([] : List DEdge)⟩ : Doc)) = some (Res.nx (l, d)) := by
    have e : docB d l = textL (l.map ruleB) ++ (textL (d.Nodes.map nodeB) ++ textL (d.Edges.map edgeB)) := rfl
    have h1 : (textL (l.map ruleB) ++ (textL (d.Nodes.map nodeB) ++ textL (d.Edges.map edgeB))).length ≤ 1048576 := hl
    have h2 : (textL (d.Nodes.map nodeB) ++ textL (d.Edges.map edgeB)).length ≤ 1048576 := by rw [List.length_append] at h1; omega
    have h3 : (textL (d.Edges.map edgeB)).length ≤ 1048576 := by rw [List.length_append] at h2; omega
    have s1 := loop_rules l [] 0 (textL (d.Nodes.map nodeB) ++ textL (d.Edges.map edgeB)) h.rule (by omega) (by simp; omega) (by omega)
    have s2 := loop_nodes l d.Nodes [] (0 + l.length) (textL (d.Edges.map edgeB)) h.node (by omega) (by simp; omega) (by omega)
    have s3 := loop_edges l d.Nodes d.Edges [] (0 + l.length + d.Nodes.length) h.edge (by omega) (by simp; omega) (by omega)
    rw [List.nil_append] at s1 s2 s3
    rw [e]
    exact (s1.trans s2).trans s3
  unfold desk_Parse
  rw [bnd_eq, decide_eq_false (show ¬ (1048576 : Int) < (((docB d l).length : Nat) : Int) by omega), cond_false, hp, bindR_nx]
  cases d with
  | mk ns es =>
    simp only
    rw [hc, Option.bind_some, CheckRules_eq, hr]
    simp only [decide_true, Bool.not_true, cond_false, Option.bind_some]
    rw [bnd_eq]
/-- What is known at the begin of a line. -/
structure ParI (text : List UInt8) (t : Str) (rules : List Rule) (at_ : Int) (d : Doc) : Prop where
  eq : docB d rules ++ t.b = text
  at_ : at_ = ((rules.length + d.Nodes.length + d.Edges.length : Nat) : Int)
  rule : ∀ r ∈ rules, fits r
  node : ∀ n ∈ d.Nodes, fits n
  edge : ∀ x ∈ d.Edges, fits x
/-- A line that is read, or is none. -/
theorem step_any {text : List UInt8} {t : Str} {rules : List Rule} {at_ : Int} {d : Doc} (hI : ParI text t rules at_ d) (ht : text.length ≤ 1048576) :
    (∃ s', desk_Parse_L1 (t, rules, at_, d) = some (Step.again s') ∧ ParI text s'.1 s'.2.1 s'.2.2.1 s'.2.2.2 ∧ s'.1.b.length < t.b.length) ∨
    (t = Str.nil ∧ desk_Parse_L1 (t, rules, at_, d) = some (Step.done (Res.nx (rules, d)))) ∨
    desk_Parse_L1 (t, rules, at_, d) = some (Step.done (Res.ab (⟨[], []⟩, [], at_, 8))) := by
  obtain ⟨b⟩ := t
  obtain ⟨ns, es⟩ := d
  have heq := hI.eq
  simp only at heq
  have hat := hI.at_
  simp only at hat
  have hcnt := docB_count ⟨ns, es⟩ rules
  simp only at hcnt
  have hcl : (docB ⟨ns, es⟩ rules).count 10 ≤ (docB ⟨ns, es⟩ rules).length := List.count_le_length
  have hlen : (docB ⟨ns, es⟩ rules).length + b.length = text.length := by rw [← heq, List.length_append]
  unfold desk_Parse_L1
  simp only
  by_cases hn : (⟨b⟩ : Str) = Str.nil
  · rw [decide_eq_true hn, Bool.not_true, cond_false]
    exact .inr (.inl ⟨hn, rfl⟩)
  · rw [decide_eq_false hn, Bool.not_false, cond_true]
    by_cases hc : (10 : UInt8) ∈ b
    · obtain ⟨a, m, rfl, h10⟩ := mem_cut hc
      simp only [List.length_append, List.length_cons] at hlen
      obtain ⟨l, s, q, ok, e1, e2⟩ := split_any a (by omega)
      rw [Cut10 h10 (by omega), Option.bind_some, e1, Option.bind_some, bnd_eq]
      simp only [Bool.and_true]
      cases hok : (ok && !(q && decide (s = Str.nil))) with
      | false =>
        rw [Bool.not_false, cond_true, Option.bind_some]
        exact .inr (.inr rfl)
      | true =>
        simp only [Bool.and_eq_true, Bool.not_eq_true', Bool.and_eq_false_iff, decide_eq_false_iff_not] at hok
        have hL := e2 hok.1
        have haL := hL.eqW (fun ⟨h1, h2⟩ => by rcases hok.2 with h | h; · rw [h1] at h; cases h
                                               · exact h h2)
        have hsh : ∀ x ∈ l, x.b.length ≤ 100000000 := fun x hx => by have := hL.short x hx; omega
        have hfew : l.length ≤ 100000000 := by have := hL.few; omega
        have htx : s.b.length ≤ 100000000 := by have := hL.text; omega
        obtain ⟨x, l1, rfl⟩ : ∃ x l1, l = x :: l1 := by
          cases l with
          | nil => exact absurd rfl hL.ne
          | cons x l1 => exact ⟨_, _, rfl⟩
        have hg : gx (x :: l1) 0 = x := rfl
        have hin : inR (x :: l1) 0 := ⟨by decide, by rw [List.length_cons]; omega⟩
        rw [Bool.not_true, cond_false, need_of hin, hg]
        have hcut : ∀ {X : List UInt8}, (docB ⟨ns, es⟩ rules ++ (a ++ [10])) ++ m = (docB ⟨ns, es⟩ rules) ++ (a ++ 10 :: m) := by intro X; simp
        by_cases hst : x = ⟨wStyle⟩
        · rw [decide_eq_true hst, cond_true]
          obtain ⟨r, ro, r1, r2⟩ := readRule_any (x :: l1) hL.nil (by rw [hg, hst])
          rw [r1, Option.bind_some, bnd_eq, need_of (by rw [room_iff, List.length_singleton]; omega), Option.bind_some]
          simp only
          cases hr : ((((ro && !q) && decide (((ns.length : Nat) : Int) = 0)) && decide (((es.length : Nat) : Int) = 0))) with
          | false => exact .inr (.inr rfl)
          | true =>
            simp only [Bool.and_eq_true, Bool.not_eq_true', decide_eq_true_eq] at hr
            obtain ⟨⟨⟨c1, c2⟩, c3⟩, c4⟩ := hr
            have hns : ns = [] := List.length_eq_zero_iff.1 (by omega)
            have hes : es = [] := List.length_eq_zero_iff.1 (by omega)
            obtain ⟨d1, d2, d3, d4⟩ := r2 c1
            have hs : s = Str.nil := hL.none c2
            have ha : a = ruleB r := by rw [haL, ← d1, hs, ruleB_eq]
            refine .inl ⟨(⟨m⟩, rules ++ [r], ((rules.length + 1 + ns.length + es.length : Nat) : Int), ⟨ns, es⟩), ?_, ⟨?_, ?_, ?_, hI.node, hI.edge⟩, ?_⟩
            · have hw : W (at_ + 1) = ((rules.length + 1 + ns.length + es.length : Nat) : Int) := by rw [hat, Wk (by omega) (by omega)]; omega
              rw [Bool.not_true, cond_false, bnd_eq, hw]
            · show docB ⟨ns, es⟩ (rules ++ [r]) ++ m = text
              rw [docB_rule hns hes, ← ha, ← heq]; simp
            · show _ = (((rules ++ [r]).length + ns.length + es.length : Nat) : Int)
              rw [List.length_append, List.length_singleton]
            · intro y hy
              rcases List.mem_append.1 hy with hy | hy
              · exact hI.rule y hy
              · rw [List.mem_singleton.1 hy]
                have fm : ∀ {z : Str}, z ∈ x :: l1 → fits z := fun hz => fitS (hsh _ hz)
                refine ⟨?_, fm d3, fm d4⟩
                rcases d2 with e | e
                · rw [e]; exact fitS (by decide)
                · exact fm e
            · show m.length < (a ++ 10 :: m).length
              rw [List.length_append, List.length_cons]; omega
        · rw [decide_eq_false hst, cond_false, need_of hin]
          by_cases hed : x = ⟨wEdge⟩
          · rw [decide_eq_true hed, cond_true]
            obtain ⟨y, yo, y1, y2⟩ := readEdge_any x l1 s hed hL.nil (fun z hz => hsh z (by simp [hz])) (by simp only [List.length_cons] at hfew; omega) htx
            rw [y1, Option.bind_some, need_of (by rw [room_iff, List.length_singleton]; omega), Option.bind_some]
            simp only
            cases hyo : yo with
            | false => exact .inr (.inr rfl)
            | true =>
              obtain ⟨d1, d2, d3⟩ := y2 hyo
              have ha : a = edgeB y := by rw [haL, ← d1, ← d2]; rfl
              refine .inl ⟨(⟨m⟩, rules, ((rules.length + ns.length + (es.length + 1) : Nat) : Int), ⟨ns, es ++ [y]⟩), ?_, ⟨?_, ?_, hI.rule, hI.node, ?_⟩, ?_⟩
              · have hw : W (at_ + 1) = ((rules.length + ns.length + (es.length + 1) : Nat) : Int) := by rw [hat, Wk (by omega) (by omega)]; omega
                rw [Bool.not_true, cond_false, bnd_eq, hw]
              · show docB ⟨ns, es ++ [y]⟩ rules ++ m = text
                rw [docB_edge, ← ha, ← heq]; simp
              · show _ = ((rules.length + ns.length + (es ++ [y]).length : Nat) : Int)
                rw [List.length_append, List.length_singleton]
              · intro z hz
                rcases List.mem_append.1 hz with hz | hz
                · exact hI.edge z hz
                · rw [List.mem_singleton.1 hz]; exact d3
              · show m.length < (a ++ 10 :: m).length
                rw [List.length_append, List.length_cons]; omega
          · rw [decide_eq_false hed, cond_false]
            obtain ⟨y, yo, y1, y2⟩ := readNode_any (x :: l1) s hL.ne hL.nil hsh hfew htx
            rw [y1, Option.bind_some, bnd_eq, need_of (by rw [room_iff, List.length_singleton]; omega), Option.bind_some]
            simp only
            cases hyo : (yo && decide (((es.length : Nat) : Int) = 0)) with
            | false => exact .inr (.inr rfl)
            | true =>
              simp only [Bool.and_eq_true, decide_eq_true_eq] at hyo
              obtain ⟨d1, d2, d3⟩ := y2 hyo.1
              have hes : es = [] := List.length_eq_zero_iff.1 (by omega)
              have ha : a = nodeB y := by rw [haL, ← d1, ← d2]; rfl
              refine .inl ⟨(⟨m⟩, rules, ((rules.length + (ns.length + 1) + es.length : Nat) : Int), ⟨ns ++ [y], es⟩), ?_, ⟨?_, ?_, hI.rule, ?_, hI.edge⟩, ?_⟩
              · have hw : W (at_ + 1) = ((rules.length + (ns.length + 1) + es.length : Nat) : Int) := by rw [hat, Wk (by omega) (by omega)]; omega
                rw [Bool.not_true, cond_false, bnd_eq, hw]
              · show docB ⟨ns ++ [y], es⟩ rules ++ m = text
                rw [hes] at heq ⊢
                rw [docB_node, ← ha, ← heq]; simp
              · show _ = ((rules.length + (ns ++ [y]).length + es.length : Nat) : Int)
                rw [List.length_append, List.length_singleton]
              · intro z hz
                rcases List.mem_append.1 hz with hz | hz
                · exact hI.node z hz
                · rw [List.mem_singleton.1 hz]; exact d3
              · show m.length < (a ++ 10 :: m).length
                rw [List.length_append, List.length_cons]; omega
    · obtain ⟨l, s, q, ok, e1, e2⟩ := split_any b (by omega)
      rw [Cut10_miss hc (by omega), Option.bind_some, e1, Option.bind_some, bnd_eq]
      simp only [Bool.and_false, Bool.false_and]
      rw [Bool.not_false, cond_true, Option.bind_some]
      exact .inr (.inr rfl)
theorem Parse_loop (text : Str) (ht : text.b.length ≤ 1048576) : ∃ r, loop desk_Parse_L1 (text, ([] : List Rule), 0, (⟨([] : List DNode), ([] : List DEdge)⟩ : Doc)) = some r ∧
    ((∃ rules d, r = Res.nx (rules, d) ∧ docB d rules = text.b ∧ (∀ x ∈ rules, fits x) ∧ (∀ x ∈ d.Nodes, fits x) ∧ (∀ x ∈ d.Edges, fits x)) ∨
     ∃ at_ : Int, r = Res.ab (⟨[], []⟩, [], at_, 8) ∧ 0 ≤ at_ ∧ at_ ≤ (text.b.count 10 : Nat)) := by
  refine loop_inv (body := desk_Parse_L1) (fun s => ParI text.b s.1 s.2.1 s.2.2.1 s.2.2.2) (fun s => s.1.b.length) _ ⟨rfl, rfl, fun x hx => (by cases hx), fun x hx => (by cases hx), fun x hx => (by cases hx)⟩ ?_
  intro s hI
  obtain ⟨t, rules, at_, d⟩ := s
  rcases step_any hI ht with ⟨s', h1, h2, h3⟩ | ⟨h1, h2⟩ | h
  · exact .inl ⟨s', h1, h2, h3⟩
  · refine .inr ⟨_, h2, .inl ⟨rules, d, rfl, ?_, hI.rule, hI.node, hI.edge⟩⟩
    have := hI.eq
    simp only at this h1
    rw [h1] at this
    simpa [Str.nil] using this
  · refine .inr ⟨_, h, .inr ⟨at_, rfl, ?_, ?_⟩⟩
    · have h3 := hI.at_
      simp only at h3
      rw [h3]; omega
    · have h1 := docB_count d rules
      have h2 : (docB d rules).count 10 ≤ text.b.count 10 := by
        have := hI.eq
        simp only at this
        rw [← this, List.count_append]; omega
      have h3 := hI.at_
      simp only at h3
      rw [h3]; omega
/-- What Parse makes of any text. -/
theorem Parse_any (text : Str) : ∃ d rules at_ e, desk_Parse text = some (d, rules, at_, e) ∧
    (e = 0 → at_ = 0 ∧ fits d ∧ fits rules ∧ page_Check d = some 0 ∧ rulesErr rules = 0 ∧ docB d rules = text.b) ∧
    (e ≠ 0 → d = ⟨[], []⟩ ∧ rules = [] ∧ 0 ≤ at_ ∧ at_ ≤ (text.b.count 10 : Nat) ∧ (e = 8 ∨ at_ = 0)) := by
  unfold desk_Parse
  rw [bnd_eq]
  by_cases c : 1048576 < text.b.length
  · rw [decide_eq_true (by omega), cond_true]
    exact ⟨_, _, _, _, rfl, fun h => absurd h (by decide), fun _ => ⟨rfl, rfl, Int.le_refl 0, by omega, .inr rfl⟩⟩
  · rw [decide_eq_false (by omega), cond_false]
    obtain ⟨r, h1, h2⟩ := Parse_loop text (by omega)
    rw [h1]
    rcases h2 with ⟨rules, d, rfl, ho, f1, f2, f3⟩ | ⟨at_, rfl, q1, q2⟩
    · obtain ⟨ns, es⟩ := d
      have hcnt := docB_count ⟨ns, es⟩ rules
      have hcl : (docB ⟨ns, es⟩ rules).count 10 ≤ (docB ⟨ns, es⟩ rules).length := List.count_le_length
      rw [ho] at hcnt hcl
      simp only at hcnt
      have hfd : fits (⟨ns, es⟩ : Doc) := ⟨⟨(show ns.length ≤ 9223372036854775807 by omega), f2⟩, ⟨(show es.length ≤ 9223372036854775807 by omega), f3⟩⟩
      have hfr : fits rules := ⟨by omega, f1⟩
      obtain ⟨e, c1, c2, c3⟩ := Check_both hfd
      rw [bindR_nx]
      simp only
      rw [c1, Option.bind_some]
      by_cases hz : e = 0
      · rw [decide_eq_true hz, Bool.not_true, cond_false, CheckRules_eq, Option.bind_some]
        by_cases hr : rulesErr rules = 0
        · rw [decide_eq_true hr, Bool.not_true, cond_false, bnd_eq]
          rw [hz] at c1
          exact ⟨_, _, _, _, rfl, fun _ => ⟨rfl, hfd, hfr, c1, hr, ho⟩, fun h => absurd rfl h⟩
        · rw [decide_eq_false hr, Bool.not_false, cond_true]
          exact ⟨_, _, _, _, rfl, fun h => absurd h hr, fun _ => ⟨rfl, rfl, Int.le_refl 0, by omega, .inr rfl⟩⟩
      · rw [decide_eq_false hz, Bool.not_false, cond_true]
        exact ⟨_, _, _, _, rfl, fun h => absurd h hz, fun _ => ⟨rfl, rfl, Int.le_refl 0, by omega, .inr rfl⟩⟩
    · rw [bindR_ab]
      exact ⟨_, _, _, _, rfl, fun h => absurd h (by decide), fun _ => ⟨rfl, rfl, q1, q2, .inl rfl⟩⟩
theorem In_eqP (n a b : Int) : ref_In n a b = some (decide (a ≤ n ∧ n ≤ b)) := by
  unfold ref_In
  by_cases h1 : a ≤ n <;> by_cases h2 : n ≤ b <;> simp [h1, h2]
theorem EqNode_self (l : List DNode) (hl : l.length ≤ 1000000) : slices_Equal_Node l l = some true := by
  unfold slices_Equal_Node
  obtain ⟨e, h1, h2⟩ := rforE_inv (n := (l.length : Int)) (step := slices_Equal_Node_L1 l l) (fin := fun s => (Res.nx s : Res Unit Bool)) (s0 := ()) (fun _ _ => True) (fun e => e = Res.nx ()) (by omega) trivial (fun i s hi _ => by
    have hin : inR l (i : Int) := ⟨by omega, by omega⟩
    unfold slices_Equal_Node_L1
    rw [need_of hin, need_of hin, decide_eq_true rfl, Bool.not_true, cond_false]
    exact .inl ⟨(), rfl, trivial⟩) (fun s _ => rfl)
  rw [decide_eq_true rfl, Bool.not_true, cond_false, h1, h2, bindR_nx]
theorem EqPoint_self (l : List Point) (hl : l.length ≤ 1000000) : slices_Equal_Point l l = some true := by
  unfold slices_Equal_Point
  obtain ⟨e, h1, h2⟩ := rforE_inv (n := (l.length : Int)) (step := slices_Equal_Point_L1 l l) (fin := fun s => (Res.nx s : Res Unit Bool)) (s0 := ()) (fun _ _ => True) (fun e => e = Res.nx ()) (by omega) trivial (fun i s hi _ => by
    have hin : inR l (i : Int) := ⟨by omega, by omega⟩
    unfold slices_Equal_Point_L1
    rw [need_of hin, need_of hin, decide_eq_true rfl, Bool.not_true, cond_false]
    exact .inl ⟨(), rfl, trivial⟩) (fun s _ => rfl)
  rw [decide_eq_true rfl, Bool.not_true, cond_false, h1, h2, bindR_nx]
theorem EqRule_self (l : List Rule) (hl : l.length ≤ 1000000) : slices_Equal_Rule l l = some true := by
  unfold slices_Equal_Rule
  obtain ⟨e, h1, h2⟩ := rforE_inv (n := (l.length : Int)) (step := slices_Equal_Rule_L1 l l) (fin := fun s => (Res.nx s : Res Unit Bool)) (s0 := ()) (fun _ _ => True) (fun e => e = Res.nx ()) (by omega) trivial (fun i s hi _ => by
    have hin : inR l (i : Int) := ⟨by omega, by omega⟩
    unfold slices_Equal_Rule_L1
    rw [need_of hin, need_of hin, decide_eq_true rfl, Bool.not_true, cond_false]
    exact .inl ⟨(), rfl, trivial⟩) (fun s _ => rfl)
  rw [decide_eq_true rfl, Bool.not_true, cond_false, h1, h2, bindR_nx]
theorem SameDoc_self {d : Doc} (hn : d.Nodes.length ≤ 500) (he : d.Edges.length ≤ 1000) (hb : ∀ x ∈ d.Edges, x.Bends.length ≤ 50) : ref_SameDoc d d = some true := by
  unfold ref_SameDoc
  rw [EqNode_self _ (by omega), Option.bind_some, gd_true]
  have : slices_EqualFunc_Edge d.Edges d.Edges ref_SameDoc_1 = some true := by
    unfold slices_EqualFunc_Edge
    obtain ⟨e, h1, h2⟩ := rforE_inv (n := (d.Edges.length : Int)) (step := slices_EqualFunc_Edge_L1 ref_SameDoc_1 d.Edges d.Edges) (fin := fun s => (Res.nx s : Res Unit Bool)) (s0 := ()) (fun _ _ => True) (fun e => e = Res.nx ()) (by omega) trivial (fun i s hi _ => by
      have hin : inR d.Edges (i : Int) := ⟨by omega, by omega⟩
      have hx : ref_SameDoc_1 (gx d.Edges (i : Int)) (gx d.Edges (i : Int)) = some true := by
        unfold ref_SameDoc_1
        have := hb _ (gx_mem hin)
        simp only [decide_true, Bool.and_self, gd_true]
        rw [EqPoint_self _ (by omega)]; rfl
      unfold slices_EqualFunc_Edge_L1
      rw [need_of hin, bnd_eq, need_of hin, bnd_eq, hx, Option.bind_some, Bool.not_true, cond_false]
      exact .inl ⟨(), rfl, trivial⟩) (fun s _ => rfl)
    rw [decide_eq_true rfl, Bool.not_true, cond_false, h1, h2, bindR_nx]
  rw [this]; rfl
theorem TextsOfDocs_true (d : Doc) (l : List Rule) (text : Str) (hd : fits d) (hl : fits l) : law_TextsOfDocs d l text = some true := by
  obtain ⟨e, c1, c2, c3⟩ := Check_both hd
  obtain ⟨px, pr, pat, pe, hp, hp0, hp1⟩ := Parse_any text
  -- the last part
  have last : (Option.bind (desk_Parse text) fun r10 =>
      bif decide (r10.2.2.2 = 0) then (
       Option.bind (gd ((decide (r10.2.2.1 = 0))) (ref_DocError r10.1)) fun r11 =>
       Option.bind (gd ((decide (r10.2.2.1 = 0))) (law_rulesError r10.2.1)) fun r12 =>
       Option.bind (gd ((decide (r10.2.2.1 = 0))) (ref_First [r11, r12])) fun r13 =>
       Option.bind (gd (((decide (r10.2.2.1 = 0)) && (decide (r13 = 0)))) (law_docText r10.1 r10.2.1)) fun r14 =>
       some (((decide (r10.2.2.1 = 0)) && (decide (r13 = 0))) && (decide (r14 = text))))
      else (
       Option.bind (gd ((decide ((W ((W ((r10.1.Nodes.length : Int) + (r10.1.Edges.length : Int))) + (r10.2.1.length : Int))) = 0))) (strings_Count text (⟨[10]⟩ : Str))) fun r15 =>
       Option.bind (gd ((decide ((W ((W ((r10.1.Nodes.length : Int) + (r10.1.Edges.length : Int))) + (r10.2.1.length : Int))) = 0))) (ref_In r10.2.2.1 0 r15)) fun r16 =>
       some (((decide ((W ((W ((r10.1.Nodes.length : Int) + (r10.1.Edges.length : Int))) + (r10.2.1.length : Int))) = 0)) && r16) && ((decide (r10.2.2.2 = 8)) || (decide (r10.2.2.1 = 0)))))) = some true := by
    rw [hp, Option.bind_some]
    simp only
    by_cases c : pe = 0
    · obtain ⟨a1, a2, a3, a4, a5, a6⟩ := hp0 c
      obtain ⟨e', k1, k2, k3⟩ := Check_both a2
      have hz : e' = 0 := by rw [a4] at k1; exact (Option.some.inj k1).symm
      subst hz
      have hT := docT_of (k3 rfl) a5
      have htx : (⟨docB px pr⟩ : Str) = text := by cases text; simp only at a6; rw [a6]
      rw [decide_eq_true c, cond_true, decide_eq_true a1, gd_true, k2, Option.bind_some, gd_true, rulesError_eq _ a3, Option.bind_some, gd_true, a5, First_eq (by simp), Option.bind_some,
        show firstErr [(0 : Int), 0] = 0 from rfl, decide_eq_true (rfl : (0 : Int) = 0), Bool.and_self, gd_true, docText_eq hT, Option.bind_some, htx, decide_eq_true rfl]
      rfl
    · obtain ⟨a1, a2, a3, a4, a5⟩ := hp1 c
      subst a1
      subst a2
      have hw : W (W ((((⟨[], []⟩ : Doc).Nodes.length : Nat) : Int) + (((⟨[], []⟩ : Doc).Edges.length : Nat) : Int)) + ((([] : List Rule).length : Nat) : Int)) = 0 := by
        show W (W (0 + 0) + 0) = 0
        rw [Wk (n := 0 + 0) (by decide) (by decide)]
        exact Wk (by decide) (by decide)
      have hcnt : strings_Count text (⟨[10]⟩ : Str) = some ((text.b.count 10 : Nat) : Int) := by
        unfold strings_Count
        exact need_of rfl
      rw [decide_eq_false c, cond_false, decide_eq_true hw, gd_true, hcnt, Option.bind_some, gd_true, In_eqP, Option.bind_some, decide_eq_true ⟨a3, a4⟩]
      rcases a5 with h | h
      · rw [decide_eq_true h]; rfl
      · rw [decide_eq_true h, Bool.or_true]; rfl
  have fe : firstErr [e, rulesErr l] = if e = 0 then rulesErr l else e := by
    rw [firstErr_cons, firstErr_cons, firstErr_nil]
    split
    · split
      · rename_i h; exact h.symm
      · rfl
    · rfl
  unfold law_TextsOfDocs
  by_cases c : e = 0
  · subst c
    have fe : firstErr [0, rulesErr l] = rulesErr l := by rw [fe, if_pos rfl]
    by_cases hr : rulesErr l = 0
    · have hT := docT_of (c3 rfl) hr
      have hpr := Print_text hT c1 hr
      have htx := docText_eq hT
      have hlaw1 : law_TextsOfDocs_1 d l = some ⟨docB d l⟩ := by unfold law_TextsOfDocs_1; rw [htx]; rfl
      rw [hpr, Option.bind_some, c2, Option.bind_some, rulesError_eq l hl, Option.bind_some, First_eq (by simp), Option.bind_some, fe, hr, decide_eq_true rfl, cond_true, htx, Option.bind_some, When_eq, Option.bind_some, Option.bind_some, desks_eq, Option.bind_some]
      by_cases dd : 1048576 < (docB d l).length
      · have d' : decide ((1048576 : Int) < (((⟨docB d l⟩ : Str).b.length : Nat) : Int)) = true := decide_eq_true (by show (1048576 : Int) < ((docB d l).length : Int); omega)
        rw [if_pos dd, d', if_pos rfl]
        have : law_is_string Str.nil 4 4 (law_TextsOfDocs_1 d l) = some true := by unfold law_is_string; rfl
        simp only [Bool.not_true, Bool.not_false, gd_true]
        rw [this, Option.bind_some]
        simp only [Bool.not_true, Bool.or_self, cond_false]
        rw [decide_eq_false (by decide), cond_false, bindR_nx]
        exact last
      · have d' : decide ((1048576 : Int) < (((⟨docB d l⟩ : Str).b.length : Nat) : Int)) = false := decide_eq_false (by show ¬ (1048576 : Int) < ((docB d l).length : Int); omega)
        rw [if_neg dd, d', if_neg (by decide)]
        have : law_is_string ⟨docB d l⟩ 0 0 (law_TextsOfDocs_1 d l) = some true := by
          unfold law_is_string
          rw [hlaw1]
          simp
        simp only [Bool.not_true, Bool.not_false, gd_true]
        rw [this, Option.bind_some]
        simp only [Bool.not_true, Bool.or_self, cond_false, decide_true, cond_true]
        rw [Parse_text hT c1 hr (by omega), Option.bind_some]
        simp only [decide_true, Bool.not_true, Bool.or_self, Bool.not_false, gd_true]
        rw [SameDoc_self hT.nl hT.el (fun x hx => (hT.edge x hx).few), Option.bind_some]
        simp only [Bool.not_true, Bool.or_self, Bool.not_false, gd_true]
        rw [EqRule_self l (by have := hT.rl; omega), Option.bind_some]
        simp only [Bool.not_true, Bool.or_self, cond_false, bindR_nx]
        exact last
    · have hpr : desk_Print d l = some (Str.nil, rulesErr l) := by
        unfold desk_Print
        rw [c1, Option.bind_some, CheckRules_eq]
        simp only [decide_true, Bool.not_true, cond_false, Option.bind_some]
        rw [decide_eq_false hr, Bool.not_false, cond_true]
      rw [hpr, Option.bind_some, c2, Option.bind_some, rulesError_eq l hl, Option.bind_some, First_eq (by simp), Option.bind_some, fe, decide_eq_false hr, cond_false, Option.bind_some, desks_eq, Option.bind_some]
      have : law_is_string Str.nil (rulesErr l) (rulesErr l) (law_TextsOfDocs_1 d l) = some true := by
        unfold law_is_string
        rw [decide_eq_false hr, Bool.not_false, cond_true]
        simp
      simp only [Bool.not_true, Bool.not_false, gd_true]
      rw [this, Option.bind_some]
      simp only [Bool.not_true, Bool.or_self, cond_false]
      rw [decide_eq_false hr, cond_false, bindR_nx]
      exact last
  · have fe : firstErr [e, rulesErr l] = e := by rw [fe, if_neg c]
    have hpr : desk_Print d l = some (Str.nil, e) := by
      unfold desk_Print
      rw [c1, Option.bind_some, decide_eq_false c, Bool.not_false, cond_true]
    rw [hpr, Option.bind_some, c2, Option.bind_some, rulesError_eq l hl, Option.bind_some, First_eq (by simp), Option.bind_some, fe, decide_eq_false c, cond_false, Option.bind_some, desks_eq, Option.bind_some]
    have : law_is_string Str.nil e e (law_TextsOfDocs_1 d l) = some true := by
      unfold law_is_string
      rw [decide_eq_false c, Bool.not_false, cond_true]
      simp
    simp only [Bool.not_true, Bool.not_false, gd_true]
    rw [this, Option.bind_some]
    simp only [Bool.not_true, Bool.or_self, cond_false]
    rw [decide_eq_false c, cond_false, bindR_nx]
    exact last
end Go.DB
