/-
  Moves there and back, groups and their ends: the law.
-/
import Derived.Test.YtclcheggnlhamaaGreatDoorMGBPuBack1
import Derived.Test.YtclcheggnlhamaaGreatDoorMGBPuBack2
import Derived.Test.YtclcheggnlhamaaGreatDoorMGBPuMove7
set_option linter.unusedSimpArgs false
set_option linter.unusedVariables false
namespace Go.DB
open Go Go.RowKit

theorem lockD_back {d : Doc} (h : Right d) {ids : List Str} {dx dy : Int} (hl : lockD d ids dx dy = false) : lockD (docA d ids dx dy) ids (-dx) (-dy) = false := by
  unfold lockD at *
  rw [Bool.and_eq_false_iff] at *
  have e : decide (-dx = 0) = decide (dx = 0) ∧ decide (-dy = 0) = decide (dy = 0) := ⟨by rw [decide_eq_decide]; omega, by rw [decide_eq_decide]; omega⟩
  rw [e.1, e.2]
  rcases hl with hl | hl
  · exact .inl hl
  · right
    rw [List.any_eq_false] at *
    intro j hj
    have hj' : j < d.Nodes.length := by rw [docA_len.1] at hj; simpa using hj
    have := hl j (by simpa using hj')
    rw [docA_alike.tch h.parIn ids hj']
    have hk : (gx (docA d ids dx dy).Nodes (j : Int)).Locked = (gx d.Nodes (j : Int)).Locked := by
      rw [docA_gx hj']
      split
      · exact mvN_same.2.2.2.2.2
      · rfl
    rw [hk]; exact this
theorem Move_there {d : Doc} (hf : fits d) (hck : page_Check d = some 0) (h : Right d) {ids : List Str} (hi : (ids.length : Int) ≤ 9223372036854775807) (hs : selErr d.Nodes ids = 0) (dx dy : Int) :
    ∃ r : Doc × Int, page_Move d ids dx dy = some r ∧
      (r.2 = 0 → r.1 = docA d ids dx dy ∧ Right (docA d ids dx dy) ∧ page_Check (docA d ids dx dy) = some 0 ∧ lockD d ids dx dy = false ∧ (-2000000 ≤ dx ∧ dx ≤ 2000000) ∧ -2000000 ≤ dy ∧ dy ≤ 2000000) ∧
      (lockD d ids dx dy = false → (-2000000 ≤ dx ∧ dx ≤ 2000000) ∧ -2000000 ≤ dy ∧ dy ≤ 2000000 → page_Check (docA d ids dx dy) = some 0 → r = (docA d ids dx dy, 0)) := by
  obtain ⟨r, r1, r2, r3⟩ := all_prog hf h ids dx dy
  refine ⟨r, ?_, r2, r3⟩
  unfold page_Move
  rw [bnd_eq, selected_eq hck h hi, if_pos hs, Option.bind_some]
  simp only [decide_true, Bool.not_true, cond_false, Option.bind_some]
  rw [r1]; rfl
theorem Move_back {d : Doc} (hf : fits d) (hck : page_Check d = some 0) (h : Right d) {ids : List Str} (hi : (ids.length : Int) ≤ 9223372036854775807) (hs : selErr d.Nodes ids = 0) {dx dy : Int}
    (hA : Right (docA d ids dx dy)) (hcA : page_Check (docA d ids dx dy) = some 0) (hl : lockD d ids dx dy = false) (hb : (-2000000 ≤ dx ∧ dx ≤ 2000000) ∧ -2000000 ≤ dy ∧ dy ≤ 2000000) :
    page_Move (docA d ids dx dy) ids (W (-dx)) (W (-dy)) = some (d, 0) := by
  rw [W_neg2 hb.1, W_neg2 hb.2]
  obtain ⟨r, r1, r2, r3⟩ := Move_there (fits_docA hf ids dx dy) hcA hA hi (by rw [docA_alike.selErr]; exact hs) (-dx) (-dy)
  rw [r1, r3 (lockD_back h hl) (by omega) (by rw [docA_back hf h]; exact hck), docA_back hf h]
/-- What is not touched stays. -/
theorem stays_eq {d x : Doc} (h : Right d) {ids : List Str} {m : GMap Str Bool} (hm : ∀ (j : Nat) (hj : j < d.Nodes.length), m.getD d.Nodes[j].Id false = tchB d.Nodes ids d.Nodes[j])
    (ha : Alike d.Nodes x.Nodes) (hx : ∀ j : Nat, j < d.Nodes.length → tchB d.Nodes ids (gx d.Nodes (j : Int)) = false → gx x.Nodes (j : Int) = gx d.Nodes (j : Int)) : law_MovesGoBack_1 x d m = some true := by
  have hnl := h.nl
  unfold law_MovesGoBack_1
  rw [ha.1, decide_eq_true rfl, gd_true, ContainsFunc_Node_eq d.Nodes (fun x0 => law_MovesGoBack_1_1 x0 m x) (fun _ => false) (by omega) (fun n hn => by
    obtain ⟨j, hj, rfl⟩ := List.mem_iff_getElem.1 hn
    unfold law_MovesGoBack_1_1
    rw [hm j hj, NodeAt_eq (by rw [ha.1]; omega), ha.nodeAt, nodeAt_of h.hd hj]
    cases ht : tchB d.Nodes ids d.Nodes[j] with
    | true =>
      simp only [Bool.not_true, gd_false, Option.bind_some]
      rw [need_of (fun h => by cases h)]; rfl
    | false =>
      simp only [Bool.not_false, gd_true, Option.bind_some]
      rw [need_of (fun _ => ⟨by omega, by rw [ha.1]; omega⟩), hx j hj (by rw [gx_nat hj]; exact ht), gx_nat hj]
      simp), Option.bind_some]
  simp
theorem docA_stays {d : Doc} {ids : List Str} {dx dy : Int} : ∀ j : Nat, j < d.Nodes.length → tchB d.Nodes ids (gx d.Nodes (j : Int)) = false → gx (docA d ids dx dy).Nodes (j : Int) = gx d.Nodes (j : Int) := fun j hj ht => by
  rw [docA_gx hj, ht]; rfl
theorem docM_stays {d : Doc} (h : Right d) {ids : List Str} {f : Int → Int × Int} : ∀ j : Nat, j < d.Nodes.length → tchB d.Nodes ids (gx d.Nodes (j : Int)) = false → gx (docM d (rootL d.Nodes ids) f).Nodes (j : Int) = gx d.Nodes (j : Int) := fun j hj ht => by
  rw [gx_nat (by rw [docM_len.1]; exact hj), docM_at hj, gx_nat hj]
  have : rootOf d (rootL d.Nodes ids) j = none := by
    unfold rootOf
    rw [List.find?_eq_none]
    intro k hk hsb
    rw [gx_nat hj, ← roots_tch h ids hj, List.any_eq_false] at ht
    exact ht k hk hsb
  rw [this]; rfl

theorem MovesGoBack_true (d : Doc) (ids : List Str) (dx dy how : Int) (id : Str) (hd : fits d) (hids : fits ids) (hid : fits id) : law_MovesGoBack d ids dx dy how id = some true := by
  obtain ⟨e, c1, c2, hr⟩ := Check_both hd
  have hi : (ids.length : Int) ≤ 9223372036854775807 := by have : ids.length ≤ 9223372036854775807 := hids.1; omega
  unfold law_MovesGoBack law_selected
  rw [c2, Option.bind_some]
  by_cases he : e = 0
  case neg =>
    rw [decide_eq_false he]
    simp only [Bool.not_false, cond_true, Option.bind_some]
    rw [decide_eq_false he]
    simp only [Bool.not_false, cond_true]
    rw [pages_eq]; rfl
  subst he
  have h := hr rfl
  have hnl := h.nl
  have hel := h.el
  simp only [decide_true, Bool.not_true, cond_false]
  rw [SelectionError_eq hnl hi, Option.bind_some, Option.bind_some]
  by_cases hs : selErr d.Nodes ids = 0
  case neg =>
    rw [decide_eq_false hs]
    simp only [Bool.not_false, cond_true]
    rw [pages_eq]; rfl
  rw [hs]
  simp only [decide_true, Bool.not_true, cond_false]
  obtain ⟨m, hm, hmt⟩ := Touched_eq h hi
  obtain ⟨r, r1, r2, _⟩ := Move_there hd c1 h hi hs dx dy
  have hsame : ref_SameDoc d d = some true := SameDoc_refl (by omega) (by omega) (fun x hx => by have := h.bends hx; omega)
  rw [hm, Option.bind_some, r1, Option.bind_some]
  -- the move
  have hmv : (bif decide (r.2 = 0) then (
      Option.bind (page_Move r.1 ids (W (-dx)) (W (-dy))) fun r5 =>
      Option.bind (gd (!(!decide (r5.2 = 0))) (ref_SameDoc r5.1 d)) fun r6 =>
      Option.bind (gd (!((!decide (r5.2 = 0)) || (!r6))) ((fun x0 => law_MovesGoBack_1 x0 d m) r.1)) fun r7 =>
      bif ((!decide (r5.2 = 0)) || (!r6)) || (!r7) then (
       some (Res.ab false))
      else (
       some (Res.nx ())))
     else (
      some (Res.nx ())) : Option (Res Unit Bool)) = some (Res.nx ()) := by
    by_cases h0 : r.2 = 0
    · obtain ⟨q1, q2, q3, q4, q5⟩ := r2 h0
      rw [decide_eq_true h0, cond_true, q1, Move_back hd c1 h hi hs q2 q3 q4 q5, Option.bind_some]
      simp only [decide_true, Bool.not_true, Bool.not_false, gd_true]
      rw [hsame, Option.bind_some]
      simp only [Bool.not_true, Bool.or_false, Bool.not_false, gd_true]
      rw [stays_eq h hmt docA_alike docA_stays]; rfl
    · rw [decide_eq_false h0]; rfl
  rw [hmv]
  show Option.bind (page_Align d ids how) _ = _
  obtain ⟨a, a1, a2, a3⟩ := Align_prog hd c1 h hi hs how
  rw [a1, Option.bind_some]
  have hal : ∃ r9, gd (decide (a.2 = 0)) ((fun x0 => law_MovesGoBack_1 x0 d m) a.1) = some r9 ∧ (decide (a.2 = 0) && !r9) = false := by
    by_cases h0 : a.2 = 0
    · obtain ⟨hb, _, _, _, q1, _⟩ := a3 h0
      rw [decide_eq_true h0, gd_true]
      refine ⟨true, ?_, rfl⟩
      simp only
      rw [q1, stays_eq h hmt docM_alike (docM_stays h)]
    · rw [decide_eq_false h0]; exact ⟨default, rfl, rfl⟩
  obtain ⟨r9, b1, b2⟩ := hal
  rw [b1, Option.bind_some, b2, cond_false]
  obtain ⟨s, s1, s2, s3⟩ := Spread_prog hd c1 h hi hs (decide (how.tmod 2 = 0))
  rw [s1, Option.bind_some]
  have hsp : ∃ r11, gd (decide (s.2 = 0)) ((fun x0 => law_MovesGoBack_1 x0 d m) s.1) = some r11 ∧ (decide (s.2 = 0) && !r11) = false := by
    by_cases h0 : s.2 = 0
    · obtain ⟨M, _, _, _, q1, _⟩ := s3 h0
      rw [decide_eq_true h0, gd_true]
      refine ⟨true, ?_, rfl⟩
      simp only
      rw [q1, stays_eq h hmt docM_alike (docM_stays h)]
    · rw [decide_eq_false h0]; exact ⟨default, rfl, rfl⟩
  obtain ⟨r11, b3, b4⟩ := hsp
  rw [b3, Option.bind_some, b4, cond_false, Group_eq c1 h hi hs id]
  by_cases hR : rootL d.Nodes ids = []
  · rw [if_pos hR]; rfl
  rw [if_neg hR]
  cases hany : (rootL d.Nodes ids).any (fun k => !decide ((gx d.Nodes k).Parent = parR d (rootL d.Nodes ids))) with
  | true => rfl
  | false =>
    simp only [Bool.false_eq_true, if_false]
    cases hnm : nameB id with
    | false => rfl
    | true =>
      simp only [Bool.true_eq_false, if_false]
      cases hno : hasId d id with
      | true => rfl
      | false =>
        simp only [Bool.false_eq_true, if_false]
        have hfp : fits (parR d (rootL d.Nodes ids)) := by
          have hp := List.length_pos_iff.2 hR
          obtain ⟨j0, hj0, e0, _⟩ := rootL_mem (gx_mem (l := rootL d.Nodes ids) (k := 0) ⟨by omega, by omega⟩)
          unfold parR
          rw [e0]
          exact (hd.1.2 _ (gx_mem (l := d.Nodes) (k := (j0 : Int)) ⟨by omega, by omega⟩)).2.2.2.2.2.1
        obtain ⟨g, g1, g2, g3⟩ := Check_both (fits_grp hd h hid hfp (R := rootL d.Nodes ids) (k := lastR (rootL d.Nodes ids)))
        rw [g1, Option.bind_some, Option.bind_some]
        by_cases h0 : g = 0
        · subst h0
          rw [if_pos rfl]
          simp only [decide_true, Bool.not_true, cond_false]
          rw [Group_back hd h hid hR (fun k hk => by
            rw [List.any_eq_false] at hany
            have := hany k hk
            simpa using this) hnm hno g1, Option.bind_some]
          simp only [decide_true, gd_true]
          rw [hsame]; rfl
        · rw [if_neg h0]
          simp only
          rw [decide_eq_false h0]; rfl
end Go.DB
