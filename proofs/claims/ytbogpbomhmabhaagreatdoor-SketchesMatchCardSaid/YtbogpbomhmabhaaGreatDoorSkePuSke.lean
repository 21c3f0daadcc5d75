/-
  SketchesMatch: diagrams that are drawn with signs.
-/
import Derived.Test.YtbogpbomhmabhaaGreatDoorSkePuSke6
set_option linter.unusedSimpArgs false
set_option linter.unusedVariables false
namespace Go.DB
open Go Go.RowKit

theorem sk_desks : law_desks = some true := by
  have h0 : desk_CheckRules [] = some 0 := by
    unfold desk_CheckRules
    rw [decide_eq_false (by simp), cond_false, rforE_eq (by decide)]; rfl
  have h1 : desk_CheckRules [(⟨Str.nil, Str.nil, Str.nil⟩ : Rule)] = some 5 := by
    have hn : desk_isName Str.nil = some false := by
      unfold desk_isName
      simp [need, gd]
    unfold desk_CheckRules
    rw [decide_eq_false (by simp), cond_false, rforE_eq (by decide)]
    simp only [rgoE, List.length_cons, List.length_nil]
    have : desk_CheckRules_L1 [(⟨Str.nil, Str.nil, Str.nil⟩ : Rule)] 0 () = some (Res.ab (Res.ab 5)) := by
      unfold desk_CheckRules_L1
      rw [need_of ⟨by decide, by decide⟩]
      have e : gx [(⟨Str.nil, Str.nil, Str.nil⟩ : Rule)] 0 = ⟨Str.nil, Str.nil, Str.nil⟩ := rfl
      simp only [bnd_eq]
      rw [e]
      simp only [hn]
      simp [gd]
    have en : (((0 + 1 : Nat) : Int)).toNat = 1 := rfl
    rw [en]
    simp only [rgoE]
    rw [this]; rfl
  unfold law_desks
  rw [h0, h1]; rfl
theorem sk_both {d : Doc} {w h : Int} (hc : page_Check d = some 0) (hr : Right d) (hw : 1 ≤ w ∧ w ≤ 20000) (hh : 1 ≤ h ∧ h ≤ 20000) : ∃ s e, desk_Sketch d w h = some (s, e) ∧ law_sketchOf d w h = some (s, e) ∧ (e ≠ 0 → s = Str.nil) := by
  obtain ⟨hbx, hbl⟩ := sk_boxes hr
  have hok : ∀ b ∈ bxL d.Nodes, okB b := fun b hb => bxL_mem hr hb
  unfold desk_Sketch law_sketchOf
  rw [hc, Option.bind_some, decide_eq_true rfl, Bool.not_true, cond_false, decide_eq_false (show ¬ w < 1 by omega), decide_eq_false (show ¬ 20000 < w by omega), decide_eq_false (show ¬ h < 1 by omega), decide_eq_false (show ¬ 20000 < h by omega), sk_nodes hr, hbx]
  simp only [Bool.or_self, cond_false, Option.bind_some]
  by_cases hL : bxL d.Nodes = []
  · have e : jD (bxL d.Nodes) = (0, 0, 0, 0, false) := if_pos hL
    rw [e, hL]
    exact ⟨_, _, rfl, rfl, fun _ => rfl⟩
  · have e : jD (bxL d.Nodes) = ((bdL (bxL d.Nodes)).1, (bdL (bxL d.Nodes)).2.1, (bdL (bxL d.Nodes)).2.2.1, (bdL (bxL d.Nodes)).2.2.2, true) := if_neg hL
    have hpos := List.length_pos_iff.2 hL
    have hin : inR (bxL d.Nodes) 0 := ⟨Int.le_refl _, by omega⟩
    rw [e, decide_eq_false (show ¬ ((bxL d.Nodes).length : Int) = 0 by omega)]
    simp only [Bool.not_true, cond_false, need_of hin, bnd_eq]
    rw [sk_bounds hok hbl hL, Option.bind_some]
    obtain ⟨a1, a2, a3, a4, a5, a6, a7, a8⟩ := bdL_ok hok hL
    generalize bdL (bxL d.Nodes) = B at *
    obtain ⟨L, T, r, b⟩ := B
    simp only at a1 a2 a3 a4 a5 a6 a7 a8
    simp only
    rw [need_of (by omega), need_of (by omega), Wk (n := r - L) (by omega) (by omega), Wk (n := r - L + w) (by omega) (by omega), Wk (n := r - L + w - 1) (by omega) (by omega), Wk (n := b - T) (by omega) (by omega), Wk (n := b - T + h) (by omega) (by omega), Wk (n := b - T + h - 1) (by omega) (by omega)]
    rw [Int.tdiv_eq_ediv_of_nonneg (show 0 ≤ r - L + w - 1 by omega), Int.tdiv_eq_ediv_of_nonneg (show 0 ≤ b - T + h - 1 by omega), Wk (n := L - r) (by omega) (by omega), Wk (n := T - b) (by omega) (by omega), Down_eq hw.1 (by omega) (by omega) (by omega), Option.bind_some, Down_eq hh.1 (by omega) (by omega) (by omega), Option.bind_some]
    have k1 : -((L - r) / w) = (r - L + w - 1) / w := by rw [← neg_div hw.1]; congr 2; omega
    have k2 : -((T - b) / h) = (b - T + h - 1) / h := by rw [← neg_div hh.1]; congr 2; omega
    have g1 : 0 ≤ (r - L + w - 1) / w := Int.ediv_nonneg (by omega) (by omega)
    have g2 : 0 ≤ (b - T + h - 1) / h := Int.ediv_nonneg (by omega) (by omega)
    have g3 : (r - L + w - 1) / w ≤ r - L + w - 1 := Int.ediv_le_self _ (by omega)
    have g4 : (b - T + h - 1) / h ≤ b - T + h - 1 := Int.ediv_le_self _ (by omega)
    rw [k1, k2, Wk (n := (r - L + w - 1) / w) (by omega) (by omega), Wk (n := (b - T + h - 1) / h) (by omega) (by omega)]
    obtain ⟨C, hC⟩ : ∃ C : Nat, (r - L + w - 1) / w = (C : Int) := ⟨((r - L + w - 1) / w).toNat, by omega⟩
    obtain ⟨R, hR⟩ : ∃ R : Nat, (b - T + h - 1) / h = (R : Int) := ⟨((b - T + h - 1) / h).toNat, by omega⟩
    rw [hC, hR]
    by_cases hbig : 200 < (C : Int) ∨ 200 < (R : Int)
    · have : (decide (200 < (C : Int)) || decide (200 < (R : Int))) = true := by simpa using hbig
      rw [this]
      exact ⟨_, _, rfl, rfl, fun _ => rfl⟩
    · have : (decide (200 < (C : Int)) || decide (200 < (R : Int))) = false := by simpa using hbig
      have hC2 : C ≤ 200 := by omega
      have hR2 : R ≤ 200 := by omega
      obtain ⟨l1, l2⟩ := sk_lanes hc hr
      have eR : ((R : Int)).toNat = R := by omega
      rw [this, cond_false, cond_false, need_of ⟨by omega, by omega, by omega⟩, eR, sk_dots hR2 hC2, Option.bind_some, l1, Option.bind_some]
      rw [sk_L3 (L := L) (T := T) ⟨a1, a2⟩ ⟨a5, a6⟩ hw hh hC2 hR2 rfl rfl (fun p hp => lanesD_ok hc hr hp) l2, Option.bind_some]
      have hF : page_Finder d = some (fun x0 => page_Finder_1 x0 (ordT d.Nodes) d) := by
        unfold page_Finder
        rw [hr.viewOf, Option.bind_some, Option.bind_some, order_eq hr]; rfl
      rw [hF, Option.bind_some, sk_L6 hr (L := L) (T := T) ⟨a1, a2⟩ ⟨a5, a6⟩ hw hh hC2 hR2 rfl rfl, Option.bind_some, sk_text hC2 hR2, Option.bind_some, sk_lawText hc hr (L := L) (T := T) ⟨a1, a2⟩ ⟨a5, a6⟩ hw hh hC2 hR2 rfl rfl, Option.bind_some]
      have hl := rowsB_len (d := d) (L := L) (T := T) (w := w) (h := h) hC2 R
      unfold strings_Builder_String
      rw [need_of (by simp only; omega), Option.bind_some]
      exact ⟨_, _, rfl, rfl, fun q => absurd rfl q⟩
theorem SketchesMatch_true (d : Doc) (w : Int) (h : Int) (hd : fits d) : law_SketchesMatch d w h = some true := by
  obtain ⟨e, c1, c2, hr⟩ := Check_both hd
  have hwant : (Option.bind (gd (!(!decide (1 ≤ w ∧ w ≤ 20000))) (some (decide (1 ≤ h ∧ h ≤ 20000)))) fun r4 => Option.bind (some (if ((!decide (1 ≤ w ∧ w ≤ 20000)) || (!r4)) = true then (3 : Int) else 0)) fun r5 => ref_First [e, r5]) = some (firstErr [e, if (1 ≤ w ∧ w ≤ 20000) ∧ 1 ≤ h ∧ h ≤ 20000 then 0 else 3]) := by
    by_cases hw : 1 ≤ w ∧ w ≤ 20000
    · rw [decide_eq_true hw]
      simp only [Bool.not_true, Bool.not_false, gd_true, Option.bind_some, Bool.false_or]
      rw [First_eq (by simp)]
      by_cases hh : 1 ≤ h ∧ h ≤ 20000
      · have c : (1 ≤ w ∧ w ≤ 20000) ∧ 1 ≤ h ∧ h ≤ 20000 := ⟨hw, hh⟩
        rw [decide_eq_true hh]
        simp only [c, and_self, if_true]; rfl
      · have c : ¬ ((1 ≤ w ∧ w ≤ 20000) ∧ 1 ≤ h ∧ h ≤ 20000) := fun q => hh q.2
        rw [decide_eq_false hh]
        simp only [c, if_false]; rfl
    · rw [decide_eq_false hw]
      simp only [Bool.not_true, Bool.not_false, gd_false, Option.bind_some, Bool.true_or]
      have c : ¬ ((1 ≤ w ∧ w ≤ 20000) ∧ 1 ≤ h ∧ h ≤ 20000) := fun q => hw q.1
      rw [First_eq (by simp)]
      simp only [c, if_false]; rfl
  have hmain : ∀ W : Int, ∀ s : Str, desk_Sketch d w h = some (s, W) → W ≠ 0 → s = Str.nil → firstErr [e, if (1 ≤ w ∧ w ≤ 20000) ∧ 1 ≤ h ∧ h ≤ 20000 then 0 else 3] = W → law_SketchesMatch d w h = some true := fun W s hs hW hn hq => by
    unfold law_SketchesMatch
    rw [hs, c2, In_eq, In_eq, sk_desks]
    simp only [Option.bind_some, When_eq] at hwant ⊢
    obtain ⟨r4, q1, q2⟩ := Option.bind_eq_some_iff.1 hwant
    rw [q1, Option.bind_some, q2, hq, Option.bind_some, decide_eq_false hW, cond_false, Option.bind_some, hn]
    simp only [gd_true]
    rw [isS_bad hW]; rfl
  have hD : ∃ s, desk_Sketch d w h = some (s, firstErr [e, if (1 ≤ w ∧ w ≤ 20000) ∧ 1 ≤ h ∧ h ≤ 20000 then 0 else 3]) ∧ firstErr [e, if (1 ≤ w ∧ w ≤ 20000) ∧ 1 ≤ h ∧ h ≤ 20000 then 0 else 3] ≠ 0 ∧ s = Str.nil ∨ firstErr [e, if (1 ≤ w ∧ w ≤ 20000) ∧ 1 ≤ h ∧ h ≤ 20000 then 0 else 3] = 0 := by
    by_cases he : e = 0
    case neg =>
      have h1 : firstErr [e, if (1 ≤ w ∧ w ≤ 20000) ∧ 1 ≤ h ∧ h ≤ 20000 then 0 else 3] = e := by simp [he]
      rw [h1]
      refine ⟨Str.nil, .inl ⟨?_, he, rfl⟩⟩
      unfold desk_Sketch
      rw [c1, Option.bind_some, decide_eq_false he]; rfl
    subst he
    by_cases hq : (1 ≤ w ∧ w ≤ 20000) ∧ 1 ≤ h ∧ h ≤ 20000
    · rw [if_pos hq]
      exact ⟨Str.nil, .inr rfl⟩
    · rw [if_neg hq]
      refine ⟨Str.nil, .inl ⟨?_, by decide, rfl⟩⟩
      unfold desk_Sketch
      rw [c1, Option.bind_some, decide_eq_true rfl, Bool.not_true, cond_false]
      have : (((decide (w < 1)) || (decide (20000 < w))) || (decide (h < 1)) || (decide (20000 < h))) = true := by
        simp only [Bool.or_eq_true, decide_eq_true_eq]; omega
      rw [this]; rfl
  obtain ⟨s, ⟨q1, q2, q3⟩ | q1⟩ := hD
  · exact hmain _ s q1 q2 q3 rfl
  · have hz : e = 0 ∧ ((1 ≤ w ∧ w ≤ 20000) ∧ 1 ≤ h ∧ h ≤ 20000) := by
      have := firstErr_zero.1 q1
      have h1 := this e (by simp)
      have h2 := this (if (1 ≤ w ∧ w ≤ 20000) ∧ 1 ≤ h ∧ h ≤ 20000 then 0 else 3) (by simp)
      refine ⟨h1, ?_⟩
      apply Classical.byContradiction; intro hc
      rw [if_neg hc] at h2; cases h2
    obtain ⟨s', W, d1, d2, d3⟩ := sk_both (by rw [c1, hz.1]) (hr hz.1) hz.2.1 hz.2.2
    by_cases hW : W = 0
    · subst hW
      unfold law_SketchesMatch
      rw [d1, c2, In_eq, In_eq, sk_desks]
      simp only [Option.bind_some, When_eq] at hwant ⊢
      obtain ⟨r4, p1, p2⟩ := Option.bind_eq_some_iff.1 hwant
      rw [p1, Option.bind_some, p2, q1, Option.bind_some, decide_eq_true rfl, cond_true, d2]
      simp only [Option.bind_some, gd_true, law_SketchesMatch_1]
      rw [isS_ok]; rfl
    · have hs := d3 hW
      unfold law_SketchesMatch
      rw [d1, c2, In_eq, In_eq, sk_desks]
      simp only [Option.bind_some, When_eq] at hwant ⊢
      obtain ⟨r4, p1, p2⟩ := Option.bind_eq_some_iff.1 hwant
      rw [p1, Option.bind_some, p2, q1, Option.bind_some, decide_eq_true rfl, cond_true, d2]
      simp only [Option.bind_some, gd_true]
      rw [hs, isS_bad hW]; rfl
end Go.DB
