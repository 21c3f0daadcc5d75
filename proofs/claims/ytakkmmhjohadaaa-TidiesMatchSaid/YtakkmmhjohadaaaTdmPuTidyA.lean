/-
  The code draws a tree: what Tidy gives.
-/
import Derived.Test.YtakkmmhjohadaaaTdmPuTidy9
set_option linter.unusedSimpArgs false
set_option linter.unusedVariables false
namespace Go.DB
open Go Go.RowKit

/-- The drawing of a tree: l is what is farthest left. -/
structure Drawn (t : List Branch) (m : Nat) (gap gapy : Int) (p : List Point) (l : Int) : Prop where
  dw : Dw t m gap
  len : p.length = t.length
  at_ : ∀ q, ∀ v ∈ lev (kidsOf t) q, gx p v = ⟨AX t m gap v - l, Yq t gapy q⟩
  low : ∀ q, ∀ v ∈ lev (kidsOf t) q, l ≤ AX t m gap v
  is_ : ∃ q, ∃ v ∈ lev (kidsOf t) q, AX t m gap v = l

theorem Tidy_eqR (t : List Branch) (gap gapy : Int) (ht : fits t) : (∃ e, e ≠ 0 ∧ tree_Tidy t gap gapy = some ([], e) ∧ (tree_Check t = some 0 → gap < 0 ∨ 1000 < gap ∨ gapy < 0 ∨ 1000 < gapy)) ∨
    ∃ m p l, tree_Tidy t gap gapy = some (p, 0) ∧ tree_Check t = some 0 ∧ 0 ≤ gapy ∧ gapy ≤ 1000 ∧ Drawn t m gap gapy p l := by
  obtain ⟨e, he, hok⟩ := Check_ok t ht
  unfold tree_Tidy
  rw [he, bind_sm]
  by_cases h0 : ¬ e = 0
  · left
    have : (!decide (e = 0)) = true := by simp [h0]
    simp only [this, cond_true]
    exact ⟨e, h0, rfl, fun h1 => by first | exact absurd (Option.some.inj h1) h0 | (rw [he] at h1; exact absurd (Option.some.inj h1) h0)⟩
  have h0 : e = 0 := Classical.not_not.1 h0
  subst h0
  obtain ⟨m, hT⟩ := hok rfl
  simp only [decide_true, Bool.not_true, cond_false]
  by_cases hg : gap < 0 ∨ 1000 < gap ∨ gapy < 0 ∨ 1000 < gapy
  · left
    have e1 : ((((decide (gap < 0)) || (decide (1000 < gap))) || (decide (gapy < 0))) || (decide (1000 < gapy))) = true := by simp; omega
    simp only [e1, cond_true]
    exact ⟨3, by decide, rfl, fun _ => hg⟩
  right
  have e1 : ((((decide (gap < 0)) || (decide (1000 < gap))) || (decide (gapy < 0))) || (decide (1000 < gapy))) = false := by simp; omega
  have h : Dw t m gap := ⟨hT, by omega, by omega⟩
  have hp := hT.pos
  have hl := hT.len
  simp only [e1, cond_false, bnd_eq]
  obtain ⟨d, d1, d2⟩ := draw_root h
  rw [need_of (by omega), need_of (by omega)]
  simp only [Int.toNat_natCast]
  rw [d1]
  simp only [bind_sm]
  rw [need_of (by omega), need_of (by omega), hT.levels]
  simp only [bind_sm]
  obtain ⟨s, s1, s2⟩ := tidy_levels (gapy := gapy) h (by omega) (by omega) (r1 := (SK t m gap 0, d)) d2
  rw [s1]
  simp only [bind_sm]
  obtain ⟨_, a2, a3, a4, _⟩ := s2
  have h0 : (0 : Int) ∈ lev (kidsOf t) 0 := by simp [lev]
  have hm1 := hT.m1
  have hin : inR s.2.1 (0 : Int) := ⟨by omega, by rw [a2]; omega⟩
  rw [need_of hin, a4 0 (by omega) 0 h0]
  simp only
  -- the least one
  have hnode : ∀ j : Nat, j < t.length → ∃ q, q < m ∧ (j : Int) ∈ lev (kidsOf t) q := fun j hj => hT.mem (by omega) (by omega)
  have hlv : ∀ q, ∀ v ∈ lev (kidsOf t) q, q < m := fun q v hv => by
    rcases Nat.lt_or_ge q m with h5 | h5
    · exact h5
    · have := lev_nil hT.nil (q - m)
      rw [show m + (q - m) = q by omega] at this
      rw [this] at hv; cases hv
  obtain ⟨l, l1, l2, l3⟩ := rfor_inv (n := (s.2.1.length : Int)) (step := tree_Tidy_L4 s) (s0 := AX t m gap 0) (fun i l => (∀ j : Nat, j < i → l ≤ AX t m gap (j : Int)) ∧ ∃ q, ∃ v ∈ lev (kidsOf t) q, AX t m gap v = l) (by omega) ⟨fun j hj => by omega, 0, 0, h0, rfl⟩ (fun i l hi hI => by
    have hi' : i < t.length := by omega
    obtain ⟨q, q1, q2⟩ := hnode i hi'
    unfold tree_Tidy_L4
    rw [need_of ⟨by omega, hi⟩, a4 q q1 _ q2]
    simp only [bnd_eq]
    refine ⟨_, rfl, fun j hj => ?_, ?_⟩
    · rcases Nat.lt_or_eq_of_le (Nat.lt_succ_iff.1 hj) with hj | hj
      · have := hI.1 j hj; omega
      · subst hj; omega
    · by_cases hc : l ≤ AX t m gap (i : Int)
      · obtain ⟨q', v, hv, e⟩ := hI.2; exact ⟨q', v, hv, by omega⟩
      · exact ⟨q, _, q2, by omega⟩)
  rw [l1]
  simp only [bind_sm]
  simp only [Int.toNat_natCast] at l2
  have hlb : -2000000 ≤ l ∧ l ≤ 2000000 := by
    obtain ⟨q, v, hv, e⟩ := l3
    have := (AX_dr h).2 q v hv; omega
  obtain ⟨o, o1, o2, o3, o4⟩ := rfor_inv (n := (s.2.1.length : Int)) (step := tree_Tidy_L5 l) (s0 := s.2.1) (fun i o => o.length = t.length ∧ (∀ q, q < m → ∀ v ∈ lev (kidsOf t) q, v < i → gx o v = ⟨AX t m gap v - l, Yq t gapy q⟩) ∧ ∀ q, q < m → ∀ v ∈ lev (kidsOf t) q, (i : Int) ≤ v → gx o v = ⟨AX t m gap v, Yq t gapy q⟩) (by omega)
    ⟨a2, fun q hq v hv h1 => by have := hT.fo.lev_in hv; omega, fun q hq v hv _ => a4 q hq v hv⟩ (fun i o hi hI => by
    obtain ⟨i1, i2, i3⟩ := hI
    have hi' : i < t.length := by omega
    obtain ⟨q, q1, q2⟩ := hnode i hi'
    have hb := (AX_dr h).2 q _ q2
    have hoi : inR o (i : Int) := ⟨by omega, by omega⟩
    unfold tree_Tidy_L5
    rw [need_of hoi, i3 q q1 _ q2 (Int.le_refl _)]
    simp only [bnd_eq]
    rw [need_of hoi, Wk (by omega) (by omega)]
    refine ⟨_, rfl, by rw [List.length_set]; exact i1, fun p hp v hv hvi => ?_, fun p hp v hv hvi => ?_⟩
    · have hvr := hT.fo.lev_in hv
      rw [gx_setB hoi hvr.1]
      by_cases e : v = (i : Int)
      · subst e
        have := hT.fo.lev_one hv q2
        subst this
        rw [if_pos rfl]
      · rw [if_neg e]; exact i2 p hp v hv (by omega)
    · have hvr := hT.fo.lev_in hv
      rw [gx_setB hoi hvr.1, if_neg (by omega)]
      exact i3 p hp v hv (by omega))
  rw [o1]
  simp only [Int.toNat_natCast] at o3
  refine ⟨m, o, l, rfl, (by first | exact he | trivial), by omega, by omega, h, o2, fun q v hv => ?_, fun q v hv => ?_, l3⟩
  · have hvr := hT.fo.lev_in hv
    exact o3 q (hlv q v hv) v hv (by omega)
  · have hvr := hT.fo.lev_in hv
    have := l2 v.toNat (by omega)
    rw [show ((v.toNat : Nat) : Int) = v by omega] at this
    exact this

theorem Tidy_eq (t : List Branch) (gap gapy : Int) (ht : fits t) : (∃ e, e ≠ 0 ∧ tree_Tidy t gap gapy = some ([], e)) ∨
    ∃ m p l, tree_Tidy t gap gapy = some (p, 0) ∧ tree_Check t = some 0 ∧ 0 ≤ gapy ∧ gapy ≤ 1000 ∧ Drawn t m gap gapy p l :=
  (Tidy_eqR t gap gapy ht).imp (fun ⟨e, h1, h2, _⟩ => ⟨e, h1, h2⟩) id

end Go.DB
