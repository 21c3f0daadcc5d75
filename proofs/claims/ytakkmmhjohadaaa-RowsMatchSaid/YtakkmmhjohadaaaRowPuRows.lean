/-
  Boxes in rows: the law in plain words.
-/
import Derived.Test.YtakkmmhjohadaaaRowPuRef
set_option linter.unusedSimpArgs false
set_option linter.unusedVariables false
namespace Go.DB
open Go Go.RowKit

theorem trees_eq : law_trees = some true := by
  have h0 : tree_Check ([] : List Branch) = some 9 := by unfold tree_Check; simp
  have hl : tree_levels [(⟨1, 1, ([] : (List Int))⟩ : Branch)] = some [[0]] := by
    have h2 : tree_levels_L2 [(⟨1, 1, ([] : (List Int))⟩ : Branch)] ([], [0]) 0 [] = some [] := by
      unfold tree_levels_L2
      rw [need_of (by simp [inR_iff]), need_of (by simp [inR_iff, gx]), need_of (by simp [room_iff, gx])]
      simp [gx]
    have b1 : tree_levels_L1 [(⟨1, 1, ([] : (List Int))⟩ : Branch)] ([], [0]) = some (.again ([[0]], [])) := by
      unfold tree_levels_L1
      simp only [bnd_eq]
      rw [need_of (by simp [room_iff]), rfor_eq (by simp)]
      simp [rgo, h2]
    have b2 : tree_levels_L1 [(⟨1, 1, ([] : (List Int))⟩ : Branch)] ([[0]], []) = some (.done [[0]]) := by
      unfold tree_levels_L1; simp
    unfold tree_levels
    simp only [bnd_eq]
    rw [loop_eq, b1]
    simp only
    rw [loop_eq, b2]
    rfl
  have h1 : tree_Check [(⟨1, 1, ([] : (List Int))⟩ : Branch)] = some 0 := by
    unfold tree_Check
    simp only [bnd_eq, hl, bind_sm]
    simp only [List.length_cons, List.length_nil, Nat.zero_add, show decide (((1 : Nat) : Int) = 0) = false from rfl, show decide ((300 : Int) < ((1 : Nat) : Int)) = false from rfl, cond_false]
    rw [need_of (by decide), rforE_eq (by decide)]
    have h2 : tree_Check_L1 [(⟨1, 1, ([] : (List Int))⟩ : Branch)] 0 (List.replicate ((1 : Nat) : Int).toNat false) = some (Res.nx [false]) := by
      unfold tree_Check_L1 tree_Check_1
      rw [need_of (by simp [inR_iff])]
      simp only [bnd_eq, gx, bind_sm]
      simp only [show ((0 : Int).toNat) = 0 from rfl, List.getElem?_cons_zero, Option.getD_some]
      simp only [show ((decide ((1 : Int) ≤ 1)) && (decide ((1 : Int) ≤ 1000))) = true from rfl, bind_sm, Bool.not_true, Bool.not_false, gd_true, Bool.or_self, cond_false]
      rw [rforE_eq (by decide)]
      rfl
    simp only [show (((1 : Nat) : Int)).toNat = 1 from rfl] at h2 ⊢
    simp only [rgoE, h2, bindR_nx]
    rw [need_of (by simp [segR_iff]), Contains_bool_eq _ _ (by decide)]
    simp only [seg, bind_sm]
    rw [rfor_eq (by decide)]
    unfold tree_Check_L3
    simp only [show (((1 : Nat) : Int)).toNat = 1 from rfl, rgo, bnd_eq]
    rw [need_of (by simp [inR_iff])]
    simp only [gx, show ((0 : Int).toNat) = 0 from rfl, List.getElem?_cons_zero, Option.getD_some, List.length_cons, List.length_nil, Nat.zero_add]
    rw [Wk (by decide) (by decide)]
    simp
  unfold law_trees
  simp [h0, h1]

def sizeOut (p : Point) : Bool := !decide (1 ≤ p.X ∧ p.X ≤ 20000) || !decide (1 ≤ p.Y ∧ p.Y ≤ 20000)
def rowsErr (sizes : List Point) (width gap : Int) : Int :=
  if 1000 < sizes.length then 4 else if sizes.any sizeOut = true ∨ ¬ (1 ≤ width ∧ width ≤ 200000) ∨ ¬ (0 ≤ gap ∧ gap ≤ 1000) then 3 else if sizes.any (fun p => decide (width < p.X)) = true then 14 else 0

theorem RowsError_eq (sizes : List Point) (width gap : Int) : ref_RowsError sizes width gap = some (rowsErr sizes width gap) := by
  unfold ref_RowsError rowsErr
  by_cases h1 : 1000 < sizes.length
  · have : (1000 : Int) < sizes.length := by omega
    simp [h1, this]
  · have h1' : ¬ (1000 : Int) < sizes.length := by omega
    simp only [h1, h1', decide_false, cond_false, if_false]
    rw [ContainsFunc_Point_eq sizes ref_RowsError_1 sizeOut (by omega) (fun x _ => by
      unfold ref_RowsError_1 sizeOut
      simp only [In_eq, bind_sm]
      by_cases a : 1 ≤ x.X ∧ x.X ≤ 20000 <;> simp [a])]
    rw [ContainsFunc_Point_eq sizes (fun x0 => ref_RowsError_2 x0 width) (fun p => decide (width < p.X)) (by omega) (fun x _ => rfl)]
    simp only [bind_sm, In_eq, When_eq]
    cases ha : sizes.any sizeOut with
    | true => simp
    | false =>
      by_cases hw : 1 ≤ width ∧ width ≤ 200000
      · by_cases hg : 0 ≤ gap ∧ gap ≤ 1000
        · simp [hw, hg]
        · simp only [hw, hg, decide_true, decide_false, Bool.not_false, gd_true, bind_sm, Bool.not_true, Bool.or_self, Bool.false_or, cond_true]
          simp
      · simp only [hw, decide_false, Bool.not_false, gd_true, bind_sm, Bool.or_true, Bool.not_true, gd_false, Bool.true_or, cond_true]
        simp [hw]

/-- How the two ways to put boxes into rows stand to each other behind i boxes. -/
def RowsI (width gap : Int) (i : Nat) (s t : List Point × Int × Int × Int) : Prop :=
  t.1 = s.1 ∧ s.1.length = i ∧ (i = 0 → s.2 = (0, 0, 0) ∧ t.2 = (0, 0, 0)) ∧
  (0 < i → 1 ≤ s.2.1 ∧ s.2.1 ≤ width ∧ t.2.1 = s.2.1 + gap ∧ t.2.2.1 = s.2.2.1 ∧ s.2.2.2 = s.2.2.1 + t.2.2.2 ∧ 1 ≤ t.2.2.2 ∧ t.2.2.2 ≤ 20000 ∧ 0 ≤ s.2.2.1 ∧ s.2.2.2 ≤ i * 21000)

theorem Rows_both {sizes : List Point} {width gap : Int} (h : rowsErr sizes width gap = 0) : ∃ s t : List Point × Int × Int × Int,
    rfor (sizes.length : Int) (tree_Rows_L2 gap sizes width) (([] : List Point), 0, 0, 0) = some s ∧ rfor (sizes.length : Int) (ref_RowsOf_L1 gap sizes width) (([] : List Point), 0, 0, 0) = some t ∧ RowsI width gap sizes.length s t := by
  unfold rowsErr at h
  by_cases h1 : 1000 < sizes.length
  · simp [h1] at h
  rw [if_neg h1] at h
  by_cases h2 : sizes.any sizeOut = true ∨ ¬ (1 ≤ width ∧ width ≤ 200000) ∨ ¬ (0 ≤ gap ∧ gap ≤ 1000)
  · rw [if_pos h2] at h; omega
  rw [if_neg h2] at h
  by_cases h3 : sizes.any (fun p => decide (width < p.X)) = true
  · rw [if_pos h3] at h; omega
  have hs : sizes.any sizeOut = false := by
    cases hx : sizes.any sizeOut with
    | false => rfl
    | true => exact absurd (.inl hx) h2
  have hw : 1 ≤ width ∧ width ≤ 200000 := by
    by_cases a : 1 ≤ width ∧ width ≤ 200000
    · exact a
    · exact absurd (.inr (.inl a)) h2
  have hg : 0 ≤ gap ∧ gap ≤ 1000 := by
    by_cases a : 0 ≤ gap ∧ gap ≤ 1000
    · exact a
    · exact absurd (.inr (.inr a)) h2
  obtain ⟨s, t, g1, g2, g3⟩ := rfor_inv2 (n := (sizes.length : Int)) (step := tree_Rows_L2 gap sizes width) (step' := ref_RowsOf_L1 gap sizes width) (s0 := (([] : List Point), 0, 0, 0)) (t0 := (([] : List Point), 0, 0, 0))
    (RowsI width gap) (by omega) ⟨rfl, rfl, fun _ => ⟨rfl, rfl⟩, fun h => by omega⟩ (fun i s t hi hI => by
      obtain ⟨o, x, y, e⟩ := s
      obtain ⟨o', x', y', hh⟩ := t
      obtain ⟨e1, e2, e3, e4⟩ := hI
      simp only at e1 e2 e3 e4
      subst e1
      have hi' : i < sizes.length := by omega
      have hin : inR sizes (i : Int) := ⟨by omega, hi⟩
      have hm := gx_mem hin
      generalize hp : gx sizes (i : Int) = p at hm
      have hpx : 1 ≤ p.X ∧ p.X ≤ 20000 ∧ 1 ≤ p.Y ∧ p.Y ≤ 20000 := by
        rw [List.any_eq_false] at hs
        have := hs p hm
        simp [sizeOut] at this
        omega
      have hpw : p.X ≤ width := by
        have h3' : sizes.any (fun p => decide (width < p.X)) = false := by simpa using h3
        rw [List.any_eq_false] at h3'
        have := h3' p hm
        simpa using this
      unfold tree_Rows_L2 ref_RowsOf_L1
      rw [need_of hin, need_of hin]
      simp only [bnd_eq, hp]
      have hroom : ∀ q : Point, room (o'.length + [q].length) := fun q => by rw [room_iff]; simp; omega
      by_cases h0 : i = 0
      · subst h0
        obtain ⟨a1, a2⟩ := e3 rfl
        simp only [Prod.mk.injEq] at a1 a2
        obtain ⟨rfl, rfl, rfl⟩ := a1
        obtain ⟨rfl, rfl, rfl⟩ := a2
        simp only [show decide ((0 : Int) < ((0 : Nat) : Int)) = false from rfl, show decide ((0 : Int) < 0) = false from rfl, Bool.false_and, cond_false, bind_sm]
        rw [need_of (hroom _), need_of (hroom _)]
        refine ⟨_, _, rfl, rfl, ?_, by simp [e2], fun h => by omega, fun _ => ?_⟩
        · rfl
        simp only
        rw [Wk (n := 0 + p.X) (by omega) (by omega), Wk (n := 0 + p.Y) (by omega) (by omega), Wk (n := p.X + gap) (by omega) (by omega), Wk (by omega) (by omega)]
        simp only [Int.natCast_add, Int.natCast_zero, Int.natCast_one]
        repeat' apply And.intro
        all_goals first | exact True.intro | omega
      · obtain ⟨b1, b2, b3, b4, b5, b6, b7, b8, b9⟩ := e4 (by omega)
        subst b3
        obtain rfl : y = y' := b4.symm
        have hii : (i : Int) * 21000 ≤ 21000000 := by omega
        have d1 : decide ((0 : Int) < (i : Int)) = true := by simp; omega
        have d2 : decide ((0 : Int) < x + gap) = true := by simp; omega
        simp only [d1, d2, Bool.true_and]
        rw [Wk (n := x + gap) (by omega) (by omega), Wk (n := x + gap + p.X) (by omega) (by omega)]
        by_cases hbr : width < x + gap + p.X
        · simp only [hbr, decide_true, cond_true, bind_sm]
          rw [need_of (hroom _), need_of (hroom _)]
          rw [Wk (n := e + gap) (by omega) (by omega), Wk (n := y + hh) (by omega) (by omega), Wk (n := y + hh + gap) (by omega) (by omega), Wk (n := 0 + p.X) (by omega) (by omega), Wk (n := p.X + gap) (by omega) (by omega), Wk (n := 0 + (p.X + gap)) (by omega) (by omega), Wk (n := e + gap + p.Y) (by omega) (by omega)]
          refine ⟨_, _, rfl, rfl, by simp [b5], by simp [e2], fun h => by omega, fun _ => ?_⟩
          simp only
          push_cast
          repeat' apply And.intro
          all_goals first | exact True.intro | omega
        · simp only [hbr, decide_false, cond_false, cond_true, bind_sm]
          rw [need_of (hroom _), need_of (hroom _)]
          rw [Wk (n := x + gap + p.X) (by omega) (by omega), Wk (n := p.X + gap) (by omega) (by omega), Wk (n := x + gap + (p.X + gap)) (by omega) (by omega), Wk (n := y + p.Y) (by omega) (by omega)]
          refine ⟨_, _, rfl, rfl, rfl, by simp [e2], fun h => by omega, fun _ => ?_⟩
          simp only
          push_cast
          repeat' apply And.intro
          all_goals first | exact True.intro | omega)
  exact ⟨s, t, g1, g2, by simpa using g3⟩

theorem Rows_eq (sizes : List Point) (width gap : Int) : ∃ r, tree_Rows sizes width gap = some r ∧ r.2.2 = rowsErr sizes width gap ∧ (rowsErr sizes width gap ≠ 0 → r.1 = [] ∧ r.2.1 = 0) ∧
    (rowsErr sizes width gap = 0 → ref_RowsOf sizes width gap = some (r.1, r.2.1) ∧ r.1.length ≤ 1000) := by
  unfold tree_Rows
  by_cases h1 : 1000 < sizes.length
  · have : (1000 : Int) < sizes.length := by omega
    simp [h1, this, rowsErr]
  · have h1' : ¬ (1000 : Int) < sizes.length := by omega
    simp only [h1', decide_false, cond_false]
    rw [rforE_any sizeOut (Res.ab (([] : List Point), 0, 3)) (by omega) (fun i hi => by
      unfold tree_Rows_L1 tree_Rows_1 sizeOut
      rw [need_of hi]
      simp only [bnd_eq, bind_sm]
      generalize gx sizes i = x
      by_cases a : 1 ≤ x.X ∧ x.X ≤ 20000
      · have a' : ((decide (1 ≤ x.X)) && (decide (x.X ≤ 20000))) = true := by simpa using a
        by_cases b : 1 ≤ x.Y ∧ x.Y ≤ 20000
        · have b' : ((decide (1 ≤ x.Y)) && (decide (x.Y ≤ 20000))) = true := by simpa using b
          simp [a, b, a', b']
        · have b' : ((decide (1 ≤ x.Y)) && (decide (x.Y ≤ 20000))) = false := by simpa using b
          simp [a, b, a', b']
      · have a' : ((decide (1 ≤ x.X)) && (decide (x.X ≤ 20000))) = false := by simpa using a
        simp [a, a'])]
    cases ha : sizes.any sizeOut with
    | true => simp [rowsErr, h1, ha]
    | false =>
      simp only [Bool.false_eq_true, if_false, bindR_nx]
      by_cases hw : 1 ≤ width ∧ width ≤ 200000
      · by_cases hg : 0 ≤ gap ∧ gap ≤ 1000
        · have : ((((decide (width < 1)) || (decide (200000 < width))) || (decide (gap < 0))) || (decide (1000 < gap))) = false := by simp; omega
          simp only [this, cond_false]
          rw [ContainsFunc_Point_eq sizes (fun x0 => tree_Rows_2 x0 width) (fun p => decide (width < p.X)) (by omega) (fun x _ => rfl)]
          simp only [bind_sm]
          cases hb : sizes.any (fun p => decide (width < p.X)) with
          | true => simp [rowsErr, h1, ha, hw, hg, hb]
          | false =>
            have he : rowsErr sizes width gap = 0 := by simp only [rowsErr, h1, ha, hw, hg, hb]; simp
            obtain ⟨s, t, g1, g2, g3⟩ := Rows_both he
            simp only [cond_false, g1, bind_sm]
            refine ⟨_, rfl, he.symm, fun h => absurd he h, fun _ => ?_⟩
            unfold ref_RowsOf
            rw [g2]
            obtain ⟨e1, e2, e3, e4⟩ := g3
            simp only [bind_sm]
            refine ⟨?_, by simp only [e2]; omega⟩
            by_cases h0 : sizes.length = 0
            · obtain ⟨a1, a2⟩ := e3 h0
              rw [a1, a2, e1]
              simp only [Option.some.injEq, Prod.mk.injEq, true_and]
              exact Wk (by decide) (by decide)
            · obtain ⟨b1, b2, b3, b4, b5, b6, b7, b8, b9⟩ := e4 (by omega)
              rw [e1, b4, Wk (by omega) (by omega), ← b5]
        · have : ((((decide (width < 1)) || (decide (200000 < width))) || (decide (gap < 0))) || (decide (1000 < gap))) = true := by simp; omega
          rw [this]
          have he : rowsErr sizes width gap = 3 := by simp only [rowsErr, h1, ha, hw, hg]; simp
          simp [he]
      · have : ((((decide (width < 1)) || (decide (200000 < width))) || (decide (gap < 0))) || (decide (1000 < gap))) = true := by simp; omega
        rw [this]
        have he : rowsErr sizes width gap = 3 := by simp only [rowsErr, h1, ha, hw]; simp
        simp [he]

theorem RowsMatch_true (sizes : List Point) (width gap : Int) : law_RowsMatch sizes width gap = some true := by
  obtain ⟨r, h1, h2, h3, h4⟩ := Rows_eq sizes width gap
  unfold law_RowsMatch
  rw [h1, RowsError_eq]
  simp only [bind_sm, trees_eq]
  by_cases he : rowsErr sizes width gap = 0
  · obtain ⟨h5, h6⟩ := h4 he
    rw [he] at h2
    simp only [he, decide_true, Bool.not_true, Bool.or_self, cond_false, h5, bind_sm, h2, gd_true]
    rw [Equal_Point_eq _ _ (by omega)]
    simp
  · obtain ⟨h5, h6⟩ := h3 he
    simp [he, h5, h6, h2]

end Go.DB
