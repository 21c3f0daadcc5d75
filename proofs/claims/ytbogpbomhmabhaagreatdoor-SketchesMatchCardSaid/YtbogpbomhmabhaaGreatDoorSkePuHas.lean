/-
  Where a point is in a shape: the code and the reference agree.
-/
import Derived.Test.YtbogpbomhmabhaaGreatDoorSkePuBox
set_option linter.unusedSimpArgs false
set_option linter.unusedVariables false
namespace Go.DB
open Go Go.RowKit

theorem mulb {a b A B : Int} (a0 : 0 ≤ a) (a1 : a ≤ A) (b0 : 0 ≤ b) (b1 : b ≤ B) : 0 ≤ a * b ∧ a * b ≤ A * B :=
  ⟨Int.mul_nonneg a0 b0, Int.le_trans (Int.mul_le_mul_of_nonneg_right a1 b0) (Int.mul_le_mul_of_nonneg_left b1 (by omega))⟩
theorem sqb {u A : Int} (h1 : -A ≤ u) (h2 : u ≤ A) : 0 ≤ u * u ∧ u * u ≤ A * A := by
  by_cases h : 0 ≤ u
  · exact mulb h h2 h h2
  · have := mulb (a := -u) (b := -u) (A := A) (B := A) (by omega) (by omega) (by omega) (by omega)
    rwa [Int.neg_mul_neg] at this
/-- The sign of what is missing. -/
def sgn3 (n l : Int) : Int := if n < l then 1 else if n = l then 0 else -1
theorem than_eq (n l : Int) : shape_than n l = some (sgn3 n l) := by
  unfold shape_than sgn3
  by_cases h : n < l
  · simp [h]
  · by_cases h2 : n = l <;> simp [h, h2]
theorem inner_eq {n l : Int} (h1 : -4000000000000000000 ≤ n) (h2 : n ≤ 4000000000000000000) (h3 : -4000000000000000000 ≤ l) (h4 : l ≤ 4000000000000000000) : ref_HasOf_1 n l = some (sgn3 n l) := by
  unfold ref_HasOf_1
  rw [Wk (by omega) (by omega), Sign_eq]
  simp only [bind_sm]
  congr 1
  unfold sgn3
  by_cases h : n < l
  · rw [if_pos h]; omega
  · by_cases h2 : n = l
    · rw [if_neg h, if_pos h2]; omega
    · rw [if_neg h, if_neg h2]; omega
theorem has_both {k : Int} {b : Box} {p : Point} (hb : okB b) (p1 : -3000000 ≤ p.X) (p2 : p.X ≤ 3000000) (p3 : -3000000 ≤ p.Y) (p4 : p.Y ≤ 3000000) : ∃ r, shape_has k b p = some r ∧ ref_HasOf k b p = some r := by
  unfold okB at hb
  unfold shape_has ref_HasOf shape_size
  simp only [bnd_eq]
  rw [Wk (n := p.X - b.X) (by omega) (by omega), Wk (n := p.Y - b.Y) (by omega) (by omega)]
  generalize hx : p.X - b.X = x
  generalize hy : p.Y - b.Y = y
  rw [Wk (n := 2 * x) (by omega) (by omega), Wk (n := 2 * y) (by omega) (by omega), Wk (n := 2 * x - b.W_) (by omega) (by omega), Wk (n := 2 * y - b.H) (by omega) (by omega)]
  rw [Abs_eq (n := 2 * x - b.W_) (by omega) (by omega), Abs_eq (n := 2 * y - b.H) (by omega) (by omega)]
  generalize hw : b.W_ = w at *
  generalize hh : b.H = h at *
  generalize hu : 2 * x - w = u
  generalize hv : 2 * y - h = v
  by_cases c1 : x < 0 ∨ w < x ∨ y < 0 ∨ h < y
  · have e1 : (((decide (x < 0) || decide (w < x)) || decide (y < 0)) || decide (h < y)) = true := by simp; omega
    simp only [e1, cond_true]
    refine ⟨_, rfl, ?_⟩
    simp only [bind_sm]
    by_cases c2 : w < max u (-u)
    · have : decide (w < max u (-u)) = true := by simpa using c2
      simp only [this, Bool.not_true, gd_false, bind_sm, Bool.true_or, cond_true]
    · have : decide (w < max u (-u)) = false := by simpa using c2
      have c3 : decide (h < max v (-v)) = true := by simp; omega
      simp only [this, Bool.not_false, gd_true, bind_sm, Bool.false_or, c3, cond_true]
  · have e1 : (((decide (x < 0) || decide (w < x)) || decide (y < 0)) || decide (h < y)) = false := by simp; omega
    have e2 : decide (w < max u (-u)) = false := by simp; omega
    have e3 : decide (h < max v (-v)) = false := by simp; omega
    have hu1 : -20000 ≤ u ∧ u ≤ 20000 := by omega
    have hv1 : -20000 ≤ v ∧ v ≤ 20000 := by omega
    simp only [e1, e2, e3, cond_false, bind_sm, Bool.not_false, gd_true, Bool.or_self]
    -- whether it is at the edge of the box
    have hflat : (bif (((decide (x = 0) || decide (x = w)) || decide (y = 0)) || decide (y = h)) then some (0 : Int) else some 1) = some (if (x = 0 ∨ x = w) ∨ y = 0 ∨ y = h then 0 else 1) := by
      by_cases c : (x = 0 ∨ x = w) ∨ y = 0 ∨ y = h
      · have : (((decide (x = 0) || decide (x = w)) || decide (y = 0)) || decide (y = h)) = true := by simp; omega
        rw [this, if_pos c]; rfl
      · have : (((decide (x = 0) || decide (x = w)) || decide (y = 0)) || decide (y = h)) = false := by simp; omega
        rw [this, if_neg c]; rfl
    have hflat2 : (Option.bind (gd (!(decide (max u (-u) = w))) (some (max v (-v)))) fun r4 => Option.bind (bif (decide (max u (-u) = w) || decide (r4 = h)) then some (0 : Int) else some 1) fun j => some j) = some (if (x = 0 ∨ x = w) ∨ y = 0 ∨ y = h then 0 else 1) := by
      by_cases c : max u (-u) = w
      · have : decide (max u (-u) = w) = true := by simpa using c
        have c' : (x = 0 ∨ x = w) ∨ y = 0 ∨ y = h := by omega
        simp only [this, Bool.not_true, gd_false, bind_sm, Bool.true_or, cond_true, if_pos c']
      · have : decide (max u (-u) = w) = false := by simpa using c
        simp only [this, Bool.not_false, gd_true, bind_sm, Bool.false_or]
        by_cases c2 : max v (-v) = h
        · have e : decide (max v (-v) = h) = true := by simpa using c2
          have c' : (x = 0 ∨ x = w) ∨ y = 0 ∨ y = h := by omega
          simp only [e, cond_true, bind_sm, if_pos c']
        · have e : decide (max v (-v) = h) = false := by simpa using c2
          have c' : ¬ ((x = 0 ∨ x = w) ∨ y = 0 ∨ y = h) := by omega
          simp only [e, cond_false, bind_sm, if_neg c']
    rw [hflat]
    generalize (if (x = 0 ∨ x = w) ∨ y = 0 ∨ y = h then (0 : Int) else 1) = fl at *
    have hbind : ∀ (K : Int → Option Int), (Option.bind (gd (!(decide (max u (-u) = w))) (some (max v (-v)))) fun r4 => Option.bind (bif (decide (max u (-u) = w) || decide (r4 = h)) then some (0 : Int) else some 1) K) = K fl := by
      intro K
      cases h1 : gd (!(decide (max u (-u) = w))) (some (max v (-v))) with
      | none => rw [h1] at hflat2; cases hflat2
      | some r4 =>
        rw [h1] at hflat2
        simp only [bind_sm] at hflat2 ⊢
        cases h2 : (bif (decide (max u (-u) = w) || decide (r4 = h)) then some (0 : Int) else some 1) with
        | none => rw [h2] at hflat2; cases hflat2
        | some j => rw [h2] at hflat2; simp only [bind_sm, Option.some.injEq] at hflat2 ⊢; rw [hflat2]
    rw [hbind]
    simp only [bind_sm]
    by_cases k3 : k = 3
    · simp only [k3, decide_true, cond_true]
      have b1 := sqb hu1.1 hu1.2
      have b2 := sqb hv1.1 hv1.2
      have b3 := mulb b1.1 b1.2 (show 0 ≤ h by omega) (show h ≤ 20000 by omega)
      have b4 := mulb b3.1 b3.2 (show 0 ≤ h by omega) (show h ≤ 20000 by omega)
      have b5 := mulb b2.1 b2.2 (show 0 ≤ w by omega) (show w ≤ 20000 by omega)
      have b6 := mulb b5.1 b5.2 (show 0 ≤ w by omega) (show w ≤ 20000 by omega)
      have b7 := mulb (show 0 ≤ w by omega) (show w ≤ 20000 by omega) (show 0 ≤ w by omega) (show w ≤ 20000 by omega)
      have b8 := mulb b7.1 b7.2 (show 0 ≤ h by omega) (show h ≤ 20000 by omega)
      have b9 := mulb b8.1 b8.2 (show 0 ≤ h by omega) (show h ≤ 20000 by omega)
      rw [Wk (n := u * u) (by omega) (by omega), Wk (n := u * u * h) (by omega) (by omega), Wk (n := u * u * h * h) (by omega) (by omega), Wk (n := v * v) (by omega) (by omega), Wk (n := v * v * w) (by omega) (by omega), Wk (n := v * v * w * w) (by omega) (by omega),
        Wk (n := w * w) (by omega) (by omega), Wk (n := w * w * h) (by omega) (by omega), Wk (n := w * w * h * h) (by omega) (by omega), Wk (n := u * u * h * h + v * v * w * w) (by omega) (by omega)]
      rw [than_eq, inner_eq (by omega) (by omega) (by omega) (by omega)]
      exact ⟨_, rfl, rfl⟩
    · have d3 : decide (k = 3) = false := by simpa using k3
      simp only [d3, cond_false]
      by_cases k4 : k = 4
      · simp only [k4, decide_true, cond_true]
        rw [Wk (n := -u) (by omega) (by omega), Wk (n := -v) (by omega) (by omega)]
        have b1 := mulb (a := max u (-u)) (A := 20000) (by omega) (by omega) (show 0 ≤ h by omega) (show h ≤ 20000 by omega)
        have b2 := mulb (a := max v (-v)) (A := 20000) (by omega) (by omega) (show 0 ≤ w by omega) (show w ≤ 20000 by omega)
        have b3 := mulb (show 0 ≤ w by omega) (show w ≤ 20000 by omega) (show 0 ≤ h by omega) (show h ≤ 20000 by omega)
        rw [Wk (n := max u (-u) * h) (by omega) (by omega), Wk (n := max v (-v) * w) (by omega) (by omega), Wk (n := w * h) (by omega) (by omega), Wk (n := max u (-u) * h + max v (-v) * w) (by omega) (by omega)]
        rw [than_eq, inner_eq (by omega) (by omega) (by omega) (by omega)]
        exact ⟨_, rfl, rfl⟩
      · have d4 : decide (k = 4) = false := by simpa using k4
        simp only [d4, cond_false]
        by_cases k2 : k = 2
        · simp only [k2, decide_true, cond_true]
          have hround : ∀ u v w h : Int, -20000 ≤ u → u ≤ 20000 → -20000 ≤ v → v ≤ 20000 → 1 ≤ w → w ≤ 20000 → 1 ≤ h → h ≤ 20000 →
              (Option.bind (some (max u (W (-u)))) fun r5 => Option.bind (shape_than (W (W ((max (W (r5 - W (w - h))) 0) * (max (W (r5 - W (w - h))) 0)) + W (v * v))) (W (h * h))) fun r6 => some (Res.ab r6 : Res Unit Int)) =
              (Option.bind (ref_Abs u) fun r9 => Option.bind (ref_HasOf_1 (W (W ((max (W (r9 - W (w - h))) 0) * (max (W (r9 - W (w - h))) 0)) + W (v * v))) (W (h * h))) fun r10 => some (Res.ab r10 : Res Unit Int)) ∧
              ∃ r, (Option.bind (ref_Abs u) fun r9 => Option.bind (ref_HasOf_1 (W (W ((max (W (r9 - W (w - h))) 0) * (max (W (r9 - W (w - h))) 0)) + W (v * v))) (W (h * h))) fun r10 => some (Res.ab r10 : Res Unit Int)) = some (Res.ab r) := by
            intro u v w h u1 u2 v1 v2 w1 w2 h1 h2
            rw [Abs_eq (by omega) (by omega), Wk (n := -u) (by omega) (by omega)]
            simp only [bind_sm]
            rw [Wk (n := w - h) (by omega) (by omega), Wk (n := max u (-u) - (w - h)) (by omega) (by omega)]
            have b1 := mulb (a := max (max u (-u) - (w - h)) 0) (b := max (max u (-u) - (w - h)) 0) (A := 40000) (B := 40000) (by omega) (by omega) (by omega) (by omega)
            have b2 := sqb v1 v2
            have b3 := mulb (show 0 ≤ h by omega) h2 (show 0 ≤ h by omega) h2
            rw [Wk (n := max (max u (-u) - (w - h)) 0 * max (max u (-u) - (w - h)) 0) (by omega) (by omega), Wk (n := v * v) (by omega) (by omega), Wk (n := h * h) (by omega) (by omega), Wk (by omega) (by omega)]
            rw [than_eq, inner_eq (by omega) (by omega) (by omega) (by omega)]
            exact ⟨rfl, _, rfl⟩
          by_cases cw : w < h
          · have dw : decide (w < h) = true := by simpa using cw
            simp only [dw, cond_true, bind_sm]
            obtain ⟨q1, r, q2⟩ := hround v u h w (by omega) (by omega) (by omega) (by omega) (by omega) (by omega) (by omega) (by omega)
            simp only [bind_sm] at q1
            rw [q1, q2]
            exact ⟨r, rfl, rfl⟩
          · have dw : decide (w < h) = false := by simpa using cw
            simp only [dw, cond_false, bind_sm]
            obtain ⟨q1, r, q2⟩ := hround u v w h (by omega) (by omega) (by omega) (by omega) (by omega) (by omega) (by omega) (by omega)
            simp only [bind_sm] at q1
            rw [q1, q2]
            exact ⟨r, rfl, rfl⟩
        · have d2 : decide (k = 2) = false := by simpa using k2
          simp only [d2, cond_false]
          by_cases k5 : k = 5
          · simp only [k5, decide_true, cond_true]
            rw [Int.tdiv_eq_ediv_of_nonneg (show 0 ≤ min w h by omega)]
            rw [Wk (n := x - w) (by omega) (by omega), Wk (n := x - w + min w h / 4) (by omega) (by omega), Wk (n := x - w + min w h / 4 - y) (by omega) (by omega)]
            generalize hn : min w h / 4 = n
            have hn0 : 0 ≤ n := by omega
            by_cases cn : n = 0
            · have e1 : decide (n = 0) = true := by simpa using cn
              have e2 : decide (0 < n) = false := by simp; omega
              simp only [e1, e2, cond_true, Bool.and_false, cond_false, bindR_ab, bindR_nx]
              exact ⟨_, rfl, rfl⟩
            · have e1 : decide (n = 0) = false := by simpa using cn
              have e2 : decide (0 < n) = true := by simp; omega
              simp only [e1, e2, cond_false, Bool.and_true]
              cases decide (0 < x - w + n - y) with
              | true => exact ⟨_, rfl, rfl⟩
              | false =>
                simp only [cond_false]
                cases decide (x - w + n - y = 0) with
                | true => exact ⟨_, rfl, rfl⟩
                | false => exact ⟨_, rfl, rfl⟩
          · have d5 : decide (k = 5) = false := by simpa using k5
            simp only [d5, cond_false, bindR_nx]
            exact ⟨_, rfl, rfl⟩

end Go.DB
