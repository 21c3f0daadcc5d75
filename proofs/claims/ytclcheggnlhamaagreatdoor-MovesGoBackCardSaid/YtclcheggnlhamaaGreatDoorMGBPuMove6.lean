/-
  Selections that are spread: how they are sorted.
-/
import Derived.Test.YtclcheggnlhamaaGreatDoorMGBPuMove5
import Derived.Test.YtclcheggnlhamaaGreatDoorMGBPuSortInt
set_option linter.unusedSimpArgs false
set_option linter.unusedVariables false
namespace Go.DB
open Go Go.RowKit

theorem Compare_int_eq (x y : Int) : cmp_Compare_int x y = some (if x < y then -1 else if y < x then 1 else 0) := by
  unfold cmp_Compare_int cmp_isNaN_int
  simp only [decide_true, Bool.not_true, Option.bind_some, cond_false]
  by_cases h : x < y
  · simp [h]
  · by_cases h2 : y < x
    · simp [h, h2]
    · simp [h, h2]
theorem Or2_eq (a b : Int) : cmp_Or_int [a, b] = some (if a = 0 then b else a) := by
  unfold cmp_Or_int
  rw [rforE_eq (by simp)]
  have e2 : (([a, b] : List Int).length : Int).toNat = 2 := rfl
  rw [e2]
  have s0 : ∀ s, cmp_Or_int_L1 [a, b] 0 s = some (if a = 0 then Res.nx () else Res.ab (Res.ab a)) := fun s => by
    unfold cmp_Or_int_L1
    rw [need_of ⟨by omega, by simp⟩, bnd_eq]
    have : gx [a, b] 0 = a := rfl
    rw [this]
    by_cases h : a = 0 <;> simp [h]
  have s1 : ∀ s, cmp_Or_int_L1 [a, b] (0 + 1) s = some (if b = 0 then Res.nx () else Res.ab (Res.ab b)) := fun s => by
    unfold cmp_Or_int_L1
    rw [need_of ⟨by omega, by simp⟩, bnd_eq]
    have : gx [a, b] (0 + 1) = b := rfl
    rw [this]
    by_cases h : b = 0 <;> simp [h]
  simp only [rgoE]
  rw [s0]
  by_cases ha : a = 0
  · rw [if_pos ha, if_pos ha]
    simp only
    rw [s1]
    by_cases hb : b = 0
    · rw [if_pos hb, hb]; rfl
    · rw [if_neg hb]; rfl
  · rw [if_neg ha, if_neg ha]; rfl
/-- Of a root: where it begins, how long it is, and its other coordinate. -/
noncomputable def atF (d : Doc) (down : Bool) (k : Int) : Int × Int × Int := if down = true then ((bxD d k).Y, (bxD d k).H, (bxD d k).X) else ((bxD d k).X, (bxD d k).W_, (bxD d k).Y)
theorem atF_bd {d : Doc} (h : Right d) {down : Bool} {j : Nat} (hj : j < d.Nodes.length) : (-1000000 ≤ (atF d down (j : Int)).1 ∧ (atF d down (j : Int)).1 ≤ 1000000) ∧ (1 ≤ (atF d down (j : Int)).2.1 ∧ (atF d down (j : Int)).2.1 ≤ 20000) ∧ -1000000 ≤ (atF d down (j : Int)).2.2 ∧ (atF d down (j : Int)).2.2 ≤ 1000000 := by
  obtain ⟨p1, p2, p3, p4, p5, p6, p7, p8⟩ := (bxD_eq h hj).2.2
  unfold atF
  split
  · simp only; omega
  · simp only; omega
theorem Spread1_eq {d : Doc} (h : Right d) (down : Bool) {j : Nat} (hj : j < d.Nodes.length) : page_Spread_1 (j : Int) (some (viewD d)) down = some (atF d down (j : Int)) := by
  unfold page_Spread_1
  rw [Option.bind_some, view_boxM (bxD_eq h hj).1, Option.bind_some]
  unfold atF
  cases down <;> rfl
noncomputable def ltS (d : Doc) (down : Bool) (a b : Int) : Bool := decide ((atF d down a).1 < (atF d down b).1 ∨ (atF d down a).1 = (atF d down b).1 ∧ (atF d down a).2.2 < (atF d down b).2.2)
theorem swoS {d : Doc} (h : Right d) (down : Bool) {R : List Int} (hA : ApartR d R) : Swo (fun k => k ∈ R) (ltS d down) (fun x0 x1 => page_Spread_2 x0 x1 (fun x0 => page_Spread_1 x0 (some (viewD d)) down)) := by
  refine ⟨fun x y hx hy => ?_, fun x y _ _ h => ?_, fun x y z _ _ _ h1 h2 => ?_⟩
  · obtain ⟨i, hi, rfl⟩ := hA.isIn x hx
    obtain ⟨j, hj, rfl⟩ := hA.isIn y hy
    refine ⟨_, by
      unfold page_Spread_2
      simp only
      rw [Spread1_eq h down hi, Spread1_eq h down hj, Option.bind_some, Option.bind_some, Compare_int_eq, Compare_int_eq, Option.bind_some, Option.bind_some, Or2_eq, Option.bind_some], ?_⟩
    unfold ltS
    rw [decide_eq_decide]
    generalize atF d down (i : Int) = a
    generalize atF d down (j : Int) = b
    by_cases c1 : a.1 < b.1
    · rw [if_pos c1]; simp; omega
    · rw [if_neg c1]
      by_cases c2 : b.1 < a.1
      · rw [if_pos c2]; simp; omega
      · rw [if_neg c2]
        by_cases c3 : a.2.2 < b.2.2
        · rw [if_pos c3]; simp; omega
        · rw [if_neg c3]
          by_cases c4 : b.2.2 < a.2.2
          · rw [if_pos c4]; simp; omega
          · rw [if_neg c4]; simp; omega
  · unfold ltS at *
    have := of_decide_eq_true h
    exact decide_eq_false (by omega)
  · unfold ltS at *
    have h1 := of_decide_eq_false h1
    have h2 := of_decide_eq_false h2
    exact decide_eq_false (by omega)
end Go.DB
