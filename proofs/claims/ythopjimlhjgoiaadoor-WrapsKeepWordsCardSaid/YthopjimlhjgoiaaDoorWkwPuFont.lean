/-
  Fonts are checked, in plain words.
-/
import Derived.Test.YthopjimlhjgoiaaDoorWkwPuRef
set_option linter.unusedSimpArgs false
set_option linter.unusedVariables false
namespace Go.DB
open Go Go.RowKit

def okF (f : Font) : Prop := 1 ≤ f.Line ∧ f.Line ≤ 200 ∧ 1 ≤ f.Narrow ∧ f.Narrow ≤ f.Normal ∧ f.Normal ≤ f.Wide ∧ f.Wide ≤ 200
def numErr (n : Int) : Int := if 1 ≤ n ∧ n ≤ 200 then 0 else 3
def fontErr (f : Font) : Int := if firstErr [numErr f.Line, numErr f.Narrow, numErr f.Normal, numErr f.Wide] = 0 then (if f.Normal < f.Narrow ∨ f.Wide < f.Normal then 7 else 0) else 3
theorem numErr_zero {n : Int} : numErr n = 0 ↔ 1 ≤ n ∧ n ≤ 200 := by unfold numErr; split <;> simp_all
theorem numErr_cases (n : Int) : numErr n = 0 ∨ numErr n = 3 := by unfold numErr; split <;> simp
theorem fontErr_zero {f : Font} : fontErr f = 0 ↔ okF f := by
  unfold fontErr okF
  by_cases h : firstErr [numErr f.Line, numErr f.Narrow, numErr f.Normal, numErr f.Wide] = 0
  · rw [if_pos h]
    rw [firstErr_zero] at h
    have h1 := numErr_zero.1 (h (numErr f.Line) (by simp))
    have h2 := numErr_zero.1 (h (numErr f.Narrow) (by simp))
    have h3 := numErr_zero.1 (h (numErr f.Normal) (by simp))
    have h4 := numErr_zero.1 (h (numErr f.Wide) (by simp))
    by_cases c : f.Normal < f.Narrow ∨ f.Wide < f.Normal
    · rw [if_pos c]; simp; omega
    · rw [if_neg c]; simp; omega
  · rw [if_neg h]
    constructor
    · intro e; simp at e
    · intro hf
      exact absurd (firstErr_zero.2 (fun e he => by
        simp at he
        rcases he with rfl | rfl | rfl | rfl <;> exact numErr_zero.2 (by omega))) h
theorem CheckFont_eq (f : Font) : shape_CheckFont f = some (fontErr f) := by
  unfold shape_CheckFont
  simp only [bnd_eq]
  rw [rforE_err numErr (fun e => (Res.ab e : Res Unit Int)) (by simp) (fun i hi => by
    unfold shape_CheckFont_L1
    rw [need_of hi]
    simp only [bnd_eq]
    generalize gx [f.Line, f.Narrow, f.Normal, f.Wide] i = n
    by_cases c : 1 ≤ n ∧ n ≤ 200
    · have e1 : (decide (n < 1) || decide (200 < n)) = false := by simp; omega
      have e2 := numErr_zero.2 c
      simp [e1, e2]
    · have e1 : (decide (n < 1) || decide (200 < n)) = true := by simp; omega
      have e2 : numErr n = 3 := by unfold numErr; rw [if_neg c]
      simp [e1, e2])]
  unfold fontErr
  simp only [List.map_cons, List.map_nil]
  have hc : ∀ l : List Int, (∀ e ∈ l, e = 0 ∨ e = 3) → firstErr l = 0 ∨ firstErr l = 3 := by
    intro l
    induction l with
    | nil => intro _; left; rfl
    | cons e l ih =>
      intro h
      by_cases c : e = 0
      · rw [firstErr_cons, if_pos c]; exact ih (fun x hx => h x (by simp [hx]))
      · rw [firstErr_cons, if_neg c]; exact h e (by simp)
  rcases hc [numErr f.Line, numErr f.Narrow, numErr f.Normal, numErr f.Wide] (fun e he => by
    simp at he
    rcases he with rfl | rfl | rfl | rfl <;> exact numErr_cases _) with h | h
  · rw [h]
    simp only [if_true, bindR_nx]
    by_cases c : f.Normal < f.Narrow ∨ f.Wide < f.Normal
    · have : (decide (f.Normal < f.Narrow) || decide (f.Wide < f.Normal)) = true := by simpa using c
      rw [this, if_pos c]; rfl
    · have : (decide (f.Normal < f.Narrow) || decide (f.Wide < f.Normal)) = false := by simpa using c
      rw [this, if_neg c]; rfl
  · rw [h]
    simp
theorem shapes_eq : law_shapes = some true := by
  unfold law_shapes
  rw [CheckFont_eq, CheckFont_eq]
  have e1 : fontErr ⟨1, 1, 1, 1⟩ = 0 := by decide
  have e2 : fontErr ⟨0, 0, 0, 0⟩ = 3 := by decide
  rw [e1, e2]; rfl

end Go.DB
