/-
  The box for a text, and the size of a shape for it: the law.
-/
import Derived.Test.YthopjimlhjgoiaaDoorFitPuFit
set_option linter.unusedSimpArgs false
set_option linter.unusedVariables false
namespace Go.DB
open Go Go.RowKit

theorem FitsMatch_true (f : Font) (t : Str) (kind : Int) (b : Box) (pad most : Int) (ht : fits t) : law_FitsMatch f t kind b pad most = some true := by
  unfold law_FitsMatch
  rw [Inner_eq, Option.bind_some, shapes_eq, Option.bind_some, innerError_eq]
  have h1 : law_is_Box (if innerErr kind b pad = 0 then (innerAt kind b pad, (0 : Int)) else (⟨0, 0, 0, 0⟩, innerErr kind b pad)).1 (if innerErr kind b pad = 0 then (innerAt kind b pad, (0 : Int)) else (⟨0, 0, 0, 0⟩, innerErr kind b pad)).2 (innerErr kind b pad) (law_FitsMatch_1 kind b pad) = some true := by
    unfold law_is_Box law_FitsMatch_1
    by_cases h : innerErr kind b pad = 0
    · rw [if_pos h, h]
      have hz2 := firstErr_zero.1 h
      have hb := boxErr_zero.1 (hz2 (boxErr b) (by simp))
      have hp := padErr_zero.1 (hz2 (padErr pad) (by simp))
      unfold okB at hb
      have hin : ¬ ((innerB kind b.W_ b.H pad).W_ < 1 ∨ (innerB kind b.W_ b.H pad).H < 1) := fun x => by
        have := hz2 (if (innerB kind b.W_ b.H pad).W_ < 1 ∨ (innerB kind b.W_ b.H pad).H < 1 then 9 else 0) (by simp)
        rw [if_pos x] at this; cases this
      simp only [bnd_eq]
      rw [InnerOf_eq (by omega) (by omega) (by omega) (by omega) hp, if_neg hin]
      simp
    · rw [if_neg h]
      simp [h]
  simp only [Bool.not_true, Bool.not_false, gd_true, Option.bind_some]
  rw [h1]
  simp only [Option.bind_some, Bool.not_true, Bool.or_self, cond_false]
  obtain ⟨r, hr1, hr2⟩ := Fit_eq f t kind pad most
  rw [hr1, Option.bind_some, ShapeError_eq, Option.bind_some, FontError_eq, Option.bind_some, TextError_eq ht, Option.bind_some, In_eq, Option.bind_some, In_eq]
  have e : ∀ {β : Type} [Inhabited β] (k : Int → Option β), (Option.bind (gd (!!decide (0 ≤ pad ∧ pad ≤ 100)) (some (decide (1 ≤ most ∧ most ≤ 20000)))) fun r7 => Option.bind (ref_When ((!decide (0 ≤ pad ∧ pad ≤ 100)) || !r7) 3) k) = k (mostErr pad most) := by
    intro β _ k
    unfold mostErr
    by_cases h1 : 0 ≤ pad ∧ pad ≤ 100
    · by_cases h2 : 1 ≤ most ∧ most ≤ 20000
      · rw [if_pos ⟨h1, h2⟩, decide_eq_true h1, decide_eq_true h2]; rfl
      · rw [if_neg (fun x => h2 x.2), decide_eq_true h1, decide_eq_false h2]; rfl
    · rw [if_neg (fun x => h1 x.1), decide_eq_false h1]
      cases decide (1 ≤ most ∧ most ≤ 20000) <;> rfl
  rw [e, First_eq (by simp), Option.bind_some]
  by_cases h : firstErr [kindErr kind, fontErr f, textErr t, mostErr pad most] = 0
  · rw [if_pos h] at hr2
    rw [h]
    have hz := firstErr_zero.1 h
    have hf := fontErr_zero.1 (hz (fontErr f) (by simp))
    have hte := (textErr_zero.1 (hz (textErr t) (by simp))).1
    obtain ⟨hp, hm⟩ := mostErr_zero.1 (hz (mostErr pad most) (by simp))
    simp only [decide_true, Bool.true_and, cond_true]
    cases decide (300 < most) || decide (200 < (t.b.length : Int)) with
    | true =>
      rw [cond_true]
      unfold fitIs at hr2
      by_cases c : most < leastB f t.b
      · rw [if_pos c] at hr2; subst hr2; rfl
      · rw [if_neg c] at hr2
        rcases hr2 with ⟨w, h, _, rfl⟩ | ⟨_, rfl⟩ <;> rfl
    | false =>
      rw [cond_false]
      obtain ⟨r', k1, k2⟩ := FitOf_eq hf hte kind hp hm
      have := fitIs_one hr2 k2
      subst this
      show Option.bind (Option.bind (ref_FitOf f ⟨t.b⟩ kind pad most) _) _ = _
      rw [k1]
      simp
  · rw [if_neg h] at hr2
    subst hr2
    generalize firstErr [kindErr kind, fontErr f, textErr t, mostErr pad most] = E at h
    simp [h]
end Go.DB
