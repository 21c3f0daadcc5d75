/-
  Widths of texts, and lines: the law.
-/
import Derived.Test.YthopjimlhjgoiaaDoorTxtPuWrap3
import Derived.Test.YthopjimlhjgoiaaDoorTxtPuErrs
import Derived.Test.YthopjimlhjgoiaaDoorExContains
set_option linter.unusedSimpArgs false
set_option linter.unusedVariables false
namespace Go.DB
open Go Go.RowKit

theorem FontError_eq (f : Font) : ref_FontError f = some (fontErr f) := by
  unfold ref_FontError
  simp only [bnd_eq]
  rw [rforE_err numErr (fun e => (Res.ab e : Res Unit Int)) (by simp) (fun i hi => by
    unfold ref_FontError_L1
    rw [need_of hi, In_eq, Option.bind_some]
    generalize gx [f.Line, f.Narrow, f.Normal, f.Wide] i = n
    by_cases c : 1 ≤ n ∧ n ≤ 200
    · have e2 := numErr_zero.2 c
      simp [c, e2]
    · have e2 : numErr n = 3 := by unfold numErr; rw [if_neg c]
      rw [decide_eq_false c]; simp [e2])]
  unfold fontErr
  simp only [List.map_cons, List.map_nil]
  have hc : ∀ l : List Int, (∀ e ∈ l, e = 0 ∨ e = 3) → firstErr l = 0 ∨ firstErr l = 3 := by
    intro l
    induction l with
    | nil => intro _; left; rfl
    | cons e l ih =>
      intro h
      by_cases c : e = 0
      · rw [firstErr_cons, if_pos c]; exact ih (fun x hx => h x (by simp [hx]))
      · rw [firstErr_cons, if_neg c]; exact h e (by simp)
  rcases hc [numErr f.Line, numErr f.Narrow, numErr f.Normal, numErr f.Wide] (fun e he => by
    simp at he
    rcases he with rfl | rfl | rfl | rfl <;> exact numErr_cases _) with h | h
  · rw [h]
    simp only [if_true, bindR_nx]
    rw [When_eq, Option.bind_some]
    by_cases c : f.Normal < f.Narrow ∨ f.Wide < f.Normal
    · have : (decide (f.Normal < f.Narrow) || decide (f.Wide < f.Normal)) = true := by simpa using c
      rw [this, if_pos c]; rfl
    · have : (decide (f.Normal < f.Narrow) || decide (f.Wide < f.Normal)) = false := by simpa using c
      rw [this, if_neg c]; rfl
  · rw [h]
    simp
theorem Measure_eq (f : Font) (s : Str) : shape_Measure f s = some (if firstErr [fontErr f, textErr s, if hasByte s 10 = true then 2 else 0] = 0 then (mw f s.b, 0) else (0, firstErr [fontErr f, textErr s, if hasByte s 10 = true then 2 else 0])) := by
  unfold shape_Measure
  rw [checkBoth_eq, Option.bind_some]
  by_cases h1 : fontErr f = 0
  · by_cases h2 : textErr s = 0
    · have hf := fontErr_zero.1 h1
      have hs := (textErr_zero.1 h2).1
      simp only [h1, h2, firstErr_cons, if_true]
      unfold strings_Contains
      rw [need_of (show (⟨[10]⟩ : Str).b.length = 1 from rfl), Option.bind_some, measure_eq hf (by omega)]
      show (bif !decide (firstErr [] = 0) then _ else bif hasByte s 10 then _ else _) = _
      cases hasByte s 10 <;> simp [firstErr]
    · simp [h1, h2]
  · simp [h1]
theorem Wrap_eq (f : Font) (s : Str) (width : Int) : shape_Wrap f s width = some (if firstErr [fontErr f, textErr s, if 1 ≤ width ∧ width ≤ 20000 then 0 else 3] = 0 then ((wrapB f width s.b).map Str.mk, 0) else ([], firstErr [fontErr f, textErr s, if 1 ≤ width ∧ width ≤ 20000 then 0 else 3])) := by
  unfold shape_Wrap
  rw [checkBoth_eq, Option.bind_some]
  by_cases h1 : fontErr f = 0
  · by_cases h2 : textErr s = 0
    · have hf := fontErr_zero.1 h1
      have hs := (textErr_zero.1 h2).1
      simp only [h1, h2, firstErr_cons, if_true]
      by_cases hw : 1 ≤ width ∧ width ≤ 20000
      · have : (decide (width < 1) || decide (20000 < width)) = false := by simp; omega
        rw [this, cond_false, wrap_eq hf (by omega) (t := s.b) (by omega), Option.bind_some]
        simp [hw, firstErr]
      · have : (decide (width < 1) || decide (20000 < width)) = true := by simp; omega
        rw [this, cond_true]
        simp [hw, firstErr]
    · simp [h1, h2]
  · simp [h1]
theorem Equal_string_eq (s t : List Str) (hl : (s.length : Int) ≤ 9223372036854775807) : slices_Equal_string s t = some (decide (s = t)) := by
  unfold slices_Equal_string
  by_cases h : s.length = t.length
  · simp only [h, decide_true, Bool.not_true, cond_false]
    rw [← h, rforE_same h hl (fun i hi => by
      unfold slices_Equal_string_L1
      rw [need_of ⟨by omega, by omega⟩, need_of ⟨by omega, by omega⟩, gx_nat hi, gx_nat (h ▸ hi)]
      by_cases hv : s[i] = t[i]'(h ▸ hi) <;> simp [hv])]
    by_cases he : s = t <;> simp [he]
  · have h1 : ¬ ((s.length : Int) = t.length) := by omega
    have h2 : ¬ s = t := fun e => h (by rw [e])
    simp [h1, h2]
theorem wrapB_len (f : Font) (width : Int) (t : List UInt8) : (wrapB f width t).length ≤ 2 * t.length + 2 := by
  have key : ∀ ps : List (List UInt8), (ps.flatMap (partB f width)).length ≤ 2 * tot ps := by
    intro ps
    induction ps with
    | nil => simp [tot]
    | cons p ps ih =>
      have := partB_len f width p
      rw [List.flatMap_cons, List.length_append, tot_cons]; omega
  have := key (pieces 10 t)
  rw [tot_pieces] at this
  unfold wrapB; omega

theorem TextsMatch_true (f : Font) (s : Str) (width : Int) (hs : fits s) : law_TextsMatch f s width = some true := by
  unfold law_TextsMatch
  rw [FontError_eq, Option.bind_some, TextError_eq hs, Option.bind_some, First_eq (by simp), Option.bind_some, Measure_eq, Option.bind_some, Wrap_eq, Option.bind_some, shapes_eq, Option.bind_some, CheckFont_eq, CheckText_eq]
  simp only [gd_true, Option.bind_some, decide_true, Bool.and_true, Bool.true_and]
  unfold strings_Contains
  rw [need_of (show (⟨[10]⟩ : Str).b.length = 1 from rfl), Option.bind_some, When_eq, Option.bind_some, First_eq (by simp), Option.bind_some]
  show Option.bind (law_is_int _ _ (firstErr [firstErr [fontErr f, textErr s], if hasByte s 10 = true then 2 else 0]) _) _ = _
  have e1 : firstErr [firstErr [fontErr f, textErr s], if hasByte s 10 = true then 2 else 0] = firstErr [fontErr f, textErr s, if hasByte s 10 = true then 2 else 0] := by
    by_cases h1 : fontErr f = 0 <;> by_cases h2 : textErr s = 0 <;> simp [h1, h2, firstErr]
  rw [e1]
  have h1 : law_is_int (if firstErr [fontErr f, textErr s, if hasByte s 10 = true then 2 else 0] = 0 then (mw f s.b, (0 : Int)) else (0, firstErr [fontErr f, textErr s, if hasByte s 10 = true then 2 else 0])).1
      (if firstErr [fontErr f, textErr s, if hasByte s 10 = true then 2 else 0] = 0 then (mw f s.b, (0 : Int)) else (0, firstErr [fontErr f, textErr s, if hasByte s 10 = true then 2 else 0])).2
      (firstErr [fontErr f, textErr s, if hasByte s 10 = true then 2 else 0]) (law_TextsMatch_1 f s) = some true := by
    unfold law_is_int law_TextsMatch_1
    by_cases h : firstErr [fontErr f, textErr s, if hasByte s 10 = true then 2 else 0] = 0
    · rw [if_pos h, h]
      have hz := firstErr_zero.1 h
      have hf := fontErr_zero.1 (hz (fontErr f) (by simp))
      have ht := (textErr_zero.1 (hz (textErr s) (by simp))).1
      rw [WidthOf_eq hf (by omega)]
      simp
    · rw [if_neg h]
      generalize firstErr [fontErr f, textErr s, if hasByte s 10 = true then 2 else 0] = E at h
      simp [h]
  rw [h1]
  simp only [Option.bind_some, gd_true, In_eq, When_eq]
  rw [First_eq (by simp), Option.bind_some]
  have e2 : firstErr [firstErr [fontErr f, textErr s], if (!decide (1 ≤ width ∧ width ≤ 20000)) = true then 3 else 0] = firstErr [fontErr f, textErr s, if 1 ≤ width ∧ width ≤ 20000 then 0 else 3] := by
    by_cases hw : 1 ≤ width ∧ width ≤ 20000 <;> by_cases h1 : fontErr f = 0 <;> by_cases h2 : textErr s = 0 <;> simp [h1, h2, hw, firstErr]
  rw [e2]
  have h2 : law_lists_string (if firstErr [fontErr f, textErr s, if 1 ≤ width ∧ width ≤ 20000 then 0 else 3] = 0 then ((wrapB f width s.b).map Str.mk, (0 : Int)) else ([], firstErr [fontErr f, textErr s, if 1 ≤ width ∧ width ≤ 20000 then 0 else 3])).1
      (if firstErr [fontErr f, textErr s, if 1 ≤ width ∧ width ≤ 20000 then 0 else 3] = 0 then ((wrapB f width s.b).map Str.mk, (0 : Int)) else ([], firstErr [fontErr f, textErr s, if 1 ≤ width ∧ width ≤ 20000 then 0 else 3])).2
      (firstErr [fontErr f, textErr s, if 1 ≤ width ∧ width ≤ 20000 then 0 else 3]) (law_TextsMatch_2 f s width) = some true := by
    unfold law_lists_string law_TextsMatch_2
    by_cases h : firstErr [fontErr f, textErr s, if 1 ≤ width ∧ width ≤ 20000 then 0 else 3] = 0
    · rw [if_pos h, h]
      have hz := firstErr_zero.1 h
      have hf := fontErr_zero.1 (hz (fontErr f) (by simp))
      have ht := (textErr_zero.1 (hz (textErr s) (by simp))).1
      have hn := wrapB_len f width s.b
      rw [WrapOf_eq hf (t := s.b) (by omega)]
      simp only [Option.bind_some, decide_true, Bool.not_true, cond_false, gd_true]
      rw [Equal_string_eq _ _ (by simp; omega)]
      simp
    · rw [if_neg h]
      generalize firstErr [fontErr f, textErr s, if 1 ≤ width ∧ width ≤ 20000 then 0 else 3] = E at h
      simp [h]
  rw [h2]
  rfl

end Go.DB
