/-
  Lines in their places: the law.
-/
import Derived.Test.YthopjimlhjgoiaaDoorLayPuLay
set_option linter.unusedSimpArgs false
set_option linter.unusedVariables false
namespace Go.DB
open Go Go.RowKit

theorem Equal_Placed_eq (s t : List Placed) (hl : (s.length : Int) ≤ 9223372036854775807) : slices_Equal_Placed s t = some (decide (s = t)) := by
  unfold slices_Equal_Placed
  by_cases h : s.length = t.length
  · simp only [h, decide_true, Bool.not_true, cond_false]
    rw [← h, rforE_same h hl (fun i hi => by
      unfold slices_Equal_Placed_L1
      rw [need_of ⟨by omega, by omega⟩, need_of ⟨by omega, by omega⟩, gx_nat hi, gx_nat (h ▸ hi)]
      by_cases hv : s[i] = t[i]'(h ▸ hi) <;> simp [hv])]
    by_cases he : s = t <;> simp [he]
  · have h1 : ¬ ((s.length : Int) = t.length) := by omega
    have h2 : ¬ s = t := fun e => h (by rw [e])
    simp [h1, h2]

theorem LaysMatch_true (f : Font) (t : Str) (kind : Int) (b : Box) (pad a d : Int) (ht : fits t) : law_LaysMatch f t kind b pad a d = some true := by
  unfold law_LaysMatch
  rw [Lay_eq, Option.bind_some, ShapeError_eq, Option.bind_some, FontError_eq, Option.bind_some, TextError_eq ht, Option.bind_some, innerError_eq, Option.bind_some, In_eq, Option.bind_some, In_eq]
  have e : ∀ {β : Type} [Inhabited β] (k : Int → Option β), (Option.bind (gd (!!decide (1 ≤ a ∧ a ≤ 3)) (some (decide (4 ≤ d ∧ d ≤ 6)))) fun r7 => Option.bind (ref_When ((!decide (1 ≤ a ∧ a ≤ 3)) || !r7) 1) k) = k (acrossErr a d) := by
    intro β _ k
    unfold acrossErr
    by_cases h1 : 1 ≤ a ∧ a ≤ 3
    · by_cases h2 : 4 ≤ d ∧ d ≤ 6
      · rw [if_pos ⟨h1, h2⟩, decide_eq_true h1, decide_eq_true h2]; rfl
      · rw [if_neg (fun x => h2 x.2), decide_eq_true h1, decide_eq_false h2]; rfl
    · rw [if_neg (fun x => h1 x.1), decide_eq_false h1]
      cases decide (4 ≤ d ∧ d ≤ 6) <;> rfl
  rw [e, First_eq (by simp), Option.bind_some, shapes_eq]
  by_cases h : firstErr [kindErr kind, fontErr f, textErr t, innerErr kind b pad, acrossErr a d] = 0
  · have hz := firstErr_zero.1 h
    have hf := fontErr_zero.1 (hz (fontErr f) (by simp))
    have hte := (textErr_zero.1 (hz (textErr t) (by simp))).1
    have h4 := hz (innerErr kind b pad) (by simp)
    have ha := acrossErr_zero.1 (hz (acrossErr a d) (by simp))
    have hz2 := firstErr_zero.1 h4
    have hb := boxErr_zero.1 (hz2 (boxErr b) (by simp))
    have hp := padErr_zero.1 (hz2 (padErr pad) (by simp))
    unfold okB at hb
    have hbd := innerB_bd (kind := kind) (w := b.W_) (h := b.H) (pad := pad) (by omega) (by omega) hp
    have hin : ¬ ((innerB kind b.W_ b.H pad).W_ < 1 ∨ (innerB kind b.W_ b.H pad).H < 1) := fun x => by
      have := hz2 (if (innerB kind b.W_ b.H pad).W_ < 1 ∨ (innerB kind b.W_ b.H pad).H < 1 then 9 else 0) (by simp)
      rw [if_pos x] at this; cases this
    rw [if_pos h, h]
    simp only [decide_true, cond_true]
    rw [InnerOf_eq (by omega) (by omega) (by omega) (by omega) hp, if_neg hin, Option.bind_some]
    have hn : (innerAt kind b pad).W_ = (innerB kind b.W_ b.H pad).W_ ∧ (innerAt kind b pad).H = (innerB kind b.W_ b.H pad).H ∧ (innerAt kind b pad).X = (innerB kind b.W_ b.H pad).X + b.X ∧ (innerAt kind b pad).Y = (innerB kind b.W_ b.H pad).Y + b.Y := ⟨rfl, rfl, rfl, rfl⟩
    simp only
    generalize innerAt kind b pad = n at hn ⊢
    obtain ⟨n1, n2, n3, n4⟩ := hn
    rw [LayOf_eq hf hte (by omega) (by omega) (by omega) (by omega) ha.1 ha.2]
    simp only [Option.bind_some, gd_true]
    unfold law_lists_Placed law_LaysMatch_1
    by_cases c : n.H < (wrapB f n.W_ t.b).length * f.Line ∨ n.W_ < wmax f (wrapB f n.W_ t.b)
    · rw [if_pos c]; rfl
    · rw [if_neg c]
      have hlen := wrapB_len f n.W_ t.b
      simp only [decide_true, Bool.not_true, cond_false, gd_true, Option.bind_some]
      rw [Equal_Placed_eq _ _ (by unfold layB; simp; omega)]
      simp
  · rw [if_neg h]
    generalize firstErr [kindErr kind, fontErr f, textErr t, innerErr kind b pad, acrossErr a d] = E at h
    simp only [decide_eq_false h, cond_false, Option.bind_some, gd_true]
    unfold law_lists_Placed
    simp [h]
end Go.DB
