/-
  The box for a text within a shape.
-/
import Derived.Test.YthopjimlhjgoiaaDoorTTxPuBox
set_option linter.unusedSimpArgs false
set_option linter.unusedVariables false
namespace Go.DB
open Go Go.RowKit

def kindErr (k : Int) : Int := if 1 ≤ k ∧ k ≤ 5 then 0 else 1
def padErr (n : Int) : Int := if 0 ≤ n ∧ n ≤ 100 then 0 else 3
theorem kindErr_zero {k : Int} : kindErr k = 0 ↔ 1 ≤ k ∧ k ≤ 5 := by unfold kindErr; split <;> simp_all
theorem padErr_zero {k : Int} : padErr k = 0 ↔ 0 ≤ k ∧ k ≤ 100 := by unfold padErr; split <;> simp_all
/-- The box for a text, from the shape's corner on. -/
def innerB (kind w h pad : Int) : Box :=
  if kind = 2 then ⟨h / 4 + pad, pad, w - h / 4 * 2 - 2 * pad, h - 2 * pad⟩
  else if kind = 3 then ⟨(w - w * 7 / 10) / 2 + pad, (h - h * 7 / 10) / 2 + pad, w * 7 / 10 - 2 * pad, h * 7 / 10 - 2 * pad⟩
  else if kind = 4 then ⟨(w - w / 2) / 2 + pad, (h - h / 2) / 2 + pad, w / 2 - 2 * pad, h / 2 - 2 * pad⟩
  else ⟨pad, pad, w - 2 * pad, h - 2 * pad⟩
theorem td {a b : Int} (h : 0 ≤ a) : a.tdiv b = a / b := Int.tdiv_eq_ediv_of_nonneg h
theorem inner_eq {kind w h pad : Int} (hw : 0 ≤ w ∧ w ≤ 1000000) (hh : 0 ≤ h ∧ h ≤ 1000000) (hp : 0 ≤ pad ∧ pad ≤ 100) : shape_inner kind w h pad = some (innerB kind w h pad) := by
  unfold shape_inner innerB
  simp only [bnd_eq]
  by_cases k2 : kind = 2
  · rw [decide_eq_true k2, cond_true, if_pos k2]
    simp only [Option.bind_some]
    rw [td hh.1, Wk (n := h / 4 * 2) (by omega) (by omega), Wk (n := w - h / 4 * 2) (by omega) (by omega), Wk (n := 2 * pad) (by omega) (by omega), Wk (by omega) (by omega), Wk (by omega) (by omega), Wk (by omega) (by omega), Wk (by omega) (by omega)]
    simp
  · rw [decide_eq_false k2, cond_false, if_neg k2]
    by_cases k3 : kind = 3
    · rw [decide_eq_true k3, cond_true, if_pos k3]
      simp only [Option.bind_some]
      rw [Wk (n := w * 7) (by omega) (by omega), Wk (n := h * 7) (by omega) (by omega), td (a := w * 7) (by omega), td (a := h * 7) (by omega), Wk (n := w - w * 7 / 10) (by omega) (by omega), Wk (n := h - h * 7 / 10) (by omega) (by omega), td (a := w - w * 7 / 10) (by omega), td (a := h - h * 7 / 10) (by omega),
        Wk (n := 2 * pad) (by omega) (by omega), Wk (by omega) (by omega), Wk (by omega) (by omega), Wk (by omega) (by omega), Wk (by omega) (by omega)]
    · rw [decide_eq_false k3, cond_false, if_neg k3]
      by_cases k4 : kind = 4
      · rw [decide_eq_true k4, cond_true, if_pos k4]
        simp only [Option.bind_some]
        rw [td hw.1, td hh.1, Wk (n := w - w / 2) (by omega) (by omega), Wk (n := h - h / 2) (by omega) (by omega), td (a := w - w / 2) (by omega), td (a := h - h / 2) (by omega),
          Wk (n := 2 * pad) (by omega) (by omega), Wk (by omega) (by omega), Wk (by omega) (by omega), Wk (by omega) (by omega), Wk (by omega) (by omega)]
      · rw [decide_eq_false k4, cond_false, if_neg k4]
        simp only [Option.bind_some]
        rw [Wk (n := 2 * pad) (by omega) (by omega), Wk (by omega) (by omega), Wk (by omega) (by omega), Wk (by omega) (by omega)]
        simp
theorem isKind_eq (k : Int) : shape_isKind k = some (decide (kindErr k = 0)) := by
  unfold shape_isKind kindErr
  congr 1
  by_cases h : 1 ≤ k ∧ k ≤ 5
  · rw [if_pos h]; simp; omega
  · rw [if_neg h]; simp; omega
def innerErr (kind : Int) (b : Box) (pad : Int) : Int :=
  firstErr [kindErr kind, boxErr b, padErr pad, if (innerB kind b.W_ b.H pad).W_ < 1 ∨ (innerB kind b.W_ b.H pad).H < 1 then 9 else 0]
def innerAt (kind : Int) (b : Box) (pad : Int) : Box := ⟨(innerB kind b.W_ b.H pad).X + b.X, (innerB kind b.W_ b.H pad).Y + b.Y, (innerB kind b.W_ b.H pad).W_, (innerB kind b.W_ b.H pad).H⟩
theorem innerB_bd {kind w h pad : Int} (hw : 0 ≤ w ∧ w ≤ 1000000) (hh : 0 ≤ h ∧ h ≤ 1000000) (hp : 0 ≤ pad ∧ pad ≤ 100) :
    0 ≤ (innerB kind w h pad).X ∧ (innerB kind w h pad).X ≤ 1000100 ∧ 0 ≤ (innerB kind w h pad).Y ∧ (innerB kind w h pad).Y ≤ 1000100 ∧ -1000200 ≤ (innerB kind w h pad).W_ ∧ (innerB kind w h pad).W_ ≤ w ∧ -1000200 ≤ (innerB kind w h pad).H ∧ (innerB kind w h pad).H ≤ h := by
  unfold innerB
  repeat' split
  all_goals (simp only; omega)
theorem Inner_eq (kind : Int) (b : Box) (pad : Int) : shape_Inner kind b pad = some (if innerErr kind b pad = 0 then (innerAt kind b pad, 0) else (⟨0, 0, 0, 0⟩, innerErr kind b pad)) := by
  unfold shape_Inner innerErr
  simp only [bnd_eq]
  rw [isKind_eq, Option.bind_some]
  by_cases h1 : kindErr kind = 0
  · rw [CheckBox_eq, Option.bind_some]
    simp only [h1, decide_true, Bool.not_true, cond_false, firstErr_cons, if_true]
    by_cases h2 : boxErr b = 0
    · have hb := boxErr_zero.1 h2
      unfold okB at hb
      simp only [h2, decide_true, Bool.not_true, cond_false, if_true]
      by_cases h3 : padErr pad = 0
      · have hp := padErr_zero.1 h3
        have e : (decide (pad < 0) || decide (100 < pad)) = false := by simp; omega
        rw [e, cond_false, inner_eq (by omega) (by omega) hp, Option.bind_some]
        have hbd := innerB_bd (kind := kind) (w := b.W_) (h := b.H) (pad := pad) (by omega) (by omega) hp
        simp only [h3, if_true]
        unfold innerAt
        generalize innerB kind b.W_ b.H pad = n at hbd ⊢
        by_cases h4 : n.W_ < 1 ∨ n.H < 1
        · have e2 : (decide (n.W_ < 1) || decide (n.H < 1)) = true := by simpa using h4
          rw [e2]; simp [h4]
        · have e2 : (decide (n.W_ < 1) || decide (n.H < 1)) = false := by simpa using h4
          rw [e2, cond_false, Wk (by omega) (by omega), Wk (by omega) (by omega)]
          simp [h4]
      · have hp : ¬ (0 ≤ pad ∧ pad ≤ 100) := fun x => h3 (padErr_zero.2 x)
        have e : (decide (pad < 0) || decide (100 < pad)) = true := by simp; omega
        have e3 : padErr pad = 3 := by unfold padErr; rw [if_neg hp]
        rw [e, cond_true]; simp [e3]
    · simp [h2]
  · have e : kindErr kind = 1 := by unfold kindErr at h1 ⊢; split <;> simp_all
    simp [h1, e]

end Go.DB
