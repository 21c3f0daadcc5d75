/-
  Graphs are looked at alike.
-/
import Derived.Test.YtbahnfkccdlpnaaSwePuRef
set_option linter.unusedSimpArgs false
set_option linter.unusedVariables false
namespace Go.DB
open Go Go.RowKit

/-! Graphs. -/

def linkErr (n : Int) (x : Link) : Int := if ¬ (0 ≤ x.From ∧ x.From < n) ∨ ¬ (0 ≤ x.To ∧ x.To < n) then 10 else if x.From = x.To then 2 else 0
def graphErr (n : Int) (l : List Link) : Int := if n < 1 ∨ 60 < n then 3 else if 200 < l.length then 4 else firstErr (l.map (linkErr n))

theorem layer_Check_eq (n : Int) (l : List Link) : layer_Check n l = some (graphErr n l) := by
  unfold layer_Check graphErr
  by_cases h1 : n < 1 ∨ 60 < n
  · have : ((decide (n < 1)) || (decide (60 < n))) = true := by simpa using h1
    simp only [this, cond_true, if_pos h1]
  · have : ((decide (n < 1)) || (decide (60 < n))) = false := by simpa using h1
    simp only [this, cond_false, if_neg h1]
    by_cases h2 : 200 < l.length
    · have : decide (200 < (l.length : Int)) = true := by simpa using (by omega : (200 : Int) < l.length)
      simp only [this, cond_true, if_pos h2]
    · have : decide (200 < (l.length : Int)) = false := by simpa using (by omega : ¬ (200 : Int) < l.length)
      simp only [this, cond_false, if_neg h2]
      rw [rforE_err (linkErr n) (fun e => Res.ab e) (by omega) (fun i hi => ?_)]
      · by_cases h : firstErr (l.map (linkErr n)) = 0
        · simp only [if_pos h, bindR_nx]; rw [h]
        · simp only [if_neg h, bindR_ab]
      · unfold layer_Check_L1 layer_Check_1 linkErr
        rw [need_of hi]
        simp only [bnd_eq, bind_sm]
        generalize gx l i = x
        by_cases a : 0 ≤ x.From ∧ x.From < n
        · by_cases b : 0 ≤ x.To ∧ x.To < n
          · by_cases c : x.From = x.To <;> simp [a, b, c]
          · have hb : ((decide (0 ≤ x.To)) && (decide (x.To < n))) = false := by simpa using b
            simp [a.1, a.2, b, hb]
        · have ha : ((decide (0 ≤ x.From)) && (decide (x.From < n))) = false := by simpa using a
          simp [a, ha]
theorem layers_eq : law_layers = some true := by
  unfold law_layers
  simp [layer_Check_eq, graphErr]
end Go.DB
