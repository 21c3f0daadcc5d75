/-
  A right path gives a way on the lines of its task.
-/
import Derived.Test.YtjkfpjpepjjhlaaLitPuRch1
import Derived.Test.YtjkfpjpepjjhlaaLitPuWayC
set_option linter.unusedSimpArgs false
set_option linter.unusedVariables false
namespace Go.DB
open Go Go.RowKit

theorem tow_inj {a b : Int} (a1 : 1 ≤ a) (a4 : a ≤ 4) (b1 : 1 ≤ b) (b4 : b ≤ 4) (h : tow a = tow b) : a = b := by
  have ha : a = 1 ∨ a = 2 ∨ a = 3 ∨ a = 4 := by omega
  have hb : b = 1 ∨ b = 2 ∨ b = 3 ∨ b = 4 := by omega
  rcases ha with rfl | rfl | rfl | rfl <;> rcases hb with rfl | rfl | rfl | rfl <;> first | rfl | (simp [tow] at h)
theorem opp_tow {s : Int} (h1 : 1 ≤ s) (h4 : s ≤ 4) : oppP (tow s) = tow (backS s) := by
  have hs : s = 1 ∨ s = 2 ∨ s = 3 ∨ s = 4 := by omega
  rcases hs with rfl | rfl | rfl | rfl <;> rfl
theorem back_in {s : Int} (h1 : 1 ≤ s) (h4 : s ≤ 4) : 1 ≤ backS s ∧ backS s ≤ 4 := by unfold backS; omega
theorem back_back {s : Int} (h1 : 1 ≤ s) (h4 : s ≤ 4) : backS (backS s) = s := by unfold backS; omega

/-- The ends of a task on its lines. -/
structure EndsN (t : Task) (fr to : Route_spot) : Prop where
  fs : fr.side = t.FromSide
  ts : to.side = backS t.ToSide
  fo : OnN t fr
  eo : OnN t to
  fp : ptS t fr = startP t
  ep : ptS t to = endP t

theorem inner_at {t : Task} {l : List Point} (hn : 2 ≤ l.length) : gx (inner t l) 0 = startP t ∧ gx (inner t l) ((l.length - 1 : Nat) : Int) = endP t ∧ ∀ i : Nat, 1 ≤ i → i < l.length - 1 → gx (inner t l) (i : Int) = gx l (i : Int) := by
  unfold inner
  refine ⟨?_, ?_, fun i h1 h2 => ?_⟩
  · rw [show (0 : Int) = ((0 : Nat) : Int) from rfl, gx_setH (by simp; omega), if_neg (by omega), gx_setH (by omega), if_pos rfl]
  · rw [gx_setH (by simp; omega), if_pos rfl]
  · rw [gx_setH (by simp; omega), if_neg (by omega), gx_setH (by omega), if_neg (by omega)]
end Go.DB
