/-
  What a right path of a task is.
-/
import Derived.Test.YtjkfpjpepjjhlaaLitPuSea3
set_option linter.unusedSimpArgs false
set_option linter.unusedVariables false
namespace Go.DB
open Go Go.RowKit

def kept (l : List Point) (i : Nat) : Bool := decide (i = 0) || decide (l.length ≤ i + 1) || !decide (wayI (gx l ((i : Int) - 1)) (gx l i) = wayI (gx l i) (gx l ((i : Int) + 1)))
def tidyUpto (l : List Point) : Nat → List Point
  | 0 => []
  | i + 1 => if kept l i = true then tidyUpto l i ++ [gx l (i : Int)] else tidyUpto l i
theorem tidyUpto_len (l : List Point) : ∀ i : Nat, (tidyUpto l i).length ≤ i
  | 0 => by simp [tidyUpto]
  | i + 1 => by
    have := tidyUpto_len l i
    unfold tidyUpto
    split <;> simp <;> omega
/-- At i a path goes on or turns back. -/
def flagAt (l : List Point) (i : Nat) : Prop := decide ((gx l ((i : Int) - 1)).X = (gx l (i : Int)).X) = decide ((gx l (i : Int)).X = (gx l ((i : Int) + 1)).X)
instance (l : List Point) : DecidablePred (flagAt l) := fun i => by unfold flagAt; infer_instance
def oppP (p : Point) : Point := ⟨-p.X, -p.Y⟩
theorem turn_iff {p q r : Point} (h1 : ¬ decide (q.X = p.X) = decide (q.Y = p.Y)) (h2 : ¬ decide (r.X = q.X) = decide (r.Y = q.Y)) : (wayI p q = wayI q r ∨ wayI p q = oppP (wayI q r)) ↔ decide (p.X = q.X) = decide (q.X = r.X) := by
  rw [decide_eq_decide] at *
  unfold wayI oppP sg
  simp only [Point.mk.injEq]
  omega
theorem same_flag {p q r : Point} (h1 : ¬ decide (q.X = p.X) = decide (q.Y = p.Y)) (h2 : ¬ decide (r.X = q.X) = decide (r.Y = q.Y)) (h : wayI p q = wayI q r) : decide (p.X = q.X) = decide (q.X = r.X) := (turn_iff h1 h2).1 (.inl h)
theorem opp_opp (p : Point) : oppP (oppP p) = p := by unfold oppP; simp
theorem tidy_all {l : List Point} (h : ∀ i, i < l.length → kept l i = true) : ∀ m, m ≤ l.length → tidyUpto l m = l.take m
  | 0, _ => by simp [tidyUpto]
  | m + 1, hm => by
    rw [tidyUpto, if_pos (h m (by omega)), tidy_all h m (by omega), gx_nat (by omega), List.take_succ_eq_append_getElem (by omega)]
theorem tidy_same {l : List Point} (h : pathErr l = 0) (hn : ¬ ∃ i, 1 ≤ i ∧ i < l.length - 1 ∧ flagAt l i) : tidyUpto l l.length = l := by
  have hbad := (isPath_iff.1 (pathErr_zero.1 h).2).2
  rw [tidy_all (fun i hi => ?_) _ (Nat.le_refl _)]
  · simp
  · unfold kept
    by_cases c1 : i = 0
    · simp [c1]
    · by_cases c2 : l.length ≤ i + 1
      · simp [c2]
      · have b1 := hbad i (by omega) (by omega)
        have b2 := hbad (i + 1) (by omega) (by omega)
        unfold badAt at b1 b2
        have e : ((i + 1 : Nat) : Int) - 1 = (i : Int) := by omega
        have e' : ((i + 1 : Nat) : Int) = (i : Int) + 1 := by omega
        rw [e, e'] at b2
        have : ¬ wayI (gx l ((i : Int) - 1)) (gx l (i : Int)) = wayI (gx l (i : Int)) (gx l ((i : Int) + 1)) := fun hw => hn ⟨i, by omega, by omega, same_flag b1 b2 hw⟩
        simp [this]

/-- A path with the start and the end in place of its ends. -/
def inner (t : Task) (l : List Point) : List Point := (l.set 0 (startP t)).set (l.length - 1) (endP t)
structure WayC (t : Task) (l : List Point) : Prop where
  path : pathErr l = 0
  first : gx l 0 = t.From
  last : gx l ((l.length : Int) - 1) = t.To
  turns : ∀ i : Nat, 1 ≤ i → i < l.length - 1 → ¬ flagAt l i
  out : wayI (gx l 0) (gx l 1) = tow t.FromSide
  in_ : wayI (gx l ((l.length : Int) - 2)) (gx l ((l.length : Int) - 1)) = oppP (tow t.ToSide)
  c1 : t.Clear ≤ farI (gx l 0) (gx l 1)
  c2 : t.Clear ≤ farI (gx l ((l.length : Int) - 2)) (gx l ((l.length : Int) - 1))
  c3 : l.length = 2 → 2 * t.Clear ≤ farI (gx l 0) (gx l 1)
  marks : ∀ i : Nat, 1 ≤ i → i < l.length - 1 → (gx l (i : Int)).X ∈ XL t ∧ (gx l (i : Int)).Y ∈ YL t
  free : ∀ i : Nat, 1 ≤ i → i < l.length → blkB t (gx (inner t l) ((i : Int) - 1)) (gx (inner t l) (i : Int)) = false
end Go.DB
