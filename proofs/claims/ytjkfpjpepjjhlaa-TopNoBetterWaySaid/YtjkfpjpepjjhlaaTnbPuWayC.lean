/-
  What a right path of a task is.
-/
import Derived.Test.YtjkfpjpepjjhlaaTnbPuSea3
set_option linter.unusedSimpArgs false
set_option linter.unusedVariables false
namespace Go.DB
open Go Go.RowKit

def kept (l : List Point) (i : Nat) : Bool := decide (i = 0) || decide (l.length ≤ i + 1) || !decide (wayI (gx l ((i : Int) - 1)) (gx l i) = wayI (gx l i) (gx l ((i : Int) + 1)))
def tidyUpto (l : List Point) : Nat → List Point
  | 0 => []
  | i + 1 => if kept l i = true then tidyUpto l i ++ [gx l (i : Int)] else tidyUpto l i
/-- At i a path goes on or turns back. -/
def flagAt (l : List Point) (i : Nat) : Prop := decide ((gx l ((i : Int) - 1)).X = (gx l (i : Int)).X) = decide ((gx l (i : Int)).X = (gx l ((i : Int) + 1)).X)
instance (l : List Point) : DecidablePred (flagAt l) := fun i => by unfold flagAt; infer_instance
def oppP (p : Point) : Point := ⟨-p.X, -p.Y⟩
theorem turn_iff {p q r : Point} (h1 : ¬ decide (q.X = p.X) = decide (q.Y = p.Y)) (h2 : ¬ decide (r.X = q.X) = decide (r.Y = q.Y)) : (wayI p q = wayI q r ∨ wayI p q = oppP (wayI q r)) ↔ decide (p.X = q.X) = decide (q.X = r.X) := by
  rw [decide_eq_decide] at *
  unfold wayI oppP sg
  simp only [Point.mk.injEq]
  omega
theorem way_back (a b : Point) : wayI b a = oppP (wayI a b) := by
  unfold wayI oppP sg
  simp only [Point.mk.injEq]
  omega
theorem opp_opp (p : Point) : oppP (oppP p) = p := by unfold oppP; simp
theorem way_small (a b : Point) : -10 ≤ (wayI a b).X ∧ (wayI a b).X ≤ 10 ∧ -10 ≤ (wayI a b).Y ∧ (wayI a b).Y ≤ 10 := by unfold wayI sg; simp only; omega
theorem tow_small (s : Int) : -10 ≤ (tow s).X ∧ (tow s).X ≤ 10 ∧ -10 ≤ (tow s).Y ∧ (tow s).Y ≤ 10 := by rcases tow_cases s with h | h | h | h <;> rw [h] <;> decide

/-- A loop over numbers that ends at the first bad one. -/
theorem loop_upto {ρ : Type} {body : Int → Option (Step Int (Res Unit ρ))} (a n : Nat) (bad : Nat → Prop) (e : ρ) (hbad : ∀ i : Nat, a ≤ i → i < n → bad i → body (i : Int) = some (.done (.ab e)))
    (hgood : ∀ i : Nat, a ≤ i → i < n → ¬ bad i → body (i : Int) = some (.again ((i : Int) + 1))) (hf : body (n : Int) = some (.done (.nx ()))) :
    ∀ (k i : Nat), i + k = n → a ≤ i → ((∃ j, i ≤ j ∧ j < n ∧ bad j) → loop body (i : Int) = some (.ab e)) ∧ ((¬ ∃ j, i ≤ j ∧ j < n ∧ bad j) → loop body (i : Int) = some (.nx ()))
  | 0, i, hk, ha => by
    obtain rfl : i = n := by omega
    exact ⟨fun ⟨j, h1, h2, _⟩ => by omega, fun _ => loop_done hf⟩
  | k + 1, i, hk, ha => by
    by_cases hb : bad i
    · exact ⟨fun _ => loop_done (hbad i ha (by omega) hb), fun h => absurd ⟨i, Nat.le_refl _, by omega, hb⟩ h⟩
    · have ih := loop_upto a n bad e hbad hgood hf k (i + 1) (by omega) (by omega)
      have hl : loop body (i : Int) = loop body ((i + 1 : Nat) : Int) := loop_again (hgood i ha (by omega) hb)
      rw [hl]
      refine ⟨fun ⟨j, h1, h2, h3⟩ => ih.1 ⟨j, ?_, h2, h3⟩, fun h => ih.2 fun ⟨j, h1, h2, h3⟩ => h ⟨j, by omega, h2, h3⟩⟩
      rcases Nat.lt_or_eq_of_le h1 with h4 | h4
      · exact h4
      · subst h4; exact absurd h3 hb

/-- Two neighbours as a path. -/
theorem seg_two {l : List Point} {i : Int} (h0 : 0 ≤ i) (h1 : i + 1 < l.length) : seg l i (i + 2) = [gx l i, gx l (i + 1)] := by
  obtain ⟨k, rfl⟩ : ∃ k : Nat, i = k := ⟨i.toNat, by omega⟩
  have e1 : gx l (k : Int) = l[k] := gx_nat (by omega)
  have e2 : gx l ((k : Int) + 1) = l[k + 1] := gx_nat (i := k + 1) (by omega)
  rw [e1, e2]
  unfold seg
  rw [show ((k : Int) + 2).toNat = k + 2 by omega, show ((k : Int)).toNat = k by omega]
  apply List.ext_getElem
  · simp; omega
  · intro j h1 h2
    simp only [List.length_cons, List.length_nil] at h2
    have : j = 0 ∨ j = 1 := by omega
    rcases this with rfl | rfl <;> simp

/-- A path with the start and the end in place of its ends. -/
def inner (t : Task) (l : List Point) : List Point := (l.set 0 (startP t)).set (l.length - 1) (endP t)
structure WayC (t : Task) (l : List Point) : Prop where
  path : pathErr l = 0
  first : gx l 0 = t.From
  last : gx l ((l.length : Int) - 1) = t.To
  turns : ∀ i : Nat, 1 ≤ i → i < l.length - 1 → ¬ flagAt l i
  out : wayI (gx l 0) (gx l 1) = tow t.FromSide
  in_ : wayI (gx l ((l.length : Int) - 2)) (gx l ((l.length : Int) - 1)) = oppP (tow t.ToSide)
  c1 : t.Clear ≤ farI (gx l 0) (gx l 1)
  c2 : t.Clear ≤ farI (gx l ((l.length : Int) - 2)) (gx l ((l.length : Int) - 1))
  c3 : l.length = 2 → 2 * t.Clear ≤ farI (gx l 0) (gx l 1)
  marks : ∀ i : Nat, 1 ≤ i → i < l.length - 1 → (gx l (i : Int)).X ∈ XL t ∧ (gx l (i : Int)).Y ∈ YL t
  free : ∀ i : Nat, 1 ≤ i → i < l.length → blkB t (gx (inner t l) ((i : Int) - 1)) (gx (inner t l) (i : Int)) = false
end Go.DB
