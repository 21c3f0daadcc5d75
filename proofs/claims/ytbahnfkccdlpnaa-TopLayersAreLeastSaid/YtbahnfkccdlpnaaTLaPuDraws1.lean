/-
  Drawings in layers: no rank up to the greatest is missing.
-/
import Derived.Test.YtbahnfkccdlpnaaTLaPuRanks3
set_option linter.unusedSimpArgs false
set_option linter.unusedVariables false
namespace Go.DB
open Go Go.RowKit

/-- Between a rank and 0 there is each rank. -/
theorem RanksOK.full {n : Nat} {l : List Link} {c out f : List Int} (hl : OKl n l) (hc : Lab n l c) (h : RanksOK n l c out f) {v : Int} (v0 : 0 ≤ v) (v1 : v < n) {k : Int} (k0 : 0 ≤ k) (k1 : k ≤ gx out v) : ∃ u : Int, 0 ≤ u ∧ u < n ∧ gx out u = k := by
  have hll := hl.1
  by_cases hex : ∃ u : Int, 0 ≤ u ∧ u < n ∧ gx out u = k
  · exact hex
  · exfalso
    have hno : ∀ u : Int, 0 ≤ u → u < n → gx out u ≠ k := fun u u0 u1 e => hex ⟨u, u0, u1, e⟩
    let p : Int → Int := fun u => if k < gx out u then 1 else 0
    have pin : ∀ u, k < gx out u → p u = 1 := fun u hu => if_pos hu
    have pout : ∀ u, ¬ k < gx out u → p u = 0 := fun u hu => if_neg hu
    have hge : ∀ i, inR l i → p (gx l i).From ≤ p (gx l i).To := fun i hi => by
      have := h.kept i hi
      by_cases c1 : k < gx out (gx l i).From
      · rw [pin _ c1, pin _ (by omega)]; exact Int.le_refl _
      · rw [pout _ c1]
        by_cases c2 : k < gx out (gx l i).To
        · rw [pin _ c2]; omega
        · rw [pout _ c2]; exact Int.le_refl _
    have h1 : wS l f p = 0 := by
      have : wS l f p = sm (fun _ => 0) l.length := sm_congr fun j hj => by
        have hj' : inR l (j : Int) := ⟨by omega, by omega⟩
        obtain ⟨a, b, d⟩ := hl.2 _ hj'
        have hp := h.flow.pos _ hj'
        rcases Int.lt_or_le 0 (gx f (j : Int)) with y | y
        · have ht := h.tight _ hj' y
          have n1 := hno _ a.1 a.2
          have n2 := hno _ b.1 b.2
          by_cases c1 : k < gx out (gx l (j : Int)).From
          · rw [pin _ c1, pin _ (by omega)]; simp
          · rw [pout _ c1, pout _ (by omega)]; simp
        · rw [show gx f (j : Int) = 0 by omega, Int.zero_mul]
      rw [this, sm_zero]
    rw [h.flow.con] at h1
    have hcon : Con l p := fun i hi => by
      have h2 := sm_eq (f := fun _ : Nat => (0 : Int)) (g := fun i : Nat => p (gx l (i : Int)).To - p (gx l (i : Int)).From) (n := l.length) (fun j hj => by
        have := hge (j : Int) ⟨by omega, by omega⟩
        omega) (by rw [sm_zero]; exact Int.le_of_eq h1) i.toNat (by have := hi.1; have := hi.2; omega)
      rw [show ((i.toNat : Nat) : Int) = i by have := hi.1; omega] at h2
      omega
    obtain ⟨j, j0, j1, j2, j3⟩ := h.zero v v0 v1
    have e1 := hc.con p hcon v v0 v1
    have e2 := hc.con p hcon j j0 j1
    have e3 := hno v v0 v1
    rw [j2, e1, pin v (by omega), pout j (by omega)] at e2
    omega
end Go.DB
