/-
  Ranks whose total is the least: no others have a lesser one.
-/
import Derived.Test.YtbahnfkccdlpnaaTLaPuRanks3
import Derived.Test.YtbahnfkccdlpnaaTLaPuTotals
set_option linter.unusedSimpArgs false
set_option linter.unusedVariables false
namespace Go.DB
open Go Go.RowKit

theorem baS_cons {x : Link} {l : List Link} {p : Int → Int} : baS (x :: l) p = (p x.To - p x.From) + baS l p := by
  unfold baS
  rw [List.length_cons, Nat.add_comm, sm_split]
  have e1 : sm (fun i : Nat => p (gx (x :: l) (i : Int)).To - p (gx (x :: l) (i : Int)).From) 1 = 0 + (p x.To - p x.From) := rfl
  rw [e1, Int.zero_add]
  congr 1
  refine sm_congr fun i hi => ?_
  have : gx (x :: l) ((1 + i : Nat) : Int) = gx l (i : Int) := by
    rw [gx_nat (by simp; omega), gx_nat hi]
    simp [Nat.add_comm]
  rw [this]
theorem sumD_eq {ranks : List Int} : ∀ (l : List Link) (s : Int), (∀ x ∈ l, 0 ≤ stepD ranks x ∧ stepD ranks x ≤ 1000) → 0 ≤ s → s + 1000 * l.length ≤ 1000000000 → sumD ranks l s = s + baS l (gx ranks)
  | [], s, _, _, _ => by
    show s = s + 0
    omega
  | x :: l, s, h, h0, h1 => by
    have hx := h x (by simp)
    rw [List.length_cons] at h1
    push_cast at h1
    have e : sumD ranks (x :: l) s = sumD ranks l (W (s + stepD ranks x)) := rfl
    rw [e, Wk (by omega) (by omega), sumD_eq l _ (fun y hy => h y (by simp [hy])) (by omega) (by omega), baS_cons]
    unfold stepD; omega

section
variable {n : Nat} {l : List Link} {c r f : List Int}
/-- The total of such ranks. -/
theorem total_ranks (hg : graphErr (n : Int) l = 0) (hl : OKl n l) (hr : RanksOK n l c r f) : totalOf (n : Int) l r = (sF l f, 0) := by
  have hll := hl.1
  have hrl := hr.len
  have e1 : r.any rankOut = false := by
    rw [List.any_eq_false]
    intro x hx
    obtain ⟨j, hj, rfl⟩ := mem_gx hx
    have := hr.bd j hj.1 (by have := hj.2; omega)
    simp [rankOut]; omega
  have e2 : l.any (fun x => decide (gx r x.To ≤ gx r x.From)) = false := by
    rw [List.any_eq_false]
    intro x hx
    obtain ⟨j, hj, rfl⟩ := mem_gx hx
    have := hr.kept j hj
    simp; omega
  unfold totalOf
  rw [if_neg (by simp [hg]), if_neg (by omega), e1, e2]
  simp only [Bool.false_eq_true, if_false]
  rw [sumD_eq l 0 (fun x hx => by
    obtain ⟨j, hj, rfl⟩ := mem_gx hx
    obtain ⟨a, b, d⟩ := hl.2 _ hj
    have := hr.bd _ a.1 a.2
    have := hr.bd _ b.1 b.2
    have := hr.kept j hj
    unfold stepD; omega) (by omega) (by omega), Int.zero_add, ← hr.flow.con]
  congr 1
  refine sm_congr fun k hk => ?_
  have hk' : inR l (k : Int) := ⟨by omega, by omega⟩
  have hp := hr.flow.pos _ hk'
  rcases Int.lt_or_le 0 (gx f (k : Int)) with y | y
  · rw [hr.tight _ hk' y, show gx r (gx l (k : Int)).From + 1 - gx r (gx l (k : Int)).From = 1 by omega, Int.mul_one]
  · rw [show gx f (k : Int) = 0 by omega, Int.zero_mul]
theorem total_least (hg : graphErr (n : Int) l = 0) (hl : OKl n l) (hr : RanksOK n l c r f) (other : List Int) : (totalOf (n : Int) l other).2 ≠ 0 ∨ sF l f ≤ (totalOf (n : Int) l other).1 := by
  have hll := hl.1
  have hco := hr.flow.con
  unfold totalOf
  rw [if_neg (by simp [hg])]
  by_cases q1 : (other.length : Int) ≠ n
  · rw [if_pos q1]; simp
  · rw [if_neg q1]
    by_cases q2 : other.any rankOut = true
    · rw [if_pos q2]; simp
    · rw [if_neg q2]
      by_cases q3 : l.any (fun x => decide (gx other x.To ≤ gx other x.From)) = true
      · rw [if_pos q3]; simp
      · rw [if_neg q3]
        have q2' : other.any rankOut = false := by simpa using q2
        have q3' : l.any (fun x => decide (gx other x.To ≤ gx other x.From)) = false := by
          cases hh : l.any (fun x => decide (gx other x.To ≤ gx other x.From)) with
          | false => rfl
          | true => exact absurd hh q3
        rw [List.any_eq_false] at q2' q3'
        have hok : ∀ j, inR l j → 1 ≤ gx other (gx l j).To - gx other (gx l j).From ∧ gx other (gx l j).To - gx other (gx l j).From ≤ 1000 := fun j hj => by
          obtain ⟨a, b, d⟩ := hl.2 _ hj
          have b1 := q2' _ (gx_mem (l := other) (k := (gx l j).To) ⟨b.1, by omega⟩)
          have b2 := q2' _ (gx_mem (l := other) (k := (gx l j).From) ⟨a.1, by omega⟩)
          have b3 := q3' _ (gx_mem hj)
          simp [rankOut] at b1 b2 b3
          omega
        right
        rw [sumD_eq l 0 (fun x hx => by
          obtain ⟨j, hj, rfl⟩ := mem_gx hx
          have := hok j hj
          unfold stepD; omega) (by omega) (by omega), Int.zero_add, ← hco]
        refine sm_le fun k hk => ?_
        have hk' : inR l (k : Int) := ⟨by omega, by omega⟩
        have := Int.mul_le_mul_of_nonneg_left (hok _ hk').1 (hr.flow.pos _ hk')
        simpa using this
end
end Go.DB
