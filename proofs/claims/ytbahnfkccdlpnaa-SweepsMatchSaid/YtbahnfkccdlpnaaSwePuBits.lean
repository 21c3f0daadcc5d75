/-
  Bits of numbers: sets of small numbers.
-/
import Derived.Test.YtbahnfkccdlpnaaPu0
set_option linter.unusedSimpArgs false
set_option linter.unusedVariables false
namespace Go.DB
open Go Go.RowKit

/-- An element is taken out. -/
def rem (s k : Nat) : Nat := s ^^^ (s &&& 2 ^ k)
theorem rem_bit {s k i : Nat} : (rem s k).testBit i = (s.testBit i && !decide (k = i)) := by
  unfold rem
  rw [Nat.testBit_xor, Nat.testBit_and, Nat.testBit_two_pow]
  cases s.testBit i <;> simp
theorem rem_le {s k : Nat} : rem s k ≤ s := by
  have e : rem s k &&& s = rem s k := Nat.eq_of_testBit_eq fun i => by
    rw [Nat.testBit_and, rem_bit]
    cases s.testBit i <;> simp
  rw [← e]
  exact Nat.and_le_right
theorem rem_lt {s k : Nat} (h : s.testBit k = true) : rem s k < s := by
  refine Nat.lt_of_le_of_ne rem_le fun e => ?_
  have := rem_bit (s := s) (k := k) (i := k)
  rw [e, h] at this
  simp at this
theorem bit_lt {s m k : Nat} (hs : s < 2 ^ m) (hk : s.testBit k = true) : k < m := by
  rcases Nat.lt_or_ge k m with c | c
  · exact c
  · have := Nat.testBit_lt_two_pow (Nat.lt_of_lt_of_le hs (Nat.pow_le_pow_right (by omega) c))
    rw [hk] at this; cases this
end Go.DB
