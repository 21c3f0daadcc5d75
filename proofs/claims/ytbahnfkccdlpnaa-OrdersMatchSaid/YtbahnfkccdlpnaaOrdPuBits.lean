/-
  Bits of numbers: sets of small numbers.
-/
import Derived.Test.YtbahnfkccdlpnaaPu0
set_option linter.unusedSimpArgs false
set_option linter.unusedVariables false
namespace Go.DB
open Go Go.RowKit

theorem ofInt_nat (a : Nat) : BitVec.ofInt 64 (a : Int) = BitVec.ofNat 64 a := by
  apply BitVec.eq_of_toNat_eq
  rw [BitVec.toNat_ofInt, BitVec.toNat_ofNat]
  omega
theorem iand_nat {a b : Nat} (ha : a < 1073741824) : iand (a : Int) (b : Int) = ((a &&& b : Nat) : Int) := by
  unfold iand
  rw [ofInt_nat, ofInt_nat, BitVec.toNat_and, BitVec.toNat_ofNat, BitVec.toNat_ofNat]
  have h1 : a % 2 ^ 64 = a := Nat.mod_eq_of_lt (by omega)
  have h2 : a &&& (b % 2 ^ 64) = a &&& b := by
    apply Nat.eq_of_testBit_eq
    intro i
    rw [Nat.testBit_and, Nat.testBit_and, Nat.testBit_mod_two_pow]
    by_cases h : i < 64
    · simp [h]
    · have : a.testBit i = false := Nat.testBit_lt_two_pow (Nat.lt_of_lt_of_le (show a < 2 ^ 30 by omega) (Nat.pow_le_pow_right (by omega) (by omega)))
      simp [this]
  rw [h1, h2]
  have : a &&& b ≤ a := Nat.and_le_left
  exact Wk (by omega) (by omega)
theorem ior_nat {a b : Nat} (ha : a < 1073741824) (hb : b < 1073741824) : ior (a : Int) (b : Int) = ((a ||| b : Nat) : Int) := by
  unfold ior
  rw [ofInt_nat, ofInt_nat, BitVec.toNat_or, BitVec.toNat_ofNat, BitVec.toNat_ofNat]
  rw [Nat.mod_eq_of_lt (by omega), Nat.mod_eq_of_lt (by omega)]
  have : a ||| b < 2 ^ 30 := Nat.or_lt_two_pow (by omega) (by omega)
  exact Wk (by omega) (by omega)
theorem iandn_nat {a b : Nat} (ha : a < 1073741824) (hb : b < 1073741824) : ∃ c : Nat, iandn (a : Int) (b : Int) = (c : Int) ∧ c ≤ a ∧ ∀ i, c.testBit i = (a.testBit i && !b.testBit i) := by
  unfold iandn
  rw [ofInt_nat, ofInt_nat]
  refine ⟨(BitVec.ofNat 64 a &&& ~~~BitVec.ofNat 64 b).toNat, ?_, ?_, fun i => ?_⟩
  · have : (BitVec.ofNat 64 a &&& ~~~BitVec.ofNat 64 b).toNat ≤ a := by
      rw [BitVec.toNat_and, BitVec.toNat_ofNat]
      exact Nat.le_trans Nat.and_le_left (Nat.mod_le _ _)
    exact Wk (by omega) (by omega)
  · rw [BitVec.toNat_and, BitVec.toNat_ofNat]
    exact Nat.le_trans Nat.and_le_left (Nat.mod_le _ _)
  · have ha' : ∀ i, 64 ≤ i → a.testBit i = false := fun i h => Nat.testBit_lt_two_pow (Nat.lt_of_lt_of_le (show a < 2 ^ 30 by omega) (Nat.pow_le_pow_right (by omega) (by omega)))
    by_cases h : i < 64
    · rw [BitVec.testBit_toNat, BitVec.getLsbD_and, BitVec.getLsbD_not, BitVec.getLsbD_ofNat, BitVec.getLsbD_ofNat]
      simp [h]
    · rw [ha' i (by omega), Bool.false_and]
      exact Nat.testBit_lt_two_pow (Nat.lt_of_lt_of_le (BitVec.isLt _) (Nat.pow_le_pow_right (by omega) (by omega)))
theorem ishl_nat {i : Nat} (hi : i ≤ 30) : ishl 1 (i : Int) = ((2 ^ i : Nat) : Int) := by
  unfold ishl
  have h1 : min ((i : Int)).toNat 64 = i := by rw [Int.toNat_natCast]; omega
  have h2 : 2 ^ i ≤ 2 ^ 30 := Nat.pow_le_pow_right (by omega) hi
  rw [h1, Int.one_mul]
  have e : (2 : Int) ^ i = ((2 ^ i : Nat) : Int) := by push_cast; rfl
  rw [e]
  generalize 2 ^ i = p at h2 ⊢
  exact Wk (by omega) (by omega)
theorem ishr_nat {a i : Nat} (hi : i ≤ 30) : ishr (a : Int) (i : Int) = ((a >>> i : Nat) : Int) := by
  unfold ishr
  have h1 : min ((i : Int)).toNat 64 = i := by rw [Int.toNat_natCast]; omega
  rw [h1, Nat.shiftRight_eq_div_pow]
  have e : (2 : Int) ^ i = ((2 ^ i : Nat) : Int) := by push_cast; rfl
  rw [e, Int.fdiv_eq_ediv_of_nonneg _ (Int.natCast_nonneg _)]
  rfl
/-- Is i in the set? -/
theorem bit_at {a i : Nat} (ha : a < 1073741824) (hi : i ≤ 30) : iand (ishr (a : Int) (i : Int)) 1 = if a.testBit i = true then 1 else 0 := by
  have hle : a >>> i ≤ a := by rw [Nat.shiftRight_eq_div_pow]; exact Nat.div_le_self _ _
  rw [ishr_nat hi, show (1 : Int) = ((1 : Nat) : Int) from rfl, iand_nat (Nat.lt_of_le_of_lt hle ha)]
  rw [Nat.testBit, Nat.and_comm]
  have h : 1 &&& (a >>> i) = 0 ∨ 1 &&& (a >>> i) = 1 := by
    have := Nat.and_le_left (n := 1) (m := a >>> i)
    omega
  rcases h with h | h <;> rw [h] <;> simp
theorem bit_one {a i : Nat} (ha : a < 1073741824) (hi : i ≤ 30) : decide (iand (ishr (a : Int) (i : Int)) 1 = 1) = a.testBit i := by
  rw [bit_at ha hi]; cases a.testBit i <;> simp
theorem bit_zero {a i : Nat} (ha : a < 1073741824) (hi : i ≤ 30) : decide (iand (ishr (a : Int) (i : Int)) 1 = 0) = !a.testBit i := by
  rw [bit_at ha hi]; cases a.testBit i <;> simp
/-- An element is taken out. -/
def rem (s k : Nat) : Nat := s ^^^ (s &&& 2 ^ k)
theorem rem_bit {s k i : Nat} : (rem s k).testBit i = (s.testBit i && !decide (k = i)) := by
  unfold rem
  rw [Nat.testBit_xor, Nat.testBit_and, Nat.testBit_two_pow]
  cases s.testBit i <;> simp
theorem rem_le {s k : Nat} : rem s k ≤ s := by
  have e : rem s k &&& s = rem s k := Nat.eq_of_testBit_eq fun i => by
    rw [Nat.testBit_and, rem_bit]
    cases s.testBit i <;> simp
  rw [← e]
  exact Nat.and_le_right
theorem rem_lt {s k : Nat} (h : s.testBit k = true) : rem s k < s := by
  refine Nat.lt_of_le_of_ne rem_le fun e => ?_
  have := rem_bit (s := s) (k := k) (i := k)
  rw [e, h] at this
  simp at this
theorem iandn_rem {s k : Nat} (hs : s < 1073741824) (hk : k < 30) : iandn (s : Int) (ishl 1 (k : Int)) = ((rem s k : Nat) : Int) := by
  have h2 : 2 ^ k < 2 ^ 30 := Nat.pow_lt_pow_right (by omega) hk
  rw [ishl_nat (by omega)]
  obtain ⟨c, h1, _, h3⟩ := iandn_nat (b := 2 ^ k) hs (by omega)
  rw [h1]
  congr 1
  refine Nat.eq_of_testBit_eq fun i => ?_
  rw [h3, rem_bit, Nat.testBit_two_pow]
theorem full_bit {m i : Nat} : (2 ^ m - 1).testBit i = decide (i < m) := Nat.testBit_two_pow_sub_one m i
theorem some_bit {s m : Nat} (h0 : 0 < s) (hs : s < 2 ^ m) : ∃ k, k < m ∧ s.testBit k = true := by
  obtain ⟨k, hk⟩ := Nat.exists_testBit_of_ne_zero (show s ≠ 0 by omega)
  refine ⟨k, ?_, hk⟩
  rcases Nat.lt_or_ge k m with c | c
  · exact c
  · have := Nat.testBit_lt_two_pow (Nat.lt_of_lt_of_le hs (Nat.pow_le_pow_right (by omega) c))
    rw [hk] at this; cases this
theorem bit_lt {s m k : Nat} (hs : s < 2 ^ m) (hk : s.testBit k = true) : k < m := by
  rcases Nat.lt_or_ge k m with c | c
  · exact c
  · have := Nat.testBit_lt_two_pow (Nat.lt_of_lt_of_le hs (Nat.pow_le_pow_right (by omega) c))
    rw [hk] at this; cases this
/-- The set of what is not in s. -/
theorem co_bit {s m i : Nat} (hs : s < 2 ^ m) : (2 ^ m - 1 - s).testBit i = (decide (i < m) && !s.testBit i) := by
  have := Nat.testBit_two_pow_sub_succ hs i
  rw [show 2 ^ m - 1 - s = 2 ^ m - (s + 1) by omega]
  exact this
end Go.DB
