/-
  Decimal numerals that are written and read again.
-/
import Derived.Test.YtjnglmeiifcgjaaGreatDoorExItoa
import Derived.Test.YtjnglmeiifcgjaaGreatDoorExAtoi
import Derived.Lib.AtoiTie
set_option linter.unusedSimpArgs false
set_option linter.unusedVariables false
namespace Go.DB
open Go Go.RowKit

theorem digitVal_of {d : Nat} (h : d < 10) : Go.Lib.digitVal (UInt8.ofNat (48 + d)) = some d := by
  have e : (UInt8.ofNat (48 + d)).toNat = 48 + d := by rw [UInt8.toNat_ofNat']; omega
  unfold Go.Lib.digitVal
  rw [e, if_pos (by omega)]
  congr 1; omega
theorem decFrom_append : ∀ (l m : List UInt8) (acc : Nat), Go.Lib.decFrom acc (l ++ m) = (Go.Lib.decFrom acc l).bind fun a => Go.Lib.decFrom a m
  | [], m, acc => rfl
  | b :: l, m, acc => by
    simp only [List.cons_append, Go.Lib.decFrom]
    cases Go.Lib.digitVal b with
    | none => rfl
    | some d => exact decFrom_append l m _
theorem decFrom_digits (u : Nat) : ∀ acc, Go.Lib.decFrom acc (Go.Lib.decDigits u) = some (acc * 10 ^ Go.Lib.nDigits u + u) := by
  induction u using Nat.strongRecOn with
  | _ u ih =>
    intro acc
    by_cases h : u < 10
    · rw [Go.Lib.decDigits_one h, Go.Lib.nDigits_small h]
      simp only [Go.Lib.decFrom, digitVal_of h, Nat.pow_one]
    · rw [Go.Lib.decDigits, dif_neg h, Go.Lib.nDigits_big h, decFrom_append, ih (u / 10) (by omega), Option.bind_some]
      simp only [Go.Lib.decFrom, digitVal_of (show u % 10 < 10 by omega)]
      congr 1
      rw [Nat.pow_succ, Nat.add_mul, Nat.mul_assoc]; omega
theorem digits_mem (u : Nat) : ∀ b ∈ Go.Lib.decDigits u, 48 ≤ b.toNat ∧ b.toNat ≤ 57 := by
  induction u using Nat.strongRecOn with
  | _ u ih =>
    intro b hb
    have e : ∀ d, d < 10 → (UInt8.ofNat (48 + d)).toNat = 48 + d := fun d h => by rw [UInt8.toNat_ofNat']; omega
    by_cases h : u < 10
    · rw [Go.Lib.decDigits_one h] at hb
      simp only [List.mem_singleton] at hb
      rw [hb, e u h]; omega
    · rw [Go.Lib.decDigits, dif_neg h] at hb
      rcases List.mem_append.1 hb with hb | hb
      · exact ih (u / 10) (by omega) b hb
      · simp only [List.mem_singleton] at hb
        rw [hb, e _ (show u % 10 < 10 by omega)]; omega
theorem digits_ne (u : Nat) : Go.Lib.decDigits u ≠ [] := fun e => by
  have := Go.Lib.decDigits_length u
  rw [e] at this
  have := Go.Lib.nDigits_pos u
  simp at *; omega
theorem decNat_digits (u : Nat) : Go.Lib.decNat (Go.Lib.decDigits u) = some u := by
  unfold Go.Lib.decNat
  rw [if_neg (by simpa using digits_ne u), decFrom_digits]; simp
theorem atoi_itoa (n : Int) : Go.Lib.atoi (Go.Lib.itoa n) = some n := by
  unfold Go.Lib.itoa
  split
  · rename_i h
    unfold Go.Lib.atoi
    simp only [beq_self_eq_true, if_true, decNat_digits, Option.map_some]
    congr 1; omega
  · rename_i h
    cases hd : Go.Lib.decDigits n.toNat with
    | nil => exact absurd hd (digits_ne _)
    | cons b r =>
      have hb := digits_mem n.toNat b (by rw [hd]; simp)
      have h1 : (b == 45) = false := beq_eq_false_iff_ne.2 fun e => by rw [e] at hb; simp at hb
      have h2 : (b == 43) = false := beq_eq_false_iff_ne.2 fun e => by rw [e] at hb; simp at hb
      unfold Go.Lib.atoi
      simp only [h1, h2, Bool.false_eq_true, if_false]
      rw [← hd, decNat_digits, Option.map_some]
      congr 1; omega
theorem itoa_mem {n : Int} {b : UInt8} (h : b ∈ Go.Lib.itoa n) : b = 45 ∨ (48 ≤ b.toNat ∧ b.toNat ≤ 57) := by
  unfold Go.Lib.itoa at h
  split at h
  · rcases List.mem_cons.1 h with h | h
    · exact .inl h
    · exact .inr (digits_mem _ b h)
  · exact .inr (digits_mem _ b h)
theorem itoa_ne (n : Int) : Go.Lib.itoa n ≠ [] := by
  unfold Go.Lib.itoa
  split
  · simp
  · exact digits_ne _
theorem nDigits_le {u k : Nat} (hk : 1 ≤ k) (h : u < 10 ^ k) : Go.Lib.nDigits u ≤ k := by
  rcases Nat.eq_zero_or_pos u with rfl | hu
  · rw [Go.Lib.nDigits_small (by decide)]; exact hk
  · refine Nat.le_of_not_lt fun hc => ?_
    have : ∀ m, ∀ u, 0 < u → u < 10 ^ m → 1 ≤ m → Go.Lib.nDigits u ≤ m := by
      intro m
      induction m with
      | zero => intro u _ _ h; omega
      | succ m ih =>
        intro u hu h _
        by_cases h10 : u < 10
        · rw [Go.Lib.nDigits_small h10]; omega
        · rw [Go.Lib.nDigits_big h10]
          have hm : 1 ≤ m := by
            rcases Nat.eq_zero_or_pos m with rfl | h'
            · simp at h; omega
            · exact h'
          have := ih (u / 10) (by omega) (by rw [Nat.pow_succ] at h; omega) hm
          omega
    have := this k u hu h hk
    omega
theorem itoa_len {n : Int} {k : Nat} (hk : 1 ≤ k) (h0 : 0 ≤ n) (h : n.toNat < 10 ^ k) : (Go.Lib.itoa n).length ≤ k := by
  unfold Go.Lib.itoa
  rw [if_neg (by omega), Go.Lib.decDigits_length]
  exact nDigits_le hk h
theorem atoiI_itoa {n : Int} (h : (Go.Lib.itoa n).length ≤ 18) : atoiI (itoaS n) = (n, ⟨false⟩) := by
  unfold atoiI itoaS
  simp only [Go.Lib.atoiAll_short _ h, atoi_itoa]
  rfl
end Go.DB
