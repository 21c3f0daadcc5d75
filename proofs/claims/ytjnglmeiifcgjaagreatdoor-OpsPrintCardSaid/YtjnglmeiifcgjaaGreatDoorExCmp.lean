/-
  Strings in order.
-/
import Derived.Test.YtjnglmeiifcgjaaGreatDoorExSortFunc
import Derived.Lib.Bytealg
import Derived.Laws.Cover1
import Derived.StillTailTactics
set_option linter.unusedSimpArgs false
set_option linter.unusedVariables false
namespace Go.DB
open Go Go.RowKit

theorem u8_eq {a b : UInt8} (h1 : ¬ a.toNat < b.toNat) (h2 : ¬ b.toNat < a.toNat) : a = b := UInt8.toNat_inj.1 (by omega)
/-- Which of two strings is ahead. -/
def cmpB : List UInt8 → List UInt8 → Int
  | [], [] => 0
  | [], _ :: _ => -1
  | _ :: _, [] => 1
  | a :: l, b :: m => if a.toNat < b.toNat then -1 else if b.toNat < a.toNat then 1 else cmpB l m
theorem compareBytes_eq : ∀ a b : List UInt8, Lib.compareBytes a b = cmpB a b
  | [], [] => rfl
  | [], _ :: _ => rfl
  | _ :: _, [] => rfl
  | a :: l, b :: m => by
    unfold Lib.compareBytes cmpB
    rw [compareBytes_eq l m]
    rfl
theorem cmpB_self : ∀ a : List UInt8, cmpB a a = 0
  | [] => rfl
  | a :: l => by unfold cmpB; rw [if_neg (by omega), if_neg (by omega)]; exact cmpB_self l
theorem cmpB_zero : ∀ {a b : List UInt8}, cmpB a b = 0 → a = b
  | [], [], _ => rfl
  | [], _ :: _, h => by simp [cmpB] at h
  | _ :: _, [], h => by simp [cmpB] at h
  | a :: l, b :: m, h => by
    unfold cmpB at h
    by_cases h1 : a.toNat < b.toNat
    · rw [if_pos h1] at h; omega
    · rw [if_neg h1] at h
      by_cases h2 : b.toNat < a.toNat
      · rw [if_pos h2] at h; omega
      · rw [if_neg h2] at h
        rw [u8_eq h1 h2, cmpB_zero h]
theorem cmpB_swap : ∀ a b : List UInt8, cmpB a b = -cmpB b a
  | [], [] => rfl
  | [], _ :: _ => rfl
  | _ :: _, [] => rfl
  | a :: l, b :: m => by
    unfold cmpB
    by_cases h1 : a.toNat < b.toNat
    · rw [if_pos h1, if_neg (by omega), if_pos h1]
    · rw [if_neg h1]
      by_cases h2 : b.toNat < a.toNat
      · rw [if_pos h2, if_pos h2]; rfl
      · rw [if_neg h2, if_neg h2, if_neg h1]; exact cmpB_swap l m
theorem cmpB_bd : ∀ a b : List UInt8, cmpB a b = -1 ∨ cmpB a b = 0 ∨ cmpB a b = 1
  | [], [] => .inr (.inl rfl)
  | [], _ :: _ => .inl rfl
  | _ :: _, [] => .inr (.inr rfl)
  | a :: l, b :: m => by
    unfold cmpB
    by_cases h1 : a.toNat < b.toNat
    · rw [if_pos h1]; exact .inl rfl
    · rw [if_neg h1]
      by_cases h2 : b.toNat < a.toNat
      · rw [if_pos h2]; exact .inr (.inr rfl)
      · rw [if_neg h2]; exact cmpB_bd l m
theorem bytesLess_cmp : ∀ a b : List UInt8, Op.bytesLess a b = decide (cmpB a b < 0)
  | [], [] => rfl
  | [], _ :: _ => rfl
  | _ :: _, [] => rfl
  | a :: l, b :: m => by
    unfold Op.bytesLess cmpB
    rw [bytesLess_cmp l m]
    by_cases h1 : a.toNat < b.toNat
    · have : a < b := h1
      simp [this, h1]
    · have h1' : ¬ a < b := h1
      rw [if_neg h1]
      by_cases h2 : b.toNat < a.toNat
      · have : ¬ a = b := fun e => by subst e; omega
        rw [if_pos h2]; simp [h1', this]
      · have : a = b := u8_eq h1 h2
        subst this
        rw [if_neg h2]; simp [h1']
/-- Which of two is ahead: by a text, then by a number. -/
def cmpO (s : List UInt8) (n : Int) (t : List UInt8) (m : Int) : Int := if cmpB s t ≠ 0 then cmpB s t else if n < m then -1 else if m < n then 1 else 0
def numC (n m : Int) : Int := if n < m then -1 else if m < n then 1 else 0
theorem numC_cases (n m : Int) : (n < m ∧ numC n m = -1) ∨ (n = m ∧ numC n m = 0) ∨ (m < n ∧ numC n m = 1) := by
  unfold numC
  rcases Int.lt_trichotomy n m with h | h | h
  · exact .inl ⟨h, if_pos h⟩
  · exact .inr (.inl ⟨h, by rw [if_neg (by omega), if_neg (by omega)]⟩)
  · exact .inr (.inr ⟨h, by rw [if_neg (by omega), if_pos h]⟩)
theorem cmpO_eq (s : List UInt8) (n : Int) (t : List UInt8) (m : Int) : cmpO s n t m = if cmpB s t ≠ 0 then cmpB s t else numC n m := rfl
theorem cmpO_site {s t : List UInt8} {n m : Int} (h : s ≠ t) : cmpO s n t m = cmpB s t := by
  rw [cmpO_eq, if_pos (fun e => h (cmpB_zero e))]
theorem cmpO_same {s : List UInt8} {n m : Int} : cmpO s n s m = numC n m := by
  rw [cmpO_eq, if_neg (by rw [cmpB_self]; simp)]
theorem cmpO_swap (s : List UInt8) (n : Int) (t : List UInt8) (m : Int) : cmpO s n t m = -cmpO t m s n := by
  by_cases h : s = t
  · subst h
    rw [cmpO_same, cmpO_same]
    have := numC_cases n m
    have := numC_cases m n
    omega
  · rw [cmpO_site h, cmpO_site (Ne.symm h)]; exact cmpB_swap s t
instance : Enc Str := ⟨fun s => [strV s], fun s => s.b.length ≤ 9223372036854775807, fun {M x cs w} => Iff.rfl, fun _ => rfl, fun x v h => by obtain rfl := List.mem_singleton.1 h; rfl⟩
end Go.DB
