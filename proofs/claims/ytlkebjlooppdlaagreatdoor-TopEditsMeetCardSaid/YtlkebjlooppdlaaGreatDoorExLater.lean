/-
  Operations by time, then by site, then by number.
-/
import Derived.Test.YtlkebjlooppdlaaGreatDoorExCmp
set_option linter.unusedSimpArgs false
set_option linter.unusedVariables false
namespace Go.DB
open Go Go.RowKit

def cmpL (t : Int) (s : List UInt8) (n : Int) (t' : Int) (s' : List UInt8) (n' : Int) : Int := if numC t t' ≠ 0 then numC t t' else cmpO s n s' n'
theorem cmpL_ne {t t' n n' : Int} {s s' : List UInt8} (h : t ≠ t') : cmpL t s n t' s' n' = numC t t' := if_pos (fun e => h (by have := numC_cases t t'; omega))
theorem cmpL_eq {t n n' : Int} {s s' : List UInt8} : cmpL t s n t s' n' = cmpO s n s' n' := if_neg (fun e => e (by have := numC_cases t t; omega))
theorem cmpL_self (t : Int) (s : List UInt8) (n : Int) : cmpL t s n t s n = 0 := by rw [cmpL_eq, cmpO_self]
theorem cmpL_swap (t : Int) (s : List UInt8) (n : Int) (t' : Int) (s' : List UInt8) (n' : Int) : cmpL t s n t' s' n' = -cmpL t' s' n' t s n := by
  by_cases h : t = t'
  · subst h; rw [cmpL_eq, cmpL_eq]; exact cmpO_swap s n s' n'
  · rw [cmpL_ne h, cmpL_ne (Ne.symm h)]
    have := numC_cases t t'
    have := numC_cases t' t
    omega
theorem cmpL_trans {t t' t'' n n' n'' : Int} {s s' s'' : List UInt8} (h1 : cmpL t s n t' s' n' ≤ 0) (h2 : cmpL t' s' n' t'' s'' n'' ≤ 0) :
    cmpL t s n t'' s'' n'' ≤ 0 ∧ (cmpL t s n t' s' n' < 0 ∨ cmpL t' s' n' t'' s'' n'' < 0 → cmpL t s n t'' s'' n'' < 0) := by
  have c1 := numC_cases t t'
  have c2 := numC_cases t' t''
  have c3 := numC_cases t t''
  by_cases e1 : t = t'
  · subst e1
    by_cases e2 : t = t''
    · subst e2
      rw [cmpL_eq] at *
      rw [cmpL_eq, cmpL_eq] at *
      exact cmpO_trans h1 h2
    · rw [cmpL_ne e2] at *
      omega
  · rw [cmpL_ne e1] at *
    by_cases e2 : t' = t''
    · subst e2
      rw [cmpL_ne e1]
      omega
    · rw [cmpL_ne e2] at *
      have e3 : t ≠ t'' := by omega
      rw [cmpL_ne e3]
      omega
end Go.DB
