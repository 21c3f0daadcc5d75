/-
  Rules on lists, places in them, and searches by halves.
-/
import Derived.Test.YtjkfpjpepjjhlaaPu0
set_option linter.unusedSimpArgs false
set_option linter.unusedVariables false
namespace Go.DB
open Go Go.RowKit

section
variable {α : Type}

end

/-- Half of a sum, as the library takes it. -/
theorem half_eq {i j : Nat} (h : i + j ≤ 4611686018427387904) : W ((KI.of .u64 (W ((i : Int) + (j : Int)))).shr 1).n = (((i + j) / 2 : Nat) : Int) := by
  rw [Wk (n := (i : Int) + j) (by omega) (by omega)]
  have e1 : (KI.of .u64 ((i : Int) + (j : Int))).n = (i : Int) + j := by
    show IntKind.wrap .u64 ((i : Int) + j) = _
    rw [show (i : Int) + j = ((i + j : Nat) : Int) by omega]
    unfold IntKind.wrap
    have hm : (((i + j : Nat) : Int) % 2 ^ IntKind.u64.bits) = ((i + j : Nat) : Int) := Int.emod_eq_of_lt (by omega) (by show _ < (2 : Int) ^ 64; omega)
    rw [hm]
    simp [IntKind.signed]
  have e2 : ((KI.of .u64 ((i : Int) + (j : Int))).shr 1).n = (((i + j) / 2 : Nat) : Int) := by
    show ((KI.of .u64 ((i : Int) + (j : Int))).n).fdiv (2 ^ min (1 : Int).toNat IntKind.u64.bits) = _
    rw [e1]
    have : ((2 : Int) ^ min (1 : Int).toNat IntKind.u64.bits) = 2 := by decide
    rw [this, Int.fdiv_eq_ediv_of_nonneg _ (by omega)]
    omega
  rw [e2, Wk (by omega) (by omega)]

end Go.DB
