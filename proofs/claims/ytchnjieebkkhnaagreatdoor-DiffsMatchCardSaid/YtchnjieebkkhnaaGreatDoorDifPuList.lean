/-
  Rules on lists, places in them, and searches by halves.
-/
import Derived.Test.YtchnjieebkkhnaaGreatDoorPu0
set_option linter.unusedSimpArgs false
set_option linter.unusedVariables false
namespace Go.DB
open Go Go.RowKit

section
variable {α : Type}

end

/-- A search by halves. -/
theorem bsearch {body : Int × Int → Option (Step (Int × Int) Int)} (p : Nat → Bool) {lo hi : Nat} (hlh : lo ≤ hi)
    (hb : ∀ i j : Nat, lo ≤ i → i < j → j ≤ hi → body ((i : Int), (j : Int)) = some (if p ((i + j) / 2) = true then .again ((((i + j) / 2 + 1 : Nat) : Int), (j : Int)) else .again ((i : Int), (((i + j) / 2 : Nat) : Int))))
    (hd : ∀ i : Nat, lo ≤ i → i ≤ hi → body ((i : Int), (i : Int)) = some (.done (i : Int))) (mono : ∀ h k, lo ≤ h → h ≤ k → k < hi → p k = true → p h = true) :
    ∃ s, lo ≤ s ∧ s ≤ hi ∧ (∀ h, lo ≤ h → h < s → p h = true) ∧ (∀ h, s ≤ h → h < hi → p h = false) ∧ loop body ((lo : Int), (hi : Int)) = some (s : Int) := by
  obtain ⟨e, h1, s, h2⟩ := loop_inv (body := body) (s0 := ((lo : Int), (hi : Int))) (fun st => ∃ i j : Nat, st = ((i : Int), (j : Int)) ∧ lo ≤ i ∧ i ≤ j ∧ j ≤ hi ∧ (∀ h, lo ≤ h → h < i → p h = true) ∧ ∀ h, j ≤ h → h < hi → p h = false)
    (fun st => (st.2 - st.1).toNat) (fun e => ∃ s : Nat, e = (s : Int) ∧ lo ≤ s ∧ s ≤ hi ∧ (∀ h, lo ≤ h → h < s → p h = true) ∧ ∀ h, s ≤ h → h < hi → p h = false)
    ⟨lo, hi, rfl, Nat.le_refl _, hlh, Nat.le_refl _, fun h a b => by omega, fun h a b => by omega⟩ (fun st hI => by
    obtain ⟨i, j, rfl, i1, i2, i3, i4, i5⟩ := hI
    by_cases c : i < j
    · left
      rw [hb i j i1 c i3]
      cases hp : p ((i + j) / 2) with
      | true =>
        refine ⟨_, by simp, ⟨(i + j) / 2 + 1, j, rfl, by omega, by omega, i3, fun h a b => ?_, i5⟩, by simp only; omega⟩
        exact mono h ((i + j) / 2) a (by omega) (by omega) hp
      | false =>
        refine ⟨_, by simp, ⟨i, (i + j) / 2, rfl, i1, by omega, by omega, i4, fun h a b => ?_⟩, by simp only; omega⟩
        cases hh : p h with
        | false => rfl
        | true =>
          have := mono ((i + j) / 2) h (by omega) a b hh
          rw [hp] at this; cases this
    · right
      have : i = j := by omega
      subst this
      exact ⟨_, hd i i1 i3, i, rfl, i1, i3, i4, i5⟩)
  obtain ⟨rfl, h3, h4, h5, h6⟩ := h2
  exact ⟨s, h3, h4, h5, h6, h1⟩

/-- Half of a sum, as the library takes it. -/
theorem half_eq {i j : Nat} (h : i + j ≤ 4611686018427387904) : W ((KI.of .u64 (W ((i : Int) + (j : Int)))).shr 1).n = (((i + j) / 2 : Nat) : Int) := by
  rw [Wk (n := (i : Int) + j) (by omega) (by omega)]
  have e1 : (KI.of .u64 ((i : Int) + (j : Int))).n = (i : Int) + j := by
    show IntKind.wrap .u64 ((i : Int) + j) = _
    rw [show (i : Int) + j = ((i + j : Nat) : Int) by omega]
    unfold IntKind.wrap
    have hm : (((i + j : Nat) : Int) % 2 ^ IntKind.u64.bits) = ((i + j : Nat) : Int) := Int.emod_eq_of_lt (by omega) (by show _ < (2 : Int) ^ 64; omega)
    rw [hm]
    simp [IntKind.signed]
  have e2 : ((KI.of .u64 ((i : Int) + (j : Int))).shr 1).n = (((i + j) / 2 : Nat) : Int) := by
    show ((KI.of .u64 ((i : Int) + (j : Int))).n).fdiv (2 ^ min (1 : Int).toNat IntKind.u64.bits) = _
    rw [e1]
    have : ((2 : Int) ^ min (1 : Int).toNat IntKind.u64.bits) = 2 := by decide
    rw [this, Int.fdiv_eq_ediv_of_nonneg _ (by omega)]
    omega
  rw [e2, Wk (by omega) (by omega)]

end Go.DB
