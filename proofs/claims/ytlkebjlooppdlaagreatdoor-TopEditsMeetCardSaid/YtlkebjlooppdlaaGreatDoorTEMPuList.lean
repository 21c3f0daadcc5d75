/-
  Rules on lists, places in them, and searches by halves.
-/
import Derived.Test.YtlkebjlooppdlaaGreatDoorPu0
set_option linter.unusedSimpArgs false
set_option linter.unusedVariables false
namespace Go.DB
open Go Go.RowKit

section
variable {α : Type}

theorem gx_app [Inhabited α] {U V : List α} {x : α} {k : Int} (hk : k = U.length) : gx (U ++ x :: V) k = x := by
  subst hk
  rw [gx_nat (by simp)]
  simp
theorem inR_app {U V : List α} {x : α} {k : Int} (hk : k = U.length) : inR (U ++ x :: V) k := ⟨by omega, by simp; omega⟩
theorem set_app {U V : List α} {x y : α} {k : Nat} (hk : k = U.length) : (U ++ x :: V).set k y = U ++ y :: V := by
  subst hk
  rw [List.set_append_right _ _ (Nat.le_refl _)]
  simp
/-- Two neighbours change places. -/
theorem swap_app [Inhabited α] {U V : List α} {x y : α} {j : Int} (hj : j = U.length + 1) : gx (U ++ y :: x :: V) j = x ∧ gx (U ++ y :: x :: V) (j - 1) = y ∧ inR (U ++ y :: x :: V) j ∧ inR (U ++ y :: x :: V) (j - 1) ∧
    ((U ++ y :: x :: V).set j.toNat y).set (j - 1).toNat x = U ++ x :: y :: V ∧ ((U ++ y :: x :: V).set (j - 1).toNat x).set j.toNat y = U ++ x :: y :: V := by
  have e1 : U ++ y :: x :: V = (U ++ [y]) ++ x :: V := by simp
  have e2 : j.toNat = (U ++ [y]).length := by simp; omega
  have e3 : (j - 1).toNat = U.length := by omega
  refine ⟨by rw [e1]; exact gx_app (by simp; omega), gx_app (by omega), ⟨by omega, by simp; omega⟩, ⟨by omega, by simp; omega⟩, ?_, ?_⟩
  · rw [e1, set_app e2]
    have : (U ++ [y]) ++ y :: V = U ++ y :: y :: V := by simp
    rw [this, set_app e3]
  · rw [set_app e3]
    have : U ++ x :: x :: V = (U ++ [x]) ++ x :: V := by simp
    rw [this, set_app (by simp; omega)]; simp
/-- An element of a part. -/
theorem gx_part [Inhabited α] {P A R : List α} {i : Nat} (hi : i < A.length) {k : Int} (hk : k = P.length + i) : gx (P ++ (A ++ R)) k = A[i] := by
  subst hk
  rw [show ((P.length : Int) + (i : Int)) = ((P.length + i : Nat) : Int) by omega, gx_nat (by simp; omega)]
  rw [List.getElem_append_right (by omega), List.getElem_append_left (by omega)]
  simp
theorem inR_part {P A R : List α} {i : Nat} (hi : i < A.length) {k : Int} (hk : k = P.length + i) : inR (P ++ (A ++ R)) k := ⟨by omega, by simp; omega⟩
/-- A list is cut in two. -/
theorem cut {A : List α} {n : Nat} (hn : n ≤ A.length) : ∃ A1 A2, A = A1 ++ A2 ∧ A1.length = n := ⟨A.take n, A.drop n, (List.take_append_drop n A).symm, by simp; omega⟩
end

/-- A search by halves. -/
theorem bsearch {body : Int × Int → Option (Step (Int × Int) Int)} (p : Nat → Bool) {lo hi : Nat} (hlh : lo ≤ hi)
    (hb : ∀ i j : Nat, lo ≤ i → i < j → j ≤ hi → body ((i : Int), (j : Int)) = some (if p ((i + j) / 2) = true then .again ((((i + j) / 2 + 1 : Nat) : Int), (j : Int)) else .again ((i : Int), (((i + j) / 2 : Nat) : Int))))
    (hd : ∀ i : Nat, lo ≤ i → i ≤ hi → body ((i : Int), (i : Int)) = some (.done (i : Int))) (mono : ∀ h k, lo ≤ h → h ≤ k → k < hi → p k = true → p h = true) :
    ∃ s, lo ≤ s ∧ s ≤ hi ∧ (∀ h, lo ≤ h → h < s → p h = true) ∧ (∀ h, s ≤ h → h < hi → p h = false) ∧ loop body ((lo : Int), (hi : Int)) = some (s : Int) := by
  obtain ⟨e, h1, s, h2⟩ := loop_inv (body := body) (s0 := ((lo : Int), (hi : Int))) (fun st => ∃ i j : Nat, st = ((i : Int), (j : Int)) ∧ lo ≤ i ∧ i ≤ j ∧ j ≤ hi ∧ (∀ h, lo ≤ h → h < i → p h = true) ∧ ∀ h, j ≤ h → h < hi → p h = false)
    (fun st => (st.2 - st.1).toNat) (fun e => ∃ s : Nat, e = (s : Int) ∧ lo ≤ s ∧ s ≤ hi ∧ (∀ h, lo ≤ h → h < s → p h = true) ∧ ∀ h, s ≤ h → h < hi → p h = false)
    ⟨lo, hi, rfl, Nat.le_refl _, hlh, Nat.le_refl _, fun h a b => by omega, fun h a b => by omega⟩ (fun st hI => by
    obtain ⟨i, j, rfl, i1, i2, i3, i4, i5⟩ := hI
    by_cases c : i < j
    · left
      rw [hb i j i1 c i3]
      cases hp : p ((i + j) / 2) with
      | true =>
        refine ⟨_, by simp, ⟨(i + j) / 2 + 1, j, rfl, by omega, by omega, i3, fun h a b => ?_, i5⟩, by simp only; omega⟩
        exact mono h ((i + j) / 2) a (by omega) (by omega) hp
      | false =>
        refine ⟨_, by simp, ⟨i, (i + j) / 2, rfl, i1, by omega, by omega, i4, fun h a b => ?_⟩, by simp only; omega⟩
        cases hh : p h with
        | false => rfl
        | true =>
          have := mono ((i + j) / 2) h (by omega) a b hh
          rw [hp] at this; cases this
    · right
      have : i = j := by omega
      subst this
      exact ⟨_, hd i i1 i3, i, rfl, i1, i3, i4, i5⟩)
  obtain ⟨rfl, h3, h4, h5, h6⟩ := h2
  exact ⟨s, h3, h4, h5, h6, h1⟩

/-- Half of a sum, as the library takes it. -/
theorem half_eq {i j : Nat} (h : i + j ≤ 4611686018427387904) : W ((KI.of .u64 (W ((i : Int) + (j : Int)))).shr 1).n = (((i + j) / 2 : Nat) : Int) := by
  rw [Wk (n := (i : Int) + j) (by omega) (by omega)]
  have e1 : (KI.of .u64 ((i : Int) + (j : Int))).n = (i : Int) + j := by
    show IntKind.wrap .u64 ((i : Int) + j) = _
    rw [show (i : Int) + j = ((i + j : Nat) : Int) by omega]
    unfold IntKind.wrap
    have hm : (((i + j : Nat) : Int) % 2 ^ IntKind.u64.bits) = ((i + j : Nat) : Int) := Int.emod_eq_of_lt (by omega) (by show _ < (2 : Int) ^ 64; omega)
    rw [hm]
    simp [IntKind.signed]
  have e2 : ((KI.of .u64 ((i : Int) + (j : Int))).shr 1).n = (((i + j) / 2 : Nat) : Int) := by
    show ((KI.of .u64 ((i : Int) + (j : Int))).n).fdiv (2 ^ min (1 : Int).toNat IntKind.u64.bits) = _
    rw [e1]
    have : ((2 : Int) ^ min (1 : Int).toNat IntKind.u64.bits) = 2 := by decide
    rw [this, Int.fdiv_eq_ediv_of_nonneg _ (by omega)]
    omega
  rw [e2, Wk (by omega) (by omega)]

end Go.DB
