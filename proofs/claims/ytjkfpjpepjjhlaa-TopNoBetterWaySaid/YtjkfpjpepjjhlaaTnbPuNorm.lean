/-
  Lists that are sorted and compacted.
-/
import Derived.Test.YtjkfpjpepjjhlaaTnbLi1
import Derived.Test.YtjkfpjpepjjhlaaPu0
set_option linter.unusedSimpArgs false
set_option linter.unusedVariables false
namespace Go.DB
open Go Go.RowKit

theorem sortI_pw (z : List Int) : (sortI z).Pairwise (· ≤ ·) := by
  have := List.pairwise_mergeSort (le := fun x y : Int => decide (x ≤ y)) (fun a b c h1 h2 => by simp at *; omega) (fun a b => by simp; omega) z
  exact this.imp (fun h => by simpa using h)
theorem sortI_mem {z : List Int} {x : Int} : x ∈ sortI z ↔ x ∈ z := (List.mergeSort_perm z _).mem_iff

theorem compactI_strict {z : List Int} (hz : z.Pairwise (· ≤ ·)) : (compactI z).Pairwise (· < ·) ∧ ∀ x, x ∈ compactI z ↔ x ∈ z := by
  have hat : ∀ (i j : Nat), i ≤ j → (hj : j < z.length) → z.toArray[i]! ≤ z.toArray[j]! := fun i j hij hj => by
    rw [getElem!_pos _ i (by simp; omega), getElem!_pos _ j (by simpa using hj)]
    rcases Nat.lt_or_eq_of_le hij with h | h
    · simpa using List.pairwise_iff_getElem.1 hz i j (by omega) hj h
    · subst h; simp
  have hk : ∀ j, Lib.keeps z.toArray j = true ↔ j = 0 ∨ z.toArray[j]! ≠ z.toArray[j - 1]! := fun j => by unfold Lib.keeps; simp
  constructor
  · unfold compactI Lib.compact Lib.compactUpTo
    rw [List.pairwise_map]
    refine List.Pairwise.imp_of_mem (R := (· < ·)) (fun {a b} ha hb hab => ?_) (List.Pairwise.filter _ List.pairwise_lt_range)
    have hb1 : b < z.length := by simpa using (List.mem_filter.1 hb).1
    have hb2 := (hk b).1 (List.mem_filter.1 hb).2
    have h1 := hat a (b - 1) (by omega) (by omega)
    have h2 := hat (b - 1) b (by omega) hb1
    rcases hb2 with h | h
    · omega
    · omega
  · intro x
    refine ⟨compactI_mem, fun hx => ?_⟩
    obtain ⟨j, hj, rfl⟩ := List.getElem_of_mem hx
    have key : ∀ j, j < z.length → ∃ i, i < z.length ∧ Lib.keeps z.toArray i = true ∧ z.toArray[i]! = z.toArray[j]! := by
      intro j
      induction j with
      | zero => intro h; exact ⟨0, h, (hk 0).2 (.inl rfl), rfl⟩
      | succ j ih =>
        intro h
        by_cases he : z.toArray[j + 1]! = z.toArray[j]!
        · obtain ⟨i, i1, i2, i3⟩ := ih (by omega)
          exact ⟨i, i1, i2, by rw [i3, he]⟩
        · exact ⟨j + 1, h, (hk _).2 (.inr he), rfl⟩
    obtain ⟨i, i1, i2, i3⟩ := key j hj
    unfold compactI Lib.compact Lib.compactUpTo
    refine List.mem_map.2 ⟨i, List.mem_filter.2 ⟨by simpa using i1, i2⟩, ?_⟩
    rw [i3, getElem!_pos _ _ (by simpa using hj)]
    simp
noncomputable def normI (l : List Int) : List Int := compactI (sortI l)
end Go.DB
