/-
  A tree of one node is right, one of none is not.
-/
import Derived.Test.YtakkmmhjohadaaaTdmPuRef
set_option linter.unusedSimpArgs false
set_option linter.unusedVariables false
namespace Go.DB
open Go Go.RowKit

theorem trees_eq : law_trees = some true := by
  have h0 : tree_Check ([] : List Branch) = some 9 := by unfold tree_Check; simp
  have hl : tree_levels [(⟨1, 1, ([] : (List Int))⟩ : Branch)] = some [[0]] := by
    have h2 : tree_levels_L2 [(⟨1, 1, ([] : (List Int))⟩ : Branch)] ([], [0]) 0 [] = some [] := by
      unfold tree_levels_L2
      rw [need_of (by simp [inR_iff]), need_of (by simp [inR_iff, gx]), need_of (by simp [room_iff, gx])]
      simp [gx]
    have b1 : tree_levels_L1 [(⟨1, 1, ([] : (List Int))⟩ : Branch)] ([], [0]) = some (.again ([[0]], [])) := by
      unfold tree_levels_L1
      simp only [bnd_eq]
      rw [need_of (by simp [room_iff]), rfor_eq (by simp)]
      simp [rgo, h2]
    have b2 : tree_levels_L1 [(⟨1, 1, ([] : (List Int))⟩ : Branch)] ([[0]], []) = some (.done [[0]]) := by
      unfold tree_levels_L1; simp
    unfold tree_levels
    simp only [bnd_eq]
    rw [loop_eq, b1]
    simp only
    rw [loop_eq, b2]
    rfl
  have h1 : tree_Check [(⟨1, 1, ([] : (List Int))⟩ : Branch)] = some 0 := by
    unfold tree_Check
    simp only [bnd_eq, hl, bind_sm]
    simp only [List.length_cons, List.length_nil, Nat.zero_add, show decide (((1 : Nat) : Int) = 0) = false from rfl, show decide ((300 : Int) < ((1 : Nat) : Int)) = false from rfl, cond_false]
    rw [need_of (by decide), rforE_eq (by decide)]
    have h2 : tree_Check_L1 [(⟨1, 1, ([] : (List Int))⟩ : Branch)] 0 (List.replicate ((1 : Nat) : Int).toNat false) = some (Res.nx [false]) := by
      unfold tree_Check_L1 tree_Check_1
      rw [need_of (by simp [inR_iff])]
      simp only [bnd_eq, gx, bind_sm]
      simp only [show ((0 : Int).toNat) = 0 from rfl, List.getElem?_cons_zero, Option.getD_some]
      simp only [show ((decide ((1 : Int) ≤ 1)) && (decide ((1 : Int) ≤ 1000))) = true from rfl, bind_sm, Bool.not_true, Bool.not_false, gd_true, Bool.or_self, cond_false]
      rw [rforE_eq (by decide)]
      rfl
    simp only [show (((1 : Nat) : Int)).toNat = 1 from rfl] at h2 ⊢
    simp only [rgoE, h2, bindR_nx]
    rw [need_of (by simp [segR_iff]), Contains_bool_eq _ _ (by decide)]
    simp only [seg, bind_sm]
    rw [rfor_eq (by decide)]
    unfold tree_Check_L3
    simp only [show (((1 : Nat) : Int)).toNat = 1 from rfl, rgo, bnd_eq]
    rw [need_of (by simp [inR_iff])]
    simp only [gx, show ((0 : Int).toNat) = 0 from rfl, List.getElem?_cons_zero, Option.getD_some, List.length_cons, List.length_nil, Nat.zero_add]
    rw [Wk (by decide) (by decide)]
    simp
  unfold law_trees
  simp [h0, h1]

end Go.DB
