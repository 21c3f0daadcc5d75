/-
  Rows that are sorted by means: they stay the same nodes.
-/
import Derived.Test.YtbahnfkccdlpnaaTLaPuDraws1
import Derived.Test.YtbahnfkccdlpnaaTLaPuSortInt
import Derived.Test.YtbahnfkccdlpnaaTLaPuOrders1
set_option linter.unusedSimpArgs false
set_option linter.unusedVariables false
namespace Go.DB
open Go Go.RowKit

def z0 : Layer_mean := ⟨0, 0⟩
theorem set_getDM {M : GMap Int Layer_mean} {k x : Int} {v d : Layer_mean} : (M.set k v).getD x d = if x = k then v else M.getD x d := by
  show (if x = k then some v else M.f x).getD d = _
  by_cases c : x = k
  · rw [if_pos c, if_pos c]; rfl
  · rw [if_neg c, if_neg c]; rfl
/-- Means that are in bounds. -/
def MeanB (n : Int) (M : GMap Int Layer_mean) : Prop := ∀ x, 0 ≤ (M.getD x z0).sum ∧ (M.getD x z0).sum ≤ n * 60 ∧ 0 ≤ (M.getD x z0).many ∧ (M.getD x z0).many ≤ n
theorem Compare_eqD (a b : Int) : cmp_Compare_int a b = some (if a < b then -1 else if b < a then 1 else 0) := by
  unfold cmp_Compare_int cmp_isNaN_int
  simp only [decide_true, Bool.not_true, bind_sm, cond_false]
  by_cases c : a < b
  · rw [decide_eq_true c, cond_true, if_pos c]
  · rw [decide_eq_false c, cond_false, if_neg c]
    by_cases d : b < a
    · rw [decide_eq_true d, cond_true, if_pos d]
    · rw [decide_eq_false d, cond_false, if_neg d]
def meanLt (M : GMap Int Layer_mean) (a b : Int) : Bool := decide ((M.getD a z0).sum * (M.getD b z0).many < (M.getD b z0).sum * (M.getD a z0).many)
theorem mean_swo {M : GMap Int Layer_mean} (hB : MeanB 300 M) : Swo (fun x => 1 ≤ (M.getD x z0).many) (meanLt M) (fun x0 x1 => layer_sorted_1 x0 x1 M) := by
  have hb : ∀ x y, 0 ≤ (M.getD x z0).sum * (M.getD y z0).many ∧ (M.getD x z0).sum * (M.getD y z0).many ≤ 18000 * 300 := fun x y => by
    obtain ⟨a1, a2, _, _⟩ := hB x
    obtain ⟨_, _, b3, b4⟩ := hB y
    exact ⟨Int.mul_nonneg a1 b3, Int.mul_le_mul (by omega) b4 b3 (by omega)⟩
  refine ⟨fun x y _ _ => ?_, fun x y _ _ h => ?_, fun x y z hx hy hz h1 h2 => ?_⟩
  · have h1 := hb x y
    have h2 := hb y x
    refine ⟨_, by
      unfold layer_sorted_1
      rw [bnd_eq, bnd_eq, Wk (by show _ ≤ (M.getD x z0).sum * (M.getD y z0).many; omega) (by show (M.getD x z0).sum * (M.getD y z0).many ≤ _; omega), Wk (by show _ ≤ (M.getD y z0).sum * (M.getD x z0).many; omega) (by show (M.getD y z0).sum * (M.getD x z0).many ≤ _; omega), Compare_eqD, Option.bind_some], ?_⟩
    unfold meanLt
    show decide ((if (M.getD x z0).sum * (M.getD y z0).many < (M.getD y z0).sum * (M.getD x z0).many then (-1 : Int) else if (M.getD y z0).sum * (M.getD x z0).many < (M.getD x z0).sum * (M.getD y z0).many then 1 else 0) < 0) = _
    by_cases c : (M.getD x z0).sum * (M.getD y z0).many < (M.getD y z0).sum * (M.getD x z0).many
    · simp [c]
    · rw [if_neg c, decide_eq_false c]
      split <;> simp
  · unfold meanLt at *
    have := of_decide_eq_true h
    exact decide_eq_false (by omega)
  · unfold meanLt at *
    have h1 := of_decide_eq_false h1
    have h2 := of_decide_eq_false h2
    refine decide_eq_false fun h3 => ?_
    generalize (M.getD x z0).sum = sx at *
    generalize (M.getD y z0).sum = sy at *
    generalize (M.getD z z0).sum = sz at *
    generalize (M.getD x z0).many = mx at *
    generalize (M.getD y z0).many = my at *
    generalize (M.getD z z0).many = mz at *
    have a := Int.mul_le_mul_of_nonneg_right (Int.not_lt.1 h1) (show 0 ≤ mz by omega)
    have b := Int.mul_le_mul_of_nonneg_right (Int.not_lt.1 h2) (show 0 ≤ mx by omega)
    have e1 : sz * mx * my = sz * my * mx := Int.mul_right_comm _ _ _
    have e2 : sy * mz * mx = sy * mx * mz := Int.mul_right_comm _ _ _
    have e3 : sx * my * mz = sx * mz * my := Int.mul_right_comm _ _ _
    have cc : sz * mx * my ≤ sx * mz * my := by rw [e1, ← e3]; rw [e2] at b; exact Int.le_trans b a
    have := Int.le_of_mul_le_mul_right cc (show 0 < my by omega)
    omega
/-- A row that is sorted has the same nodes. -/
theorem sorted_perm {row other : List Int} {l : List Link} {ends : Link → Option (Int × Int)} (hr : row.length ≤ 60) (ho : other.length ≤ 60) (hon : other.Nodup) (hl : l.length ≤ 200) (he : ∀ x, ∃ y, ends x = some y) :
    ∃ out, layer_sorted row other l ends = some out ∧ out.Perm row := by
  unfold layer_sorted
  obtain ⟨A, a1, a2, a3⟩ := places_eq (row := other) (by omega)
  rw [a1, Option.bind_some, bnd_eq]
  obtain ⟨M, m1, m2⟩ := rfor_inv (n := (l.length : Int)) (step := layer_sorted_L1 l A ends) (s0 := (GMap.nil : GMap Int Layer_mean)) (fun i M => MeanB i M) (by omega) (fun x => by
    show 0 ≤ (0 : Int) ∧ (0 : Int) ≤ _ ∧ 0 ≤ (0 : Int) ∧ (0 : Int) ≤ _
    omega) (fun i M hi hM => by
    unfold layer_sorted_L1
    obtain ⟨y, hy⟩ := he (gx l (i : Int))
    have hmono : MeanB ((i + 1 : Nat) : Int) M := fun x => by have := hM x; push_cast; omega
    rw [need_of ⟨by omega, hi⟩, bnd_eq, hy, Option.bind_some, a2]
    by_cases c : y.2 ∈ other
    · have hp := ps_lt c
      have hMy := hM y.1
      rw [decide_eq_true c, cond_true, bnd_eq, a3 hon _ c]
      refine ⟨_, rfl, fun x => ?_⟩
      rw [set_getDM]
      by_cases d : x = y.1
      · rw [if_pos d]
        show 0 ≤ W ((M.getD y.1 z0).sum + (ps other y.2 : Int)) ∧ W ((M.getD y.1 z0).sum + (ps other y.2 : Int)) ≤ _ ∧ 0 ≤ W ((M.getD y.1 z0).many + 1) ∧ W ((M.getD y.1 z0).many + 1) ≤ _
        rw [Wk (by omega) (by omega), Wk (by omega) (by omega)]
        push_cast; omega
      · rw [if_neg d]; exact hmono x
    · rw [decide_eq_false c, cond_false]
      exact ⟨_, rfl, hmono⟩)
  rw [m1, Option.bind_some]
  have hM3 : MeanB 300 M := fun x => by have := m2 x; simp only [Int.toNat_natCast] at this; omega
  obtain ⟨M2, n1, n2, n3⟩ := rfor_inv (n := (row.length : Int)) (step := layer_sorted_L2 row) (s0 := M) (fun i M => MeanB 300 M ∧ ∀ k : Nat, k < i → 1 ≤ (M.getD (gx row (k : Int)) z0).many) (by omega) ⟨hM3, fun k hk => by omega⟩ (fun i M hi hI => by
    obtain ⟨i1, i2⟩ := hI
    unfold layer_sorted_L2
    rw [need_of ⟨by omega, hi⟩, bnd_eq]
    have hMi := i1 (gx row (i : Int))
    by_cases c : (M.getD (gx row (i : Int)) z0).many = 0
    · rw [show decide ((M.getD (gx row (i : Int)) (⟨(0 : Int), (0 : Int)⟩ : Layer_mean)).many = 0) = true from decide_eq_true c, cond_true]
      refine ⟨_, rfl, fun x => ?_, fun k hk => ?_⟩
      · rw [set_getDM]
        by_cases d : x = gx row (i : Int)
        · rw [if_pos d]
          show 0 ≤ (i : Int) ∧ (i : Int) ≤ _ ∧ 0 ≤ (1 : Int) ∧ (1 : Int) ≤ _
          omega
        · rw [if_neg d]; exact i1 x
      · rw [set_getDM]
        by_cases d : gx row (k : Int) = gx row (i : Int)
        · rw [if_pos d]; exact Int.le_refl _
        · rw [if_neg d]
          by_cases e : k = i
          · subst e; exact absurd rfl d
          · exact i2 k (by omega)
    · rw [show decide ((M.getD (gx row (i : Int)) (⟨(0 : Int), (0 : Int)⟩ : Layer_mean)).many = 0) = false from decide_eq_false c, cond_false]
      refine ⟨_, rfl, i1, fun k hk => ?_⟩
      by_cases e : k = i
      · subst e; omega
      · exact i2 k (by omega))
  rw [n1, Option.bind_some, Clone_int_eqR (by omega), Option.bind_some]
  obtain ⟨out, o1, o2⟩ := Stbint.stable_eq (mean_swo n2) (D := row) (fun x hx => by
    obtain ⟨k, hk, rfl⟩ := List.getElem_of_mem hx
    have := n3 k (by simpa using hk)
    rw [gx_nat hk] at this; exact this) (by omega)
  rw [o2, Option.bind_some]
  exact ⟨out, rfl, o1.perm⟩
end Go.DB
