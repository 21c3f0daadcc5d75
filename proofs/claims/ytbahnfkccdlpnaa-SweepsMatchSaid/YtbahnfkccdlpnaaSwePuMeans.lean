/-
  Rows that are sorted by means: the same nodes, whatever the rounds.
-/
import Derived.Test.YtbahnfkccdlpnaaSwePuSortInt
import Derived.Test.YtbahnfkccdlpnaaSwePuOrders1
import Derived.Test.YtbahnfkccdlpnaaSwePuLinkF
set_option linter.unusedSimpArgs false
set_option linter.unusedVariables false
namespace Go.DB
open Go Go.RowKit

theorem Clone_int_eqR {l : List Int} (hl : l.length ≤ 1073741824) : slices_Clone_int l = some l := by
  unfold slices_Clone_int
  rw [need_of (by rw [room_iff]; simpa using hl)]
  simp only [bnd_eq, List.nil_append]
  unfold nilc
  by_cases h : l = []
  · simp [h]
  · rw [if_neg h]

def z0 : Layer_mean := ⟨0, 0⟩
theorem set_getDM {M : GMap Int Layer_mean} {k x : Int} {v d : Layer_mean} : (M.set k v).getD x d = if x = k then v else M.getD x d := by
  show (if x = k then some v else M.f x).getD d = _
  by_cases c : x = k
  · rw [if_pos c, if_pos c]; rfl
  · rw [if_neg c, if_neg c]; rfl
/-- Means that are in bounds. -/
def MeanB (n : Int) (M : GMap Int Layer_mean) : Prop := ∀ x, 0 ≤ (M.getD x z0).sum ∧ (M.getD x z0).sum ≤ n * 60 ∧ 0 ≤ (M.getD x z0).many ∧ (M.getD x z0).many ≤ n
theorem Compare_eqD (a b : Int) : cmp_Compare_int a b = some (if a < b then -1 else if b < a then 1 else 0) := by
  unfold cmp_Compare_int cmp_isNaN_int
  simp only [decide_true, Bool.not_true, bind_sm, cond_false]
  by_cases c : a < b
  · rw [decide_eq_true c, cond_true, if_pos c]
  · rw [decide_eq_false c, cond_false, if_neg c]
    by_cases d : b < a
    · rw [decide_eq_true d, cond_true, if_pos d]
    · rw [decide_eq_false d, cond_false, if_neg d]
def meanLt (M : GMap Int Layer_mean) (a b : Int) : Bool := decide ((M.getD a z0).sum * (M.getD b z0).many < (M.getD b z0).sum * (M.getD a z0).many)
theorem mean_swo {M : GMap Int Layer_mean} (hB : MeanB 300 M) : Swo (fun x => 1 ≤ (M.getD x z0).many) (meanLt M) (fun x0 x1 => layer_sorted_1 x0 x1 M) := by
  have hb : ∀ x y, 0 ≤ (M.getD x z0).sum * (M.getD y z0).many ∧ (M.getD x z0).sum * (M.getD y z0).many ≤ 18000 * 300 := fun x y => by
    obtain ⟨a1, a2, _, _⟩ := hB x
    obtain ⟨_, _, b3, b4⟩ := hB y
    exact ⟨Int.mul_nonneg a1 b3, Int.mul_le_mul (by omega) b4 b3 (by omega)⟩
  refine ⟨fun x y _ _ => ?_, fun x y _ _ h => ?_, fun x y z hx hy hz h1 h2 => ?_⟩
  · have h1 := hb x y
    have h2 := hb y x
    refine ⟨_, by
      unfold layer_sorted_1
      rw [bnd_eq, bnd_eq, Wk (by show _ ≤ (M.getD x z0).sum * (M.getD y z0).many; omega) (by show (M.getD x z0).sum * (M.getD y z0).many ≤ _; omega), Wk (by show _ ≤ (M.getD y z0).sum * (M.getD x z0).many; omega) (by show (M.getD y z0).sum * (M.getD x z0).many ≤ _; omega), Compare_eqD, Option.bind_some], ?_⟩
    unfold meanLt
    show decide ((if (M.getD x z0).sum * (M.getD y z0).many < (M.getD y z0).sum * (M.getD x z0).many then (-1 : Int) else if (M.getD y z0).sum * (M.getD x z0).many < (M.getD x z0).sum * (M.getD y z0).many then 1 else 0) < 0) = _
    by_cases c : (M.getD x z0).sum * (M.getD y z0).many < (M.getD y z0).sum * (M.getD x z0).many
    · simp [c]
    · rw [if_neg c, decide_eq_false c]
      split <;> simp
  · unfold meanLt at *
    have := of_decide_eq_true h
    exact decide_eq_false (by omega)
  · unfold meanLt at *
    have h1 := of_decide_eq_false h1
    have h2 := of_decide_eq_false h2
    refine decide_eq_false fun h3 => ?_
    generalize (M.getD x z0).sum = sx at *
    generalize (M.getD y z0).sum = sy at *
    generalize (M.getD z z0).sum = sz at *
    generalize (M.getD x z0).many = mx at *
    generalize (M.getD y z0).many = my at *
    generalize (M.getD z z0).many = mz at *
    have a := Int.mul_le_mul_of_nonneg_right (Int.not_lt.1 h1) (show 0 ≤ mz by omega)
    have b := Int.mul_le_mul_of_nonneg_right (Int.not_lt.1 h2) (show 0 ≤ mx by omega)
    have e1 : sz * mx * my = sz * my * mx := Int.mul_right_comm _ _ _
    have e2 : sy * mz * mx = sy * mx * mz := Int.mul_right_comm _ _ _
    have e3 : sx * my * mz = sx * mz * my := Int.mul_right_comm _ _ _
    have cc : sz * mx * my ≤ sx * mz * my := by rw [e1, ← e3]; rw [e2] at b; exact Int.le_trans b a
    have := Int.le_of_mul_le_mul_right cc (show 0 < my by omega)
    omega
/-- Rows of few nodes. -/
def RowsOK (rows : List (List Int)) : Prop := rows.length ≤ 1000 ∧ ∀ k : Int, 0 ≤ k → k < rows.length → (gx rows k).length ≤ 60 ∧ (gx rows k).Nodup
def RowP (rows rows' : List (List Int)) : Prop := rows'.length = rows.length ∧ ∀ k : Int, 0 ≤ k → k < rows.length → (gx rows' k).Perm (gx rows k)
theorem RowP.refl {rows : List (List Int)} : RowP rows rows := ⟨rfl, fun _ _ _ => .refl _⟩
theorem RowP.ok {rows rows' : List (List Int)} (h : RowP rows rows') (hr : RowsOK rows) : RowsOK rows' := ⟨by rw [h.1]; exact hr.1, fun k k0 k1 => by
  have hp := h.2 k k0 (by rw [← h.1]; exact k1)
  obtain ⟨a, b⟩ := hr.2 k k0 (by rw [← h.1]; exact k1)
  exact ⟨by rw [hp.length_eq]; exact a, hp.nodup_iff.2 b⟩⟩
theorem gx_setL {s : List (List Int)} {i : Int} (hi : inR s i) {v : List Int} {k : Int} (k0 : 0 ≤ k) : gx (s.set i.toNat v) k = if k = i then v else gx s k := by
  obtain ⟨h0, h1⟩ := hi
  unfold gx
  rw [List.getElem?_set]
  by_cases h : k = i
  · subst h
    have : k.toNat < s.length := by omega
    simp [this]
  · have : ¬ i.toNat = k.toNat := by omega
    simp [this, h]
theorem RowP.put {rows s : List (List Int)} (h : RowP rows s) {i : Int} (i0 : 0 ≤ i) (i1 : i < rows.length) {v : List Int} (hv : v.Perm (gx s i)) : RowP rows (s.set i.toNat v) := by
  have hi : inR s i := ⟨i0, by rw [h.1]; exact i1⟩
  refine ⟨by simp [h.1], fun k k0 k1 => ?_⟩
  rw [gx_setL hi k0]
  by_cases c : k = i
  · rw [if_pos c, c]; exact hv.trans (h.2 i i0 i1)
  · rw [if_neg c]; exact h.2 k k0 k1
theorem Clone_Lint_eq {l : List (List Int)} (hl : l.length ≤ 1073741824) : slices_Clone_Lint l = some l := by
  unfold slices_Clone_Lint
  rw [need_of (by rw [room_iff]; simpa using hl)]
  simp only [bnd_eq, List.nil_append]
  unfold nilc
  by_cases h : l = []
  · simp [h]
  · rw [if_neg h]
end Go.DB
