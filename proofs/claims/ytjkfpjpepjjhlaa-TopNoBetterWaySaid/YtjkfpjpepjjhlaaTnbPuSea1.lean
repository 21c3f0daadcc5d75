/-
  Lines of a task: where a number belongs, what is blocked.
-/
import Derived.Test.YtjkfpjpepjjhlaaTnbPuGrid
import Derived.Test.YtjkfpjpepjjhlaaTnbPuNorm
set_option linter.unusedSimpArgs false
set_option linter.unusedVariables false
namespace Go.DB
open Go Go.RowKit

/-- A search tells where a number belongs, and whether it is there. -/
theorem bs_pos (x : List Int) (v : Int) (hx : x.length ≤ 1000000) (hs : x.Pairwise (· < ·)) : ∃ (i : Nat) (b : Bool), slices_BinarySearch_int x v = some ((i : Int), b) ∧ i ≤ x.length ∧ (∀ j : Nat, j < i → gx x (j : Int) < v) ∧ (∀ j : Nat, i ≤ j → j < x.length → v ≤ gx x (j : Int)) ∧
    (b = true ↔ v ∈ x) ∧ (v ∈ x → i < x.length ∧ gx x (i : Int) = v) := by
  have mono : ∀ a b : Nat, a < b → b < x.length → gx x (a : Int) < gx x (b : Int) := fun a b h1 h2 => by
    rw [gx_nat (by omega), gx_nat h2]
    exact List.pairwise_iff_getElem.1 hs a b (by omega) h2 h1
  unfold slices_BinarySearch_int
  simp only [bnd_eq]
  obtain ⟨e, he, s, rfl, hs, hlo, hhi⟩ := loop_inv (body := slices_BinarySearch_int_L1 x v) (s0 := ((0 : Int), (x.length : Int))) (fun st => ∃ i j : Nat, st = ((i : Int), (j : Int)) ∧ i ≤ j ∧ j ≤ x.length ∧ (∀ k : Nat, k < i → gx x (k : Int) < v) ∧ ∀ k : Nat, j ≤ k → k < x.length → v ≤ gx x (k : Int)) (fun st => (st.2 - st.1).toNat)
    (fun e => ∃ s : Nat, e = (s : Int) ∧ s ≤ x.length ∧ (∀ k : Nat, k < s → gx x (k : Int) < v) ∧ ∀ k : Nat, s ≤ k → k < x.length → v ≤ gx x (k : Int))
    ⟨0, x.length, by simp, Nat.zero_le _, Nat.le_refl _, fun k h => by omega, fun k h1 h2 => by omega⟩ (fun st hI => by
    obtain ⟨i, j, rfl, h1, h2, hlo, hhi⟩ := hI
    unfold slices_BinarySearch_int_L1
    by_cases c : i < j
    · have d : decide ((i : Int) < (j : Int)) = true := by rw [decide_eq_true_eq]; omega
      simp only [d, cond_true, bnd_eq]
      rw [half_eq (by omega), need_of ⟨by omega, by omega⟩]
      have hless : cmp_Less_int (gx x (((i + j) / 2 : Nat) : Int)) v = some (decide (gx x (((i + j) / 2 : Nat) : Int) < v)) := by
        unfold cmp_Less_int cmp_isNaN_int; simp
      rw [hless]
      simp only [bind_sm]
      left
      by_cases cv : gx x (((i + j) / 2 : Nat) : Int) < v
      · rw [decide_eq_true cv]
        refine ⟨_, rfl, ⟨(i + j) / 2 + 1, j, by rw [Wk (by omega) (by omega)]; simp, by omega, h2, fun k hk => ?_, hhi⟩, by simp only; rw [Wk (by omega) (by omega)]; omega⟩
        by_cases e : k = (i + j) / 2
        · rw [e]; exact cv
        · exact Int.lt_trans (mono k ((i + j) / 2) (by omega) (by omega)) cv
      · rw [decide_eq_false cv]
        refine ⟨_, rfl, ⟨i, (i + j) / 2, rfl, by omega, by omega, hlo, fun k hk hk2 => ?_⟩, by simp only; omega⟩
        by_cases e : k = (i + j) / 2
        · rw [e]; omega
        · have := mono ((i + j) / 2) k (by omega) hk2
          omega
    · right
      have d : decide ((i : Int) < (j : Int)) = false := by rw [decide_eq_false_iff_not]; omega
      obtain rfl : i = j := by omega
      exact ⟨(i : Int), by simp only [d, cond_false], i, rfl, by omega, hlo, hhi⟩)
  rw [he]
  simp only [bind_sm]
  have hR : decide ((s : Int) < (x.length : Int)) = true → inR x (s : Int) := fun h => ⟨by omega, by simpa using h⟩
  rw [need_of hR, need_of (fun h _ => hR h)]
  have hv : v ∈ x → s < x.length ∧ gx x (s : Int) = v := fun hm => by
    obtain ⟨k, hk, rfl⟩ := List.mem_iff_getElem.1 hm
    rw [← gx_nat hk] at hlo hhi ⊢
    have h1 : s ≤ k := by
      rcases Nat.lt_or_ge k s with h | h
      · have := hlo k h; omega
      · exact h
    have h2 := hhi s (Nat.le_refl _) (by omega)
    refine ⟨by omega, ?_⟩
    by_cases e : s = k
    · rw [e]
    · have := mono s k (by omega) hk; omega
  have nan : ∀ y, slices_isNaN_int y = some false := fun y => by unfold slices_isNaN_int; simp
  have fin : (Option.bind (gd ((decide ((s : Int) < (x.length : Int))) && !(decide ((gx x (s : Int)) = v))) (slices_isNaN_int (gx x (s : Int)))) fun r2 =>
      Option.bind (gd ((decide ((s : Int) < (x.length : Int))) && !(decide ((gx x (s : Int)) = v)) && r2) (slices_isNaN_int v)) fun r3 =>
      some ((s : Int), (decide ((s : Int) < (x.length : Int))) && ((decide ((gx x (s : Int)) = v)) || (r2 && r3)))) = some ((s : Int), decide ((s : Int) < (x.length : Int)) && decide ((gx x (s : Int)) = v)) := by
    rw [nan, nan]
    have g1 : ∀ b, gd b (some false) = some false := fun b => by cases b <;> rfl
    rw [g1, bind_sm, g1, bind_sm]
    simp
  rw [fin]
  refine ⟨s, _, rfl, hs, hlo, hhi, ?_, hv⟩
  rw [Bool.and_eq_true, decide_eq_true_eq, decide_eq_true_eq]
  constructor
  · rintro ⟨h1, h2⟩
    rw [← h2]
    exact gx_mem ⟨by omega, h1⟩
  · intro hm
    obtain ⟨h1, h2⟩ := hv hm
    exact ⟨by omega, h2⟩

/-! The lines. -/
theorem gridOf_strict (at_ : List Int) : (gridOf at_).Pairwise (· < ·) := (compactI_strict (sortI_pw _)).1
theorem gridOf_mem {at_ : List Int} {v : Int} : v ∈ gridOf at_ ↔ ∃ n ∈ at_, v ∈ arnd n := by
  unfold gridOf
  rw [(compactI_strict (sortI_pw _)).2, sortI_mem, List.mem_flatMap]
theorem arnd_mem {n v : Int} : v ∈ arnd n ↔ -1000000 ≤ v ∧ v ≤ 1000000 ∧ n - 1 ≤ v ∧ v ≤ n + 1 := by
  unfold arnd in1
  simp only [List.mem_append]
  constructor
  · intro h
    rcases h with (h | h) | h <;> (split at h <;> simp at h <;> omega)
  · rintro ⟨h1, h2, h3, h4⟩
    have : v = n - 1 ∨ v = n ∨ v = n + 1 := by omega
    rcases this with rfl | rfl | rfl
    · left; left; rw [if_pos ⟨h1, h2⟩]; simp
    · left; right; rw [if_pos ⟨h1, h2⟩]; simp
    · right; rw [if_pos ⟨h1, h2⟩]; simp
theorem gx_strict {x : List Int} (hs : x.Pairwise (· < ·)) {a b : Nat} (h1 : a < b) (h2 : b < x.length) : gx x (a : Int) < gx x (b : Int) := by
  rw [gx_nat (by omega), gx_nat h2]
  exact List.pairwise_iff_getElem.1 hs a b (by omega) h2 h1
/-! What is blocked. -/
/-- A stretch has a point in the inside of a zone. -/
def inZ (z : Route_zone) (a b : Point) : Prop := z.left < max a.X b.X ∧ min a.X b.X < z.right ∧ z.top < max a.Y b.Y ∧ min a.Y b.Y < z.bottom
instance (z : Route_zone) (a b : Point) : Decidable (inZ z a b) := by unfold inZ; infer_instance
def blkB (t : Task) (a b : Point) : Bool := (t.Walls.map (zn t)).any (fun z => decide (inZ z a b))
theorem free_val {t : Task} (h : TaskOK t) (a b : Point) : route_free (t.Walls.map (zn t)) a b = some (!blkB t a b) := by
  have hf := h.few
  have hp : ∀ z, route_free_1 z a b = some (decide (inZ z a b)) := fun z => by
    unfold route_free_1
    congr 1
    rw [Bool.eq_iff_iff, decide_eq_true_eq]
    unfold inZ
    simp only [Bool.and_eq_true, decide_eq_true_eq]
    constructor
    · rintro ⟨⟨⟨h1, h2⟩, h3⟩, h4⟩; exact ⟨h1, h2, h3, h4⟩
    · rintro ⟨h1, h2, h3, h4⟩; exact ⟨⟨⟨h1, h2⟩, h3⟩, h4⟩
  unfold route_free
  have hi : slices_IndexFunc_zone (t.Walls.map (zn t)) (fun x0 => route_free_1 x0 a b) = some (match (t.Walls.map (zn t)).findIdx? (fun z => decide (inZ z a b)) with | some i => (i : Int) | none => -1) := by
    unfold slices_IndexFunc_zone
    rw [rforE_index (fun z => decide (inZ z a b)) (by rw [List.length_map]; omega) (fun i h => by
      unfold slices_IndexFunc_zone_L1
      rw [need_of ⟨by omega, by omega⟩, gx_nat h]
      show Option.bind (route_free_1 (t.Walls.map (zn t))[i] a b) _ = _
      rw [hp]
      simp only [bind_sm]
      cases decide (inZ ((t.Walls.map (zn t))[i]) a b) <;> rfl)]
    cases (t.Walls.map (zn t)).findIdx? (fun z => decide (inZ z a b)) <;> rfl
  unfold slices_ContainsFunc_zone
  rw [hi]
  exact congrArg (fun b : Bool => some (!b)) (idx_any (l := t.Walls.map (zn t)) (p := fun z => decide (inZ z a b)))
theorem blkB_iff {t : Task} {a b : Point} : blkB t a b = true ↔ ∃ w ∈ t.Walls, inZ (zn t w) a b := by
  unfold blkB
  simp [List.any_eq_true]
end Go.DB
