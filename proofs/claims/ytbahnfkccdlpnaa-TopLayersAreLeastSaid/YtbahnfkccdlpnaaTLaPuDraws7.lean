/-
  Drawings: places of rows are told apart.
-/
import Derived.Test.YtbahnfkccdlpnaaTLaPuDraws6
set_option linter.unusedSimpArgs false
set_option linter.unusedVariables false
namespace Go.DB
open Go Go.RowKit

section
variable {n : Nat} {sizes : List Point} {l m : List Link} {t c r f : List Int} {gapx gapy R : Int} {out : List Point}

theorem hF_pos (h : DrawIn n sizes m r gapx gapy) {y : Int} (hne : rowF r n y ≠ []) : 1 ≤ hF sizes (rowF r n y) ∧ hF sizes (rowF r n y) ≤ 1000 := by
  obtain ⟨h1, h2, h3⟩ := hF_high sizes (rowF r n y)
  obtain ⟨k, hk⟩ := List.exists_mem_of_ne_nil _ hne
  have hkr := (mem_rowF.1 hk).1
  have a := h2 k hk
  have b := (h.sB k hkr.1 hkr.2).2
  refine ⟨by omega, ?_⟩
  rcases h3 with e | ⟨j, j1, j2⟩
  · omega
  · have hjr := (mem_rowF.1 j1).1
    have := (h.sB j hjr.1 hjr.2).2
    omega
theorem yF_step {t : Nat} : yF sizes r n gapy (t + 1) = yF sizes r n gapy t + (hF sizes (rowF r n (t : Int)) + gapy) := rfl
theorem yF_mono (h : DrawIn n sizes m r gapx gapy) (hfull : ∀ t : Int, 0 ≤ t → t ≤ R → rowF r n t ≠ []) {a : Nat} : ∀ {b : Nat}, a < b → (b : Int) ≤ R + 1 → yF sizes r n gapy a + hF sizes (rowF r n (a : Int)) + gapy ≤ yF sizes r n gapy b := by
  intro b hab hb
  induction b with
  | zero => omega
  | succ b ih =>
    rw [yF_step]
    have hp := hF_pos h (hfull (b : Int) (by omega) (by omega))
    have hg := h.gy1
    rcases Nat.lt_or_ge a b with q | q
    · have := ih q (by omega)
      omega
    · rw [show a = b by omega]; omega
theorem yF_bd (h : DrawIn n sizes m r gapx gapy) (hfull : ∀ t : Int, 0 ≤ t → t ≤ R → rowF r n t ≠ []) : ∀ {b : Nat}, (b : Int) ≤ R + 1 → 0 ≤ yF sizes r n gapy b ∧ yF sizes r n gapy b ≤ b * 2000
  | 0, _ => by simp [yF]
  | b + 1, hb => by
    rw [yF_step]
    have := yF_bd h hfull (b := b) (by omega)
    have hp := hF_pos h (hfull (b : Int) (by omega) (by omega))
    have hg := h.gy1
    push_cast; omega
theorem yF_lt (h : DrawIn n sizes m r gapx gapy) (hfull : ∀ t : Int, 0 ≤ t → t ≤ R → rowF r n t ≠ []) {a b : Nat} (hab : a < b) (hb : (b : Int) ≤ R + 1) : yF sizes r n gapy a < yF sizes r n gapy b := by
  have := yF_mono h hfull hab hb
  have hp := hF_pos h (hfull (a : Int) (by omega) (by omega))
  have hg := h.gy1
  omega

/-- The places of rows, as they are read out of a drawing. -/
theorem ys_eq (h : DrawIn n sizes m r gapx gapy) (hd : Drawn n sizes r gapx gapy R out) : normI (out.map (fun p => p.Y)) = tabI (R + 1).toNat (yF sizes r n gapy) := by
  obtain ⟨a1, a2⟩ := compactI_strict (sortI_pw (out.map (fun p : Point => p.Y)))
  have hR := hd.top
  have hlen := hd.len
  refine strict_uniq a1 ?_ (fun x => (a2 x).trans (sortI_mem.trans ?_))
  · rw [List.pairwise_iff_getElem]
    intro i j hi hj hij
    rw [tabI_len] at hi hj
    rw [← gx_nat, ← gx_nat, gx_tabI hi, gx_tabI hj]
    exact yF_lt h hd.full hij (by omega)
  · constructor
    · intro hx
      obtain ⟨p, hp, rfl⟩ := List.mem_map.1 hx
      obtain ⟨j, hj, rfl⟩ := mem_gx hp
      have hj1 : j < n := by have := hj.2; omega
      have hb := h.rB j hj.1 hj1
      have ht := hR.2.2 j hj.1 hj1
      rw [hd.at_ j hj.1 hj1]
      exact List.mem_map.2 ⟨(gx r j).toNat, List.mem_range.2 (by omega), rfl⟩
    · intro hx
      obtain ⟨i, hi, rfl⟩ := List.mem_map.1 hx
      have hi' := List.mem_range.1 hi
      obtain ⟨k, hk⟩ := List.exists_mem_of_ne_nil _ (hd.full (i : Int) (by omega) (by omega))
      obtain ⟨⟨k0, k1⟩, k2⟩ := mem_rowF.1 hk
      refine List.mem_map.2 ⟨gx out k, gx_mem ⟨k0, by omega⟩, ?_⟩
      rw [hd.at_ k k0 k1, k2, Int.toNat_natCast]
theorem ys_some (h : DrawIn n sizes m r gapx gapy) (hd : Drawn n sizes r gapx gapy R out) : ∃ a b, slices_Values_int (out.map (fun p => p.Y)) = some a ∧ slices_Sorted_int a = some b ∧ slices_Compact_int b = some (tabI (R + 1).toNat (yF sizes r n gapy)) := by
  have hlen := hd.len
  have hn := h.n1
  refine ⟨⟨out.map (fun p => p.Y)⟩, sortI (out.map (fun p => p.Y)), rfl, ?_, ?_⟩
  · unfold slices_Sorted_int
    rw [need_of (by simp; omega)]
  · unfold slices_Compact_int
    rw [need_of (by simp [sortI]; omega), ← ys_eq h hd]
    rfl
/-- A place's number among all. -/
theorem idx_tab {N : Nat} {g : Nat → Int} (hg : ∀ a b, a < b → b < N → g a < g b) (hN : N ≤ 1000) {i : Nat} (hi : i < N) : slices_Index_int (tabI N g) (g i) = some (i : Int) := by
  rw [Index_int_eq _ _ (by rw [tabI_len]; omega)]
  have : (tabI N g).findIdx? (fun x => decide (g i = x)) = some i := by
    rw [List.findIdx?_eq_some_iff_getElem]
    refine ⟨by rw [tabI_len]; exact hi, ?_, fun j hj => ?_⟩
    · rw [← gx_nat, gx_tabI hi]; simp
    · have := hg j i hj hi
      rw [← gx_nat, gx_tabI (by omega)]
      simp; omega
  rw [this]
end
end Go.DB
