/-
  The code draws a branch as it is told in plain words.
-/
import Derived.Test.YtakkmmhjohadaaaTdmPuTidy2
set_option linter.unusedSimpArgs false
set_option linter.unusedVariables false
namespace Go.DB
open Go Go.RowKit

/-! Bounds. -/

def Ex (b : List Tst) (lo hi : Int) : Prop := ∀ s ∈ b, lo ≤ s.from_ ∧ s.from_ ≤ hi ∧ lo ≤ s.to_ ∧ s.to_ ≤ hi
theorem Ex.beside {gap lo1 hi1 lo2 hi2 : Int} {b l : List Tst} (hg : 0 ≤ gap) (hb : b ≠ []) (hl : l ≠ []) (h1 : Ex b lo1 hi1) (h2 : Ex l lo2 hi2) :
    ∃ lo hi, Ex (mrg (mvOf gap b l) b l) lo hi ∧ hi - lo ≤ (hi1 - lo1) + gap + (hi2 - lo2) ∧ lo ≤ lo1 ∧ hi1 ≤ hi := by
  obtain ⟨_, r0, hr1, hr2, hm⟩ := mvOf_spec (gap := gap) hb hl
  generalize mvOf gap b l = m at *
  have a1 := h1 _ (List.getElem_mem hr1)
  have a2 := h2 _ (List.getElem_mem hr2)
  refine ⟨min lo1 (lo2 + m), max hi1 (hi2 + m), fun s hs => ?_, by omega, by omega, by omega⟩
  obtain ⟨r, hr, rfl⟩ := List.mem_iff_getElem.1 hs
  rw [mrg_get]
  rw [mrg_len] at hr
  by_cases q2 : r < l.length
  · rw [dif_pos q2]
    have c2 := h2 _ (List.getElem_mem q2)
    by_cases q1 : r < b.length
    · have c1 := h1 _ (List.getElem_mem q1)
      rw [dif_pos q1]; simp only; omega
    · rw [dif_neg q1]; simp only; omega
  · rw [dif_neg q2]
    have c1 := h1 _ (List.getElem_mem (show r < b.length by omega)); omega

theorem run_snoc (gap : Int) : ∀ (b : List Tst) (ls : List (List Tst)) (l : List Tst), run gap b (ls ++ [l]) = (mrg (mvOf gap (run gap b ls).1 l) (run gap b ls).1 l, (run gap b ls).2 ++ [mvOf gap (run gap b ls).1 l])
  | b, [], l => rfl
  | b, x :: ls, l => by simp only [List.cons_append, run, run_snoc gap _ ls l]

/-- What is below k, of its first j kids. -/
def belP (kd : Int → List Int) (w : Int → Int) (gap : Int) (m : Nat) (k : Int) (j : Nat) : List Tst := (run gap [] (((kd k).take j).map (sk kd w gap m))).1
theorem belP_succ {kd : Int → List Int} {w : Int → Int} {gap : Int} {m : Nat} {k : Int} {j : Nat} (hj : j < (kd k).length) :
    belP kd w gap m k (j + 1) = mrg (mvOf gap (belP kd w gap m k j) (sk kd w gap m (gx (kd k) (j : Int)))) (belP kd w gap m k j) (sk kd w gap m (gx (kd k) (j : Int))) := by
  unfold belP
  have e : (kd k).take (j + 1) = (kd k).take j ++ [gx (kd k) (j : Int)] := by rw [List.take_add_one, gx_nat hj, List.getElem?_eq_getElem hj]; rfl
  rw [e, List.map_append, List.map_cons, List.map_nil, run_snoc]
theorem mov_take {kd : Int → List Int} {w : Int → Int} {gap : Int} {m : Nat} {k : Int} : ∀ j : Nat, j ≤ (kd k).length → (run gap [] (((kd k).take j).map (sk kd w gap m))).2 = (mov kd w gap m k).take j := by
  have key : ∀ (ls rs : List (List Tst)) (b : List Tst), (run gap b (ls ++ rs)).2.take ls.length = (run gap b ls).2 := by
    intro ls
    induction ls with
    | nil => intro rs b; simp [run]
    | cons l ls ih => intro rs b; simp only [List.cons_append, run, List.length_cons, List.take_succ_cons, ih]
  intro j hj
  have := key (((kd k).take j).map (sk kd w gap m)) (((kd k).drop j).map (sk kd w gap m)) []
  rw [← List.map_append, List.take_append_drop] at this
  unfold mov
  rw [← this]
  simp [Nat.min_eq_left hj]
theorem mov_at {kd : Int → List Int} {w : Int → Int} {gap : Int} {m : Nat} {k : Int} {j : Nat} (hj : j < (kd k).length) :
    gx (mov kd w gap m k) (j : Int) = mvOf gap (belP kd w gap m k j) (sk kd w gap m (gx (kd k) (j : Int))) := by
  have e : (kd k).take (j + 1) = (kd k).take j ++ [gx (kd k) (j : Int)] := by rw [List.take_add_one, gx_nat hj, List.getElem?_eq_getElem hj]; rfl
  have h1 := mov_take (kd := kd) (w := w) (gap := gap) (m := m) (k := k) (j + 1) hj
  have h2 := mov_take (kd := kd) (w := w) (gap := gap) (m := m) (k := k) j (by omega)
  rw [e, List.map_append, List.map_cons, List.map_nil, run_snoc] at h1
  simp only at h1
  have hl : j < (mov kd w gap m k).length := by unfold mov; rw [run_len]; simpa using hj
  rw [List.take_add_one, ← h2, List.getElem?_eq_getElem hl] at h1
  have := List.append_cancel_left h1
  rw [gx_nat hl]
  simpa [belP] using this.symm
theorem bel_eq {kd : Int → List Int} {w : Int → Int} {gap : Int} {m : Nat} {k : Int} : bel kd w gap m k = belP kd w gap m k (kd k).length := by unfold bel belP; rw [List.take_length]

/-- No drawing is far away. -/
theorem Fo.exk {n : Nat} {kd : Int → List Int} (h : Fo n kd) {m : Nat} (hm : lev kd m = []) {w : Int → Int} (hw : ∀ x, 0 ≤ w x ∧ w x ≤ 1000) {gap : Int} (hg : 0 ≤ gap) (hg1 : gap ≤ 1000) {i : Nat} {k : Int} (hi : i < m) (hk : k ∈ lev kd i) :
    (∃ lo hi, Ex (sk kd w gap m k) lo hi ∧ lo ≤ 0 ∧ 0 ≤ hi ∧ hi - lo ≤ 2001 * (cn kd m k : Int) - 1000) ∧
    (∀ j, 1 ≤ j → j ≤ (kd k).length → ∃ lo hi, Ex (belP kd w gap m k j) lo hi ∧ lo ≤ 0 ∧ 0 ≤ hi ∧ hi - lo ≤ 2001 * ((((kd k).take j).map (cn kd m)).sum : Nat) - 1000 ∧ belP kd w gap m k j ≠ []) := by
  refine (h.ind hm (fun d k => ∀ i, i + d = m → k ∈ lev kd i → 1 ≤ d → (∃ lo hi, Ex (sk kd w gap m k) lo hi ∧ lo ≤ 0 ∧ 0 ≤ hi ∧ hi - lo ≤ 2001 * (cn kd m k : Int) - 1000) ∧
    (∀ j, 1 ≤ j → j ≤ (kd k).length → ∃ lo hi, Ex (belP kd w gap m k j) lo hi ∧ lo ≤ 0 ∧ 0 ≤ hi ∧ hi - lo ≤ 2001 * ((((kd k).take j).map (cn kd m)).sum : Nat) - 1000 ∧ belP kd w gap m k j ≠ [])) (fun d i0 k hd hk0 ih i hi hk _ => ?_) (m - i) i k (by omega) hk) i (by omega) hk (by omega)
  have hwk := hw k
  have hcn := h.cn_eq hm (show i < m by omega) hk
  have hsk := h.sk_eq w gap hm (show i < m by omega) hk
  have hkid : ∀ x ∈ kd k, x ∈ lev kd (i + 1) ∧ i + 1 < m := fun x hx => by
    have h1 := lev_kid hk hx
    refine ⟨h1, ?_⟩
    rcases Nat.lt_or_ge (i + 1) m with h5 | h5
    · exact h5
    · rw [show i + 1 = m by omega, hm] at h1; cases h1
  have hc : ∀ x ∈ kd k, sk kd w gap m x ≠ [] ∧ ∃ lo hi, Ex (sk kd w gap m x) lo hi ∧ lo ≤ 0 ∧ 0 ≤ hi ∧ hi - lo ≤ 2001 * (cn kd m x : Int) - 1000 := fun x hx => by
    obtain ⟨h1, h2⟩ := hkid x hx
    exact ⟨by rw [h.sk_eq w gap hm h2 h1]; simp, (ih x hx (i + 1) (by omega) h1 (by omega)).1⟩
  have part : ∀ j, 1 ≤ j → j ≤ (kd k).length → ∃ lo hi, Ex (belP kd w gap m k j) lo hi ∧ lo ≤ 0 ∧ 0 ≤ hi ∧ hi - lo ≤ 2001 * ((((kd k).take j).map (cn kd m)).sum : Nat) - 1000 ∧ belP kd w gap m k j ≠ [] := by
    intro j
    induction j with
    | zero => intro h1; omega
    | succ j ihj =>
      intro _ hj
      have hj' : j < (kd k).length := by omega
      have hx := gx_mem (l := kd k) (k := (j : Int)) ⟨by omega, by omega⟩
      obtain ⟨c1, lo2, hi2, c2, c3, c4, c5⟩ := hc _ hx
      have e : (kd k).take (j + 1) = (kd k).take j ++ [gx (kd k) (j : Int)] := by rw [List.take_add_one, gx_nat hj', List.getElem?_eq_getElem hj']; rfl
      rw [belP_succ hj', e, List.map_append, List.sum_append_nat]
      simp only [List.map_cons, List.map_nil, List.sum_cons, List.sum_nil, Nat.add_zero]
      by_cases hj0 : j = 0
      · subst hj0
        have hb0 : belP kd w gap m k 0 = [] := by unfold belP; simp [run]
        rw [hb0, mvOf_nil, mrg_zero]
        exact ⟨lo2, hi2, c2, c3, c4, by simp; omega, c1⟩
      · obtain ⟨lo1, hi1, d1, d2, d3, d4, d5⟩ := ihj (by omega) (by omega)
        obtain ⟨lo, hi', f1, f2, f3, f4⟩ := Ex.beside hg d5 c1 d1 c2
        refine ⟨lo, hi', f1, by omega, by omega, by omega, ?_⟩
        have := List.length_pos_iff.2 c1
        exact List.length_pos_iff.1 (by rw [mrg_len]; omega)
  refine ⟨?_, part⟩
  rw [hsk]
  cases hkd : kd k with
  | nil =>
    have hb : bel kd w gap m k = [] := by unfold bel; rw [hkd]; rfl
    have hp : px kd w gap m k = 0 := by unfold px; rw [hb]; rfl
    rw [hb, hp]
    refine ⟨0, w k, fun s hs => ?_, by omega, by omega, by omega⟩
    simp at hs; subst hs; simp only; omega
  | cons c cs =>
    obtain ⟨lo, hi', f1, f2, f3, f4, f5⟩ := part (kd k).length (by rw [hkd]; simp) (Nat.le_refl _)
    rw [List.take_length] at f4
    rw [← bel_eq] at f1 f5
    cases hb : bel kd w gap m k with
    | nil => exact absurd hb f5
    | cons x b' =>
      rw [hb] at f1
      have hx := f1 x (by simp)
      have hp : px kd w gap m k = (x.from_ + x.to_) / 2 - w k / 2 := by unfold px; rw [hb]; rfl
      refine ⟨min lo (px kd w gap m k), max hi' (px kd w gap m k + w k), fun s hs => ?_, by omega, by omega, by omega⟩
      rcases List.mem_cons.1 hs with rfl | hs
      · simp only; omega
      · have := f1 s hs; omega

end Go.DB
