/-
  The code draws a branch: what draw comes to.
-/
import Derived.Test.YtakkmmhjohadaaaTdmPuTidy5
set_option linter.unusedSimpArgs false
set_option linter.unusedVariables false
namespace Go.DB
open Go Go.RowKit

theorem Fo.sk_len {n : Nat} {kd : Int → List Int} (h : Fo n kd) {m : Nat} (hm : lev kd m = []) (w : Int → Int) (gap : Int) {i : Nat} {k : Int} (hi : i < m) (hk : k ∈ lev kd i) :
    (sk kd w gap m k).length ≤ m - i ∧ ∀ j, j ≤ (kd k).length → (belP kd w gap m k j).length ≤ m - i := by
  refine (h.ind hm (fun d k => ∀ i, i + d = m → k ∈ lev kd i → 1 ≤ d → (sk kd w gap m k).length ≤ d ∧ ∀ j, j ≤ (kd k).length → (belP kd w gap m k j).length ≤ d) (fun d i0 k hd hk0 ih i hi hk _ => ?_) (m - i) i k (by omega) hk) i (by omega) hk (by omega)
  have hpart : ∀ j, j ≤ (kd k).length → (belP kd w gap m k j).length ≤ d := by
    intro j
    induction j with
    | zero => intro _; unfold belP; simp [run]
    | succ j ihj =>
      intro hj
      have hj' : j < (kd k).length := by omega
      have hx := gx_mem (l := kd k) (k := (j : Int)) ⟨by omega, by omega⟩
      have h1 := lev_kid hk hx
      have hi1 : i + 1 < m := by
        rcases Nat.lt_or_ge (i + 1) m with h5 | h5
        · exact h5
        · rw [show i + 1 = m by omega, hm] at h1; cases h1
      have h2 := (ih _ hx (i + 1) (by omega) h1 (by omega)).1
      rw [belP_succ hj', mrg_len]
      have := ihj (by omega)
      omega
  refine ⟨?_, fun j hj => by have := hpart j hj; omega⟩
  rw [h.sk_eq w gap hm (by omega) hk]
  have := hpart (kd k).length (Nat.le_refl _)
  rw [← bel_eq] at this
  simp; omega

/-- A drawn tree's data. -/
structure Dw (t : List Branch) (m : Nat) (gap : Int) : Prop where
  ok : TreeOK t m
  g0 : 0 ≤ gap
  g1 : gap ≤ 1000
abbrev wOf (t : List Branch) (k : Int) : Int := (gx t k).W_
theorem TreeOK.w {t : List Branch} {m : Nat} (h : TreeOK t m) {k : Int} (h0 : 0 ≤ k) (h1 : k < t.length) : 1 ≤ wOf t k ∧ wOf t k ≤ 1000 := by
  have := h.side _ (gx_mem (l := t) (k := k) ⟨h0, h1⟩)
  exact ⟨this.1, this.2.1⟩
theorem TreeOK.kidsR' {t : List Branch} {m : Nat} (h : TreeOK t m) {k : Int} (h0 : 0 ≤ k) (h1 : k < t.length) : (kidsOf t k).length ≤ 300 := by
  have h2 := nodup_le t.length (kidsOf t k) (h.fo.one k h0 h1) (fun x hx => by have := h.fo.rng k h0 h1 x hx; omega)
  have := h.len; omega
theorem TreeOK.w' {t : List Branch} {m : Nat} (h : TreeOK t m) (k : Int) : 0 ≤ wOf t k ∧ wOf t k ≤ 1000 := by
  by_cases hk : k.toNat < t.length
  · have h1 : gx t k ∈ t := by unfold gx; rw [List.getElem?_eq_getElem hk]; exact List.getElem_mem hk
    have := h.side _ h1
    exact ⟨Int.le_trans (by decide) this.1, this.2.1⟩
  · have : wOf t k = 0 := by unfold wOf gx; rw [List.getElem?_eq_none (by omega)]; rfl
    omega

section
variable {t : List Branch} {m : Nat} {gap : Int}
abbrev SK (t : List Branch) (m : Nat) (gap : Int) (k : Int) : List Tst := sk (kidsOf t) (wOf t) gap m k
abbrev PX (t : List Branch) (m : Nat) (gap : Int) (k : Int) : Int := px (kidsOf t) (wOf t) gap m k
noncomputable abbrev MV (t : List Branch) (m : Nat) (gap : Int) (k : Int) : Int := mvd (kidsOf t) (wOf t) gap t.length m k
noncomputable abbrev DS (t : List Branch) (m : Nat) (gap : Int) (X Y : Int → Prop) (dr : Tree_drawer) : Tree_drawer := ds t.length (PX t m gap) (MV t m gap) X Y dr

theorem Dw.near (h : Dw t m gap) {i : Nat} {k : Int} (hi : i < m) (hk : k ∈ lev (kidsOf t) i) : Near (SK t m gap k) ∧ (∀ j, j ≤ (kidsOf t k).length → Near (belP (kidsOf t) (wOf t) gap m k j)) ∧ (∀ j, 1 ≤ j → j ≤ (kidsOf t k).length → belP (kidsOf t) (wOf t) gap m k j ≠ []) := by
  obtain ⟨⟨lo, hi', e1, e2, e3, e4⟩, part⟩ := h.ok.fo.exk h.ok.nil h.ok.w' h.g0 h.g1 hi hk
  have hc := h.ok.fo.cn_le h.ok.nil hi hk
  have hn := h.ok.len
  have hcn := h.ok.fo.cn_eq h.ok.nil hi hk
  refine ⟨fun s hs => ?_, fun j hj => ?_, fun j h1 h2 => ?_⟩
  · have := e1 s hs; omega
  · by_cases hj0 : j = 0
    · subst hj0
      intro s hs
      unfold belP at hs; simp [run] at hs
    · obtain ⟨lo2, hi2, f1, f2, f3, f4, f5⟩ := part j (by omega) hj
      have hs : (((kidsOf t k).take j).map (cn (kidsOf t) m)).sum ≤ ((kidsOf t k).map (cn (kidsOf t) m)).sum := by
        have : ((kidsOf t k).map (cn (kidsOf t) m)).sum = (((kidsOf t k).take j).map (cn (kidsOf t) m)).sum + (((kidsOf t k).drop j).map (cn (kidsOf t) m)).sum := by rw [← List.sum_append_nat, ← List.map_append, List.take_append_drop]
        omega
      intro s hs2
      have := f1 s hs2; omega
  · obtain ⟨_, _, _, _, _, _, f5⟩ := part j h1 h2; exact f5

theorem draw_kid (h : Dw t m gap) {i : Nat} {k : Int} (hi : i < m) (hk : k ∈ lev (kidsOf t) i) {slf : (Tree_drawer × Int) → Option ((List Tree_stretch) × Tree_drawer)} {x : Tree_drawer × Int} {v1 : Branch} (hv : v1.Kids = kidsOf t k)
    (ih : ∀ c ∈ kidsOf t k, ∀ dr, DOK t gap (PX t m gap) dr → slf (dr, c) = some (SK t m gap c, DS t m gap (sub (kidsOf t) c) (ssub (kidsOf t) c) dr)) {j : Nat} (hj : j < (kidsOf t k).length) {dr : Tree_drawer} (hdr : DOK t gap (PX t m gap) dr) :
    tree_drawer_draw_L1 slf x v1 (j : Int) (belP (kidsOf t) (wOf t) gap m k j, dr) = some (belP (kidsOf t) (wOf t) gap m k (j + 1), DS t m gap (sub (kidsOf t) (gx (kidsOf t k) (j : Int))) (sub (kidsOf t) (gx (kidsOf t k) (j : Int))) dr) := by
  have hin : inR (kidsOf t k) (j : Int) := ⟨by omega, by omega⟩
  have hc := gx_mem hin
  have hc1 := lev_kid hk hc
  have hkr := h.ok.fo.lev_in hk
  have hi1 : i + 1 < m := by
    rcases Nat.lt_or_ge (i + 1) m with h5 | h5
    · exact h5
    · rw [show i + 1 = m by have := hi; omega, h.ok.nil] at hc1; cases hc1
  have hcr := h.ok.fo.lev_in hc1
  obtain ⟨n1, _, _⟩ := h.near hi1 hc1
  obtain ⟨_, n2, n3⟩ := h.near hi hk
  have l1 : (SK t m gap (gx (kidsOf t k) (j : Int))).length ≤ m - (i + 1) := (h.ok.fo.sk_len h.ok.nil (wOf t) gap hi1 hc1).1
  have l2 := (h.ok.fo.sk_len h.ok.nil (wOf t) gap hi hk).2 j (by omega)
  have hm2 := h.ok.m2
  have hln := h.ok.len
  have hg0 := h.g0
  have hg1 := h.g1
  have hmv : MV t m gap (gx (kidsOf t k) (j : Int)) = mvOf gap (belP (kidsOf t) (wOf t) gap m k j) (SK t m gap (gx (kidsOf t k) (j : Int))) := by
    show mvd (kidsOf t) (wOf t) gap t.length m (gx (kidsOf t k) (j : Int)) = _
    rw [h.ok.fo.mvd_eq (wOf t) gap m hkr.1 hkr.2 hj, mov_at hj]
  rw [belP_succ hj]
  unfold tree_drawer_draw_L1
  rw [hv, need_of hin]
  simp only [bnd_eq]
  generalize gx (kidsOf t k) (j : Int) = c at *
  have eta : ({ dr with x := dr.x, moved := dr.moved } : Tree_drawer) = dr := rfl
  rw [eta, ih c hc dr hdr]
  simp only [bind_sm]
  have hd2 : DOK t gap (PX t m gap) (DS t m gap (sub (kidsOf t) c) (ssub (kidsOf t) c) dr) := hdr.ds
  have hml := move_loop (b := belP (kidsOf t) (wOf t) gap m k j) (l := SK t m gap c) (dr := DS t m gap (sub (kidsOf t) c) (ssub (kidsOf t) c) dr) (d0 := dr) (q := (j : Int)) (n2 j (by omega)) n1 (by rw [hd2.ge]; exact hg0) (by rw [hd2.ge]; exact hg1) (by omega)
  rw [hd2.ge] at hml
  rw [hml]
  simp only [bind_sm]
  have h0 : (bif decide ((j : Int) = 0) then some (0 : Int) else some (mvOf gap (belP (kidsOf t) (wOf t) gap m k j) (SK t m gap c))) = some (mvOf gap (belP (kidsOf t) (wOf t) gap m k j) (SK t m gap c)) := by
    by_cases hj0 : j = 0
    · subst hj0
      have hb0 : belP (kidsOf t) (wOf t) gap m k 0 = [] := by unfold belP; simp [run]
      rw [hb0, mvOf_nil]; rfl
    · have : decide ((j : Int) = 0) = false := by simp; omega
      rw [this]; rfl
  rw [h0]
  simp only [bind_sm]
  have hks : inR (DS t m gap (sub (kidsOf t) c) (ssub (kidsOf t) c) dr).moved c := ⟨hcr.1, by rw [hd2.lm]; exact hcr.2⟩
  rw [need_of hks]
  have hmb : -10000000 ≤ mvOf gap (belP (kidsOf t) (wOf t) gap m k j) (SK t m gap c) ∧ mvOf gap (belP (kidsOf t) (wOf t) gap m k j) (SK t m gap c) ≤ 10000000 := by
    by_cases hj0 : j = 0
    · subst hj0
      have hb0 : belP (kidsOf t) (wOf t) gap m k 0 = [] := by unfold belP; simp [run]
      rw [hb0, mvOf_nil]; omega
    · have hs0 : SK t m gap c ≠ [] := by show sk (kidsOf t) (wOf t) gap m c ≠ []; rw [h.ok.fo.sk_eq (wOf t) gap h.ok.nil hi1 hc1]; simp
      obtain ⟨_, r, r1, r2, e⟩ := mvOf_spec (gap := gap) (n3 j (by omega) (by omega)) hs0
      have a1 := n2 j (by omega) _ (List.getElem_mem r1)
      have a2 := n1 _ (List.getElem_mem r2)
      rw [e]; omega
  rw [merge_loop n1 hmb.1 hmb.2 (by omega) (by omega)]
  simp only [bind_sm]
  congr 2
  refine drawer_eq (t := t) (gap := gap) (px := PX t m gap) ⟨hd2.te, hd2.ge, hd2.lx, by rw [List.length_set]; exact hd2.lm, hd2.good⟩ hdr.ds (fun v v0 v1 => ?_) (fun v v0 v1 => ?_)
  · show gx (DS t m gap (sub (kidsOf t) c) (ssub (kidsOf t) c) dr).x v = _
    rw [ds_x v0 v1, ds_x v0 v1]
  · show gx ((DS t m gap (sub (kidsOf t) c) (ssub (kidsOf t) c) dr).moved.set c.toNat _) v = _
    rw [gx_setB hks v0, ds_m (X := sub (kidsOf t) c) (Y := sub (kidsOf t) c) v0 v1]
    by_cases hvc : v = c
    · subst hvc
      rw [if_pos rfl, if_pos (sub_self _ _), ← hmv]
    · rw [if_neg hvc, ds_m v0 v1]
      have e : sub (kidsOf t) c v ↔ ssub (kidsOf t) c v := by rw [sub_iff]; simp [hvc]
      by_cases hs : ssub (kidsOf t) c v
      · rw [if_pos hs, if_pos (e.2 hs)]
      · rw [if_neg hs, if_neg (fun x => hs (e.1 x))]
end

end Go.DB
