/-
  The document draws a tree: a branch's drawing.
-/
import Derived.Test.YtakkmmhjohadaaaTdmPuDraw2
set_option linter.unusedSimpArgs false
set_option linter.unusedVariables false
namespace Go.DB
open Go Go.RowKit

section
variable {t : List Branch} {m : Nat} {gap : Int}

theorem middle_eq (h : Dw t m gap) {q : Nat} {k : Int} (hk : k ∈ lev (kidsOf t) q) (hne : 0 < (kidsOf t k).length) :
    ∀ (f z : Int), f = (kidsOf t k)[0] → z = (kidsOf t k)[(kidsOf t k).length - 1] → PX t m gap k = (AX t m gap f - SH t m gap k + (AX t m gap z - SH t m gap k) + wOf t z) / 2 - wOf t k / 2 := by
  intro f z e3 e4
  have hq := (lev_le_m h hk).1
  obtain ⟨lo, hi, hd, hb⟩ := h.ok.fo.dr h.ok.nil h.ok.w' h.g0 h.g1 (SH_sh h) hq hk
  have hnear := (h.near hq hk).2.2 (kidsOf t k).length (by omega) (Nat.le_refl _)
  rw [← bel_eq] at hnear
  have hsk := h.ok.fo.sk_eq (wOf t) gap h.ok.nil hq hk
  rw [hsk] at hd
  cases hbl : bel (kidsOf t) (wOf t) gap m k with
  | nil => exact absurd hbl hnear
  | cons x b' =>
    rw [hbl] at hd
    have hl1 : levf (kidsOf t) [k] 1 = kidsOf t k := by rw [levf_succ]; simp [levf]
    obtain ⟨⟨n1, hn1, e1⟩, f1⟩ := hd.fr 1 (by simp)
    obtain ⟨⟨n2, hn2, e2⟩, f2⟩ := hd.to 1 (by simp)
    have hord := hd.ord 1
    rw [hl1] at hn1 f1 hn2 f2 hord
    simp only [List.getElem_cons_succ, List.getElem_cons_zero] at e1 f1 e2 f2
    have hp : px (kidsOf t) (wOf t) gap m k = (x.from_ + x.to_) / 2 - wOf t k / 2 := by unfold px; rw [hbl]; rfl
    rw [List.pairwise_iff_getElem] at hord
    have hg := h.g0
    have hf := f1 f (by rw [e3]; exact List.getElem_mem _)
    have hz := f2 z (by rw [e4]; exact List.getElem_mem _)
    have hf2 : px (kidsOf t) (wOf t) gap m f + SH t m gap f - SH t m gap k ≤ x.from_ := by
      obtain ⟨j, hj, rfl⟩ := List.mem_iff_getElem.1 hn1
      by_cases hj0 : j = 0
      · subst hj0; rw [e3]; exact Int.le_of_eq e1
      · have := hord 0 j hne hj (by omega)
        have hw := (h.ok.w' (kidsOf t k)[0]).1
        rw [e3]; omega
    have hz2 : x.to_ ≤ px (kidsOf t) (wOf t) gap m z + SH t m gap z - SH t m gap k + wOf t z := by
      obtain ⟨j, hj, rfl⟩ := List.mem_iff_getElem.1 hn2
      by_cases hj0 : j = (kidsOf t k).length - 1
      · subst hj0; rw [e4]; exact Int.le_of_eq e2.symm
      · have := hord j ((kidsOf t k).length - 1) hj (by omega) (by omega)
        have hw := (h.ok.w' (kidsOf t k)[(kidsOf t k).length - 1]).1
        rw [e4]; omega
    unfold AX PX
    have hx1 : x.from_ = px (kidsOf t) (wOf t) gap m f + SH t m gap f - SH t m gap k := by omega
    have hx2 : x.to_ = px (kidsOf t) (wOf t) gap m z + SH t m gap z - SH t m gap k + wOf t z := by omega
    rw [hp, hx1, hx2]
    congr 2
    omega

/-- All nodes of the next branch against all of the first ones. -/
theorem drawing_L2s (h : Dw t m gap) {i : Nat} {k : Int} (hi : i < m) (hk : k ∈ lev (kidsOf t) i) {j : Nat} (hj : j < (kidsOf t k).length) {x : List Branch × Int × Int} (hx : x = (t, k, gap)) {i0 : Int} {lm : GMap Int Int}
    (hlm : lm = gm (fun v => XJ t k j v ∨ v = k) (fun v => (LV (kidsOf t) v : Int) - LV (kidsOf t) k)) :
    ∃ s, mrange (DXm t m gap (gx (kidsOf t k) (j : Int))) (ref_drawing_L2 x (⟨DXm t m gap (gx (kidsOf t k) (j : Int)), DLm t (gx (kidsOf t k) (j : Int))⟩ : Ref_drawn) (i0, (gm (XJ t k j) (fun v => AX t m gap v - SH t m gap k), lm))) (0, false) = some s ∧ Mx (Sj t m gap k j) s := by
  have hc : gx (kidsOf t k) (j : Int) ∈ kidsOf t k := gx_mem ⟨by omega, by omega⟩
  have hcl := kid_lt h hk hc
  refine mrange_uni (gm_lists (n := t.length) fun u hu => by
    obtain ⟨r, _, h2, _⟩ := sub_lev h hcl.1 hu
    exact h.ok.fo.lev_in h2) _ (fun l hl => ?_) (fun s s' h1 h2 => h1.uni h2)
  obtain ⟨s', h1, h2⟩ := mfold_inv (step := ref_drawing_L2 x (⟨DXm t m gap (gx (kidsOf t k) (j : Int)), DLm t (gx (kidsOf t k) (j : Int))⟩ : Ref_drawn) (i0, (gm (XJ t k j) (fun v => AX t m gap v - SH t m gap k), lm))) (s0 := ((0 : Int), false))
    (fun p s => Mx (fun y => ∃ e ∈ p, ∃ u, XJ t k j u ∧ LV (kidsOf t) e.1 = LV (kidsOf t) u ∧ y = AX t m gap u - SH t m gap k + wOf t u + gap - (AX t m gap e.1 - SH t m gap (gx (kidsOf t k) (j : Int)))) s) (.inl ⟨rfl, by simp⟩) l (fun p e s he hI => by
      obtain ⟨e1, e2⟩ := (gm_mem hl).1 he
      obtain ⟨s', g1, g2⟩ := drawing_L3s h hi hk hj (x := x) hx (i0 := i0) hlm e1 hI
      unfold ref_drawing_L2
      have e2' : e.2 = AX t m gap e.1 - SH t m gap (gx (kidsOf t k) (j : Int)) := e2
      rw [e2']
      refine ⟨s', g1, g2.congr fun y => ?_⟩
      constructor
      · rintro (⟨e', he', h2⟩ | h1)
        · exact ⟨e', List.mem_append_left _ he', h2⟩
        · exact ⟨e, by simp, h1⟩
      · rintro ⟨e', he', h2⟩
        rcases List.mem_append.1 he' with he' | he'
        · exact .inl ⟨e', he', h2⟩
        · simp at he'; subst he'; exact .inr h2)
  refine ⟨s', h1, h2.congr fun y => ?_⟩
  constructor
  · rintro ⟨e, he, u, h4, h5, h6⟩
    obtain ⟨e1, e2⟩ := (gm_mem hl).1 he
    exact ⟨e.1, e1, u, h4, h5, h6⟩
  · rintro ⟨v, hv, u, h4, h5, h6⟩
    exact ⟨(v, AX t m gap v - SH t m gap (gx (kidsOf t k) (j : Int))), (gm_mem hl).2 ⟨hv, rfl⟩, u, h4, h5, h6⟩

theorem XJ_succ {k : Int} {j : Nat} (hj : j < (kidsOf t k).length) {v : Int} : XJ t k (j + 1) v ↔ XJ t k j v ∨ sub (kidsOf t) (gx (kidsOf t k) (j : Int)) v := by
  have e : (kidsOf t k).take (j + 1) = (kidsOf t k).take j ++ [gx (kidsOf t k) (j : Int)] := by rw [List.take_add_one, gx_nat hj, List.getElem?_eq_getElem hj]; rfl
  unfold XJ
  rw [e]
  constructor
  · rintro ⟨c, hc, hs⟩
    rcases List.mem_append.1 hc with hc | hc
    · exact .inl ⟨c, hc, hs⟩
    · simp at hc; subst hc; exact .inr hs
  · rintro (⟨c, hc, hs⟩ | hs)
    · exact ⟨c, List.mem_append_left _ hc, hs⟩
    · exact ⟨_, by simp, hs⟩

/-- The next branch is put beside the first ones. -/
theorem drawing_L4s (h : Dw t m gap) {i : Nat} {k : Int} (hi : i < m) (hk : k ∈ lev (kidsOf t) i) {j : Nat} (hj : j < (kidsOf t k).length) {s : Int × Bool} (hs : s.1 = gx (mov (kidsOf t) (wOf t) gap m k) (j : Int)) :
    mrange (DXm t m gap (gx (kidsOf t k) (j : Int))) (ref_drawing_L4 (⟨DXm t m gap (gx (kidsOf t k) (j : Int)), DLm t (gx (kidsOf t k) (j : Int))⟩ : Ref_drawn) s)
      (gm (XJ t k j) (fun v => AX t m gap v - SH t m gap k), gm (fun v => XJ t k j v ∨ v = k) (fun v => (LV (kidsOf t) v : Int) - LV (kidsOf t) k)) =
    some (gm (XJ t k (j + 1)) (fun v => AX t m gap v - SH t m gap k), gm (fun v => XJ t k (j + 1) v ∨ v = k) (fun v => (LV (kidsOf t) v : Int) - LV (kidsOf t) k)) := by
  have hc : gx (kidsOf t k) (j : Int) ∈ kidsOf t k := gx_mem ⟨by omega, by omega⟩
  have hcl := kid_lt h hk hc
  have hsk := SH_kid h hi hk hj
  have hLk := h.ok.fo.LV_eq hk
  have hLc := h.ok.fo.LV_eq hcl.1
  have b2 := SH_bd h hk
  obtain ⟨l0, hl0⟩ : ∃ l, Lists (DXm t m gap (gx (kidsOf t k) (j : Int))) l := gm_lists (n := t.length) fun u hu => by
    obtain ⟨r, _, h2, _⟩ := sub_lev h hcl.1 hu
    exact h.ok.fo.lev_in h2
  refine mrange_of hl0 fun l hl => ?_
  obtain ⟨s', h1, h2⟩ := mfold_inv (step := ref_drawing_L4 (⟨DXm t m gap (gx (kidsOf t k) (j : Int)), DLm t (gx (kidsOf t k) (j : Int))⟩ : Ref_drawn) s)
    (s0 := (gm (XJ t k j) (fun v => AX t m gap v - SH t m gap k), gm (fun v => XJ t k j v ∨ v = k) (fun v => (LV (kidsOf t) v : Int) - LV (kidsOf t) k)))
    (fun p st => st = (gm (fun v => XJ t k j v ∨ v ∈ p.map (·.1)) (fun v => AX t m gap v - SH t m gap k), gm (fun v => (XJ t k j v ∨ v = k) ∨ v ∈ p.map (·.1)) (fun v => (LV (kidsOf t) v : Int) - LV (kidsOf t) k)))
    (by simp) l (fun p e st he hI => by
      obtain ⟨e1, e2⟩ := (gm_mem hl).1 he
      have e2 : e.2 = AX t m gap e.1 - SH t m gap (gx (kidsOf t k) (j : Int)) := e2
      obtain ⟨r, a1, a2, a3⟩ := sub_lev h hcl.1 e1
      have d1 := AX_bd h a2
      have m4 := lev_le_m h a2
      have hL1 : (DLm t (gx (kidsOf t k) (j : Int))).getD e.1 0 = (LV (kidsOf t) e.1 : Int) - LV (kidsOf t) (gx (kidsOf t k) (j : Int)) := gm_getD e1
      unfold ref_drawing_L4
      subst hI
      simp only [hL1]
      rw [Wk (by omega) (by omega), Wk (by omega) (by omega), gm_set, gm_set]
      refine ⟨_, rfl, ?_⟩
      congr 1
      · refine gm_congr (fun v => by simp only [List.map_append, List.mem_append, List.map_cons, List.map_nil, List.mem_singleton]; exact or_assoc) (fun v _ => ?_)
        by_cases hv : v = e.1
        · rw [if_pos hv, hv]; omega
        · rw [if_neg hv]
      · refine gm_congr (fun v => by simp only [List.map_append, List.mem_append, List.map_cons, List.map_nil, List.mem_singleton]; exact or_assoc) (fun v _ => ?_)
        by_cases hv : v = e.1
        · rw [if_pos hv, hv]; omega
        · rw [if_neg hv])
  rw [h1, h2]
  have hmem : ∀ v, v ∈ l.map (·.1) ↔ sub (kidsOf t) (gx (kidsOf t k) (j : Int)) v := fun v => by
    constructor
    · intro hv
      obtain ⟨e, he, rfl⟩ := List.mem_map.1 hv
      exact ((gm_mem hl).1 he).1
    · intro hv
      exact List.mem_map.2 ⟨(v, AX t m gap v - SH t m gap (gx (kidsOf t k) (j : Int))), (gm_mem hl).2 ⟨hv, rfl⟩, rfl⟩
  congr 2
  · exact gm_congr (fun v => by rw [hmem, XJ_succ hj]) (fun _ _ => rfl)
  · exact gm_congr (fun v => by
      rw [hmem, XJ_succ hj]
      constructor
      · rintro ((h1 | h1) | h1)
        · exact .inl (.inl h1)
        · exact .inr h1
        · exact .inl (.inr h1)
      · rintro ((h1 | h1) | h1)
        · exact .inl (.inl h1)
        · exact .inr h1
        · exact .inl (.inr h1)) (fun _ _ => rfl)
end
end Go.DB
