/-
  The document draws a tree: the drawing of every branch.
-/
import Derived.Test.YtakkmmhjohadaaaTdmPuDraw3
set_option linter.unusedSimpArgs false
set_option linter.unusedVariables false
namespace Go.DB
open Go Go.RowKit

section
variable {t : List Branch} {m : Nat} {gap : Int}

theorem drawing_fix (h : Dw t m gap) {i : Nat} {k : Int} (hi : i < m) (hk : k ∈ lev (kidsOf t) i) : ∀ N, m - i ≤ N →
    fixN ref_drawing_body N (t, k, gap) = some (⟨DXm t m gap k, DLm t k⟩ : Ref_drawn) := by
  refine (h.ok.fo.ind h.ok.nil (fun d k => ∀ i, i + d = m → k ∈ lev (kidsOf t) i → 1 ≤ d → ∀ N, d ≤ N →
    fixN ref_drawing_body N (t, k, gap) = some (⟨DXm t m gap k, DLm t k⟩ : Ref_drawn)) (fun d i0 k hd hk0 ih i hi hk _ N hN => ?_) (m - i) i k (by omega) hk) i (by omega) hk (by omega)
  obtain ⟨e, rfl⟩ : ∃ e, N = e + 1 := ⟨N - 1, by omega⟩
  have hkr := h.ok.fo.lev_in hk
  have him : i < m := by omega
  show ref_drawing_body (fixN ref_drawing_body e) (t, k, gap) = _
  have ih' : ∀ c ∈ kidsOf t k, fixN ref_drawing_body e (t, c, gap) = some (⟨DXm t m gap c, DLm t c⟩ : Ref_drawn) := fun c hc => by
    obtain ⟨h1, h2⟩ := kid_lt h hk hc
    exact ih c hc (i + 1) (by omega) h1 (by omega) e (by omega)
  generalize fixN ref_drawing_body e = slf at ih' ⊢
  have hkl := h.ok.kidsR' hkr.1 hkr.2
  have hw := h.ok.w hkr.1 hkr.2
  have hb := AX_bd h hk
  have hs := SH_bd h hk
  have hLk := h.ok.fo.LV_eq hk
  have hpx : AX t m gap k - SH t m gap k = PX t m gap k := by unfold AX; omega
  unfold ref_drawing_body
  simp only [bnd_eq]
  rw [need_of ⟨hkr.1, hkr.2⟩]
  have hkd : (gx t k).Kids = kidsOf t k := rfl
  rw [hkd]
  have hset : (GMap.nil : GMap Int Int).set k 0 = gm (fun v => XJ t k 0 v ∨ v = k) (fun v => (LV (kidsOf t) v : Int) - LV (kidsOf t) k) := by
    rw [gm_nil (f := fun _ => (0 : Int)), gm_set]
    refine gm_congr (fun v => by simp [XJ]) (fun v hv => ?_)
    have : v = k := by simpa using hv
    rw [if_pos this, this]; omega
  by_cases h0 : (kidsOf t k).length = 0
  · have e0 : decide (((kidsOf t k).length : Int) = 0) = true := by rw [decide_eq_true_eq]; omega
    rw [e0]
    simp only [cond_true]
    have hnil : kidsOf t k = [] := List.length_eq_zero_iff.1 h0
    have hp0 : PX t m gap k = 0 := by
      show px (kidsOf t) (wOf t) gap m k = 0
      have hbl : bel (kidsOf t) (wOf t) gap m k = [] := by unfold bel; rw [hnil]; rfl
      unfold px; rw [hbl]; rfl
    have hsub : ∀ v, sub (kidsOf t) k v ↔ v = k := fun v => by
      rw [sub_iff]
      constructor
      · rintro (h1 | ⟨c, hc, _⟩)
        · exact h1
        · rw [hnil] at hc; cases hc
      · exact .inl
    have q1 : (GMap.nil : GMap Int Int).set k 0 = DXm t m gap k := by
      rw [gm_nil (f := fun _ => (0 : Int)), gm_set]
      refine gm_congr (fun v => by rw [hsub]; simp) (fun v hv => ?_)
      have : v = k := by simpa using hv
      rw [if_pos this, this]; omega
    have q2 : (GMap.nil : GMap Int Int).set k 0 = DLm t k := by
      rw [gm_nil (f := fun _ => (0 : Int)), gm_set]
      refine gm_congr (fun v => by rw [hsub]; simp) (fun v hv => ?_)
      have : v = k := by simpa using hv
      rw [if_pos this, this]; omega
    rw [q1, ← q2, q1]
  · have e0 : decide (((kidsOf t k).length : Int) = 0) = false := by rw [decide_eq_false_iff_not]; omega
    rw [e0]
    simp only [cond_false]
    rw [need_of ⟨hkr.1, hkr.2⟩]
    obtain ⟨s, l1, l2⟩ := rfor_inv (n := ((kidsOf t k).length : Int)) (step := ref_drawing_L1 slf (t, k, gap) (kidsOf t k)) (s0 := ((GMap.nil : GMap Int Int), (GMap.nil : GMap Int Int).set k 0))
      (fun j s => s = (gm (XJ t k j) (fun v => AX t m gap v - SH t m gap k), gm (fun v => XJ t k j v ∨ v = k) (fun v => (LV (kidsOf t) v : Int) - LV (kidsOf t) k))) (by omega) (by
        rw [hset]
        congr 1
        rw [gm_nil (f := fun v => AX t m gap v - SH t m gap k)]
        exact gm_congr (fun v => by simp [XJ]) (fun _ _ => rfl)) (fun j s hj hI => by
        have hj' : j < (kidsOf t k).length := by omega
        have hc : gx (kidsOf t k) (j : Int) ∈ kidsOf t k := gx_mem ⟨by omega, by omega⟩
        subst hI
        unfold ref_drawing_L1
        rw [need_of ⟨by omega, by omega⟩]
        simp only
        rw [ih' _ hc]
        simp only [bind_sm]
        obtain ⟨s', g1, g2⟩ := drawing_L2s h him hk hj' (x := (t, k, gap)) rfl (i0 := (j : Int)) rfl
        rw [g1]
        simp only [bind_sm]
        exact ⟨_, drawing_L4s h him hk hj' (shift_eq h him hk hj' g2), rfl⟩)
    rw [l1]
    simp only [Int.toNat_natCast] at l2
    subst l2
    simp only [bind_sm]
    have hlast : W ((((kidsOf t k).length : Nat) : Int) - 1) = (((kidsOf t k).length - 1 : Nat) : Int) := by rw [Wk (by omega) (by omega)]; omega
    rw [hlast, need_of ⟨hkr.1, hkr.2⟩, need_of ⟨by omega, by omega⟩, need_of ⟨by omega, by omega⟩]
    have hf0 : gx (kidsOf t k) 0 = (kidsOf t k)[0] := by
      have := gx_nat (l := kidsOf t k) (i := 0) (by omega)
      simpa using this
    have hfl : gx (kidsOf t k) (((kidsOf t k).length - 1 : Nat) : Int) = (kidsOf t k)[(kidsOf t k).length - 1] := gx_nat (by omega)
    have hmid := middle_eq h hk (by omega) _ _ hf0 hfl
    have hc0 : gx (kidsOf t k) 0 ∈ kidsOf t k := gx_mem ⟨by omega, by omega⟩
    have hcl : gx (kidsOf t k) (((kidsOf t k).length - 1 : Nat) : Int) ∈ kidsOf t k := gx_mem ⟨by omega, by omega⟩
    generalize gx (kidsOf t k) 0 = f at *
    generalize gx (kidsOf t k) (((kidsOf t k).length - 1 : Nat) : Int) = z at *
    have hfl' := kid_lt h hk hc0
    have hzl := kid_lt h hk hcl
    have hzr := h.ok.fo.lev_in hzl.1
    have hXJ : ∀ v, XJ t k (kidsOf t k).length v ↔ ssub (kidsOf t) k v := fun v => by unfold XJ ssub; rw [List.take_length]
    have g1 : (gm (XJ t k (kidsOf t k).length) (fun v => AX t m gap v - SH t m gap k)).getD f 0 = AX t m gap f - SH t m gap k := gm_getD ((hXJ f).2 ⟨f, hc0, sub_self _ _⟩)
    have g2 : (gm (XJ t k (kidsOf t k).length) (fun v => AX t m gap v - SH t m gap k)).getD z 0 = AX t m gap z - SH t m gap k := gm_getD ((hXJ z).2 ⟨z, hcl, sub_self _ _⟩)
    have b1 := AX_bd h hfl'.1
    have b2 := AX_bd h hzl.1
    have hwz := h.ok.w hzr.1 hzr.2
    have hwz' : (gx t z).W_ = wOf t z := rfl
    have hwk' : (gx t k).W_ = wOf t k := rfl
    rw [need_of ⟨hzr.1, hzr.2⟩]
    simp only [g1, g2, hwz', hwk']
    rw [Wk (n := AX t m gap f - SH t m gap k + (AX t m gap z - SH t m gap k)) (by omega) (by omega), Wk (n := AX t m gap f - SH t m gap k + (AX t m gap z - SH t m gap k) + wOf t z) (by omega) (by omega), Down_eq (by omega) (by omega) (by omega) (by omega)]
    simp only [bind_sm]
    rw [need_of ⟨hkr.1, hkr.2⟩, Down_eq (by omega) (by omega) (by omega) (by omega)]
    simp only [bind_sm]
    rw [← hmid, Wk (by omega) (by omega), gm_set]
    congr 2
    · refine gm_congr (fun v => by rw [hXJ, sub_iff]; exact or_comm) (fun v _ => ?_)
      by_cases hv : v = k
      · rw [if_pos hv, hv]; omega
      · rw [if_neg hv]
    · exact gm_congr (fun v => by rw [hXJ, sub_iff]; exact or_comm) (fun _ _ => rfl)

theorem drawing_root (h : Dw t m gap) : ref_drawing t 0 gap = some (⟨gm (fun v => ∃ q, v ∈ lev (kidsOf t) q) (AX t m gap), DLm t 0⟩ : Ref_drawn) := by
  have h0 : (0 : Int) ∈ lev (kidsOf t) 0 := by simp [lev]
  have := fixp_of (m - 0) (drawing_fix h (i := 0) (by have := h.ok.m1; omega) h0)
  unfold ref_drawing
  rw [this]
  congr 2
  refine gm_congr (fun v => ?_) (fun v _ => by rw [SH_root]; omega)
  have he : ∀ q, levf (kidsOf t) [0] q = lev (kidsOf t) q := fun q => by
    have := levf_lev (kidsOf t) 0 q
    simpa [lev] using this
  unfold sub
  simp only [he]
end
end Go.DB
