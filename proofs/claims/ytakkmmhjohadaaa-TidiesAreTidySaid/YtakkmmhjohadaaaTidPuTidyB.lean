/-
  Drawn trees are tidy: no two nodes of a level are nearer than the gap, and equal branches are drawn equally.
-/
import Derived.Test.YtakkmmhjohadaaaTidPuTidyA
import Derived.Test.YtakkmmhjohadaaaTidPuSame
set_option linter.unusedSimpArgs false
set_option linter.unusedVariables false
namespace Go.DB
open Go Go.RowKit

section
variable {t : List Branch} {m : Nat} {gap gapy : Int}

theorem lev_lt (h : TreeOK t m) {q : Nat} {v : Int} (hv : v ∈ lev (kidsOf t) q) : q < m := by
  rcases Nat.lt_or_ge q m with h5 | h5
  · exact h5
  · have := lev_nil h.nil (q - m)
    rw [show m + (q - m) = q by omega] at this
    rw [this] at hv; cases hv

theorem sm_parts {d : Nat} {x y : Int} (h : sm t (d + 1) x y = true) : wOf t x = wOf t y ∧ (kidsOf t x).length = (kidsOf t y).length ∧ ∀ j, j < (kidsOf t x).length → sm t d (gx (kidsOf t x) (j : Int)) (gx (kidsOf t y) (j : Int)) = true := by
  simp only [sm, Bool.and_eq_true, decide_eq_true_eq, List.all_eq_true, List.mem_range] at h
  exact ⟨h.1.1.1, h.1.2, h.2⟩

/-- Equal branches have equal drawings. -/
theorem sm_sk (h : Dw t m gap) : ∀ (d i i' : Nat) (x y : Int), i + d = m → x ∈ lev (kidsOf t) i → y ∈ lev (kidsOf t) i' → sm t d x y = true →
    SK t m gap x = SK t m gap y ∧ PX t m gap x = PX t m gap y ∧ mov (kidsOf t) (wOf t) gap m x = mov (kidsOf t) (wOf t) gap m y
  | 0, _, _, x, y, _, _, _, hs => by simp [sm] at hs
  | d + 1, i, i', x, y, hi, hx, hy, hs => by
    obtain ⟨h1, h2, h3⟩ := sm_parts hs
    have hm : (kidsOf t x).map (sk (kidsOf t) (wOf t) gap m) = (kidsOf t y).map (sk (kidsOf t) (wOf t) gap m) := by
      refine List.ext_getElem (by simpa using h2) (fun j j1 j2 => ?_)
      have j1' : j < (kidsOf t x).length := by simpa using j1
      have j2' : j < (kidsOf t y).length := by simpa using j2
      have hs := h3 j j1'
      rw [gx_nat j1', gx_nat j2'] at hs
      have := sm_sk h d (i + 1) (i' + 1) _ _ (by omega) (lev_kid hx (List.getElem_mem j1')) (lev_kid hy (List.getElem_mem j2')) hs
      simpa using this.1
    have hb : bel (kidsOf t) (wOf t) gap m x = bel (kidsOf t) (wOf t) gap m y := by unfold bel; rw [hm]
    have hp : PX t m gap x = PX t m gap y := by show px (kidsOf t) (wOf t) gap m x = px (kidsOf t) (wOf t) gap m y; unfold px; rw [hb]; unfold xOf; rw [h1]
    refine ⟨?_, hp, by unfold mov; rw [hm]⟩
    have e1 : SK t m gap x = _ := h.ok.fo.sk_eq (wOf t) gap h.ok.nil (lev_lt h.ok hx) hx
    have e2 : SK t m gap y = _ := h.ok.fo.sk_eq (wOf t) gap h.ok.nil (lev_lt h.ok hy) hy
    rw [e1, e2, hb, h1]
    have hp' : px (kidsOf t) (wOf t) gap m x = px (kidsOf t) (wOf t) gap m y := hp
    rw [hp']

/-- Equal branches are drawn equally. -/
theorem sm_at (h : Dw t m gap) {d i i' : Nat} {x y : Int} (hi : i + (d + 1) = m) (hx : x ∈ lev (kidsOf t) i) (hy : y ∈ lev (kidsOf t) i') (hs : sm t (d + 1) x y = true) {j : Nat} (hj : j < (kidsOf t x).length) :
    AX t m gap (gx (kidsOf t x) (j : Int)) - AX t m gap (gx (kidsOf t y) (j : Int)) = AX t m gap x - AX t m gap y := by
  obtain ⟨h1, h2, h3⟩ := sm_parts hs
  obtain ⟨_, p1, p2⟩ := sm_sk h (d + 1) i i' x y hi hx hy hs
  have k1 : gx (kidsOf t x) (j : Int) ∈ kidsOf t x := gx_mem ⟨by omega, by omega⟩
  have k2 : gx (kidsOf t y) (j : Int) ∈ kidsOf t y := gx_mem ⟨by omega, by omega⟩
  obtain ⟨_, q1, _⟩ := sm_sk h d (i + 1) (i' + 1) _ _ (by omega) (lev_kid hx k1) (lev_kid hy k2) (h3 j hj)
  have s1 := SH_kid h (lev_lt h.ok hx) hx hj
  have s2 := SH_kid h (lev_lt h.ok hy) hy (j := j) (by omega)
  unfold AX
  rw [s1, s2, p1, p2, q1]
  omega

theorem alike_eq {p : List Point} {l : Int} (h : Drawn t m gap gapy p l) {a b : Int} (ha : ∃ i, a ∈ lev (kidsOf t) i) (hb : ∃ i, b ∈ lev (kidsOf t) i) : ∀ (d i i' : Nat) (x y : Int), i + d = m → x ∈ lev (kidsOf t) i → y ∈ lev (kidsOf t) i' → sm t d x y = true →
    AX t m gap x - AX t m gap y = AX t m gap a - AX t m gap b → ∀ n, d ≤ n → fixN law_TidiesAreTidy_1_body n (x, y, p, a, b, t) = some true
  | 0, _, _, x, y, _, _, _, hs, _, _, _ => by simp [sm] at hs
  | d + 1, i, i', x, y, hi, hx, hy, hs, he, n, hn => by
    obtain ⟨e, rfl⟩ : ∃ e, n = e + 1 := ⟨n - 1, by omega⟩
    show law_TidiesAreTidy_1_body (fixN law_TidiesAreTidy_1_body e) (x, y, p, a, b, t) = _
    obtain ⟨h1, h2, h3⟩ := sm_parts hs
    have ih : ∀ j, j < (kidsOf t x).length → fixN law_TidiesAreTidy_1_body e (gx (kidsOf t x) (j : Int), gx (kidsOf t y) (j : Int), p, a, b, t) = some true := fun j hj =>
      alike_eq h ha hb d (i + 1) (i' + 1) _ _ (by omega) (lev_kid hx (gx_mem ⟨by omega, by omega⟩)) (lev_kid hy (gx_mem ⟨by omega, by omega⟩)) (h3 j hj) (by rw [sm_at h.dw hi hx hy hs hj]; exact he) e (by omega)
    generalize fixN law_TidiesAreTidy_1_body e = slf at ih ⊢
    obtain ⟨ia, ha⟩ := ha
    obtain ⟨ib, hb⟩ := hb
    have rx := h.dw.ok.fo.lev_in hx
    have ry := h.dw.ok.fo.lev_in hy
    have ra := h.dw.ok.fo.lev_in ha
    have rb := h.dw.ok.fo.lev_in hb
    have ax := (AX_dr h.dw).2 _ _ hx
    have ay := (AX_dr h.dw).2 _ _ hy
    have aa := (AX_dr h.dw).2 _ _ ha
    have ab := (AX_dr h.dw).2 _ _ hb
    have hl := h.dw.ok.len
    have kx := h.dw.ok.kidsR' rx.1 rx.2
    unfold law_TidiesAreTidy_1_body
    simp only
    have hp := h.len
    rw [need_of ⟨rx.1, by omega⟩, need_of ⟨ra.1, by omega⟩, need_of ⟨ry.1, by omega⟩, need_of ⟨rb.1, by omega⟩, h.at_ _ _ hx, h.at_ _ _ hy, h.at_ _ _ ha, h.at_ _ _ hb]
    simp only
    rw [Wk (by omega) (by omega), Wk (by omega) (by omega)]
    have e1 : (!decide (AX t m gap x - l - (AX t m gap a - l) = AX t m gap y - l - (AX t m gap b - l))) = false := by simp; omega
    simp only [e1, cond_false]
    have qx : inR t x := ⟨rx.1, rx.2⟩
    have qy : inR t y := ⟨ry.1, ry.2⟩
    rw [need_of qx]
    have e2 : (gx t x).Kids = kidsOf t x := rfl
    simp only [e2]
    rw [rforE_alls (n := (kidsOf t x).length) (fun _ => true) (Res.ab false) (by omega) (fun j hj => by
      unfold law_TidiesAreTidy_1_L1
      simp only
      rw [need_of qx, need_of qy]
      have e3 : (gx t y).Kids = kidsOf t y := rfl
      simp only [e2, e3]
      have j1 : inR (kidsOf t x) (j : Int) := ⟨by omega, by omega⟩
      have j2 : inR (kidsOf t y) (j : Int) := ⟨by omega, by omega⟩
      rw [need_of j1, need_of j2, ih j hj]
      simp)]
    simp

theorem law_level {p : List Point} {l : Int} (h : Drawn t m gap gapy p l) (g1 : gap ≤ 1000) {q : Nat} {low : Int} (hlow : 0 ≤ low) :
    ∃ r, rforE ((lev (kidsOf t) q).length : Int) (law_TidiesAreTidy_L2 (lev (kidsOf t) q) (p, 0) t gap) (fun s => (Res.nx s : Res Int (Res Int Bool))) low = some (Res.nx r) ∧ 0 ≤ r ∧ r ≤ low ∧ ∀ v ∈ lev (kidsOf t) q, r ≤ (gx p v).X := by
  have hle := h.dw.ok.fo.lev_le q
  have hln := h.dw.ok.len
  obtain ⟨e, k1, k2⟩ := rforE_inv (n := ((lev (kidsOf t) q).length : Int)) (step := law_TidiesAreTidy_L2 (lev (kidsOf t) q) (p, 0) t gap) (fin := fun s => (Res.nx s : Res Int (Res Int Bool))) (s0 := low)
    (fun i s => 0 ≤ s ∧ s ≤ low ∧ ∀ v ∈ (lev (kidsOf t) q).take i, s ≤ (gx p v).X) (fun o => ∃ r, o = Res.nx r ∧ 0 ≤ r ∧ r ≤ low ∧ ∀ v ∈ lev (kidsOf t) q, r ≤ (gx p v).X) (by omega) ⟨hlow, Int.le_refl _, by simp⟩ (fun i s hi hI => by
    have hi' : i < (lev (kidsOf t) q).length := by omega
    have hin : inR (lev (kidsOf t) q) (i : Int) := ⟨by omega, hi⟩
    have hk := gx_mem hin
    have hkr := h.dw.ok.fo.lev_in hk
    have hkx := (AX_dr h.dw).2 q _ hk
    have hlo := h.low q _ hk
    have hp := h.len
    unfold law_TidiesAreTidy_L2
    rw [need_of hin]
    simp only [bnd_eq]
    have hte : (lev (kidsOf t) q).take (i + 1) = (lev (kidsOf t) q).take i ++ [gx (lev (kidsOf t) q) (i : Int)] := by rw [List.take_add_one, gx_nat hi', List.getElem?_eq_getElem hi']; rfl
    have hord := (AX_dr h.dw).1 q
    rw [List.pairwise_iff_getElem] at hord
    have hgi : gx (lev (kidsOf t) q) (i : Int) = (lev (kidsOf t) q)[i] := gx_nat hi'
    have hpn : inR p (gx (lev (kidsOf t) q) (i : Int)) := ⟨hkr.1, by omega⟩
    rw [need_of hpn, need_of (by rw [segR_iff]; omega)]
    have hsg : seg (lev (kidsOf t) q) 0 (i : Int) = (lev (kidsOf t) q).take i := by unfold seg; simp
    rw [hsg]
    have hlt : ((lev (kidsOf t) q).take i).length = i := by simp; omega
    rw [hlt, rforE_alls (n := i) (fun _ => true) (Res.ab (Res.ab (Res.ab (Res.ab false)))) (by omega) (fun j hj => by
      unfold law_TidiesAreTidy_L3
      have hjn : inR ((lev (kidsOf t) q).take i) (j : Int) := ⟨by omega, by omega⟩
      rw [need_of hjn]
      simp only [bnd_eq]
      have hjl : j < (lev (kidsOf t) q).length := by omega
      have hgj : gx ((lev (kidsOf t) q).take i) (j : Int) = (lev (kidsOf t) q)[j] := by rw [gx_nat (by omega)]; simp
      have hjm : (lev (kidsOf t) q)[j] ∈ lev (kidsOf t) q := List.getElem_mem hjl
      have hjr := h.dw.ok.fo.lev_in hjm
      have hjx := (AX_dr h.dw).2 q _ hjm
      have hjlo := h.low q _ hjm
      have ho := hord j i hjl hi' hj
      have hw := h.dw.ok.w hjr.1 hjr.2
      have hg0 := h.dw.g0
      rw [need_of hpn, hgj, need_of ⟨hjr.1, by omega⟩, need_of ⟨hjr.1, by omega⟩, hgi, h.at_ q _ (List.getElem_mem hi'), h.at_ q _ hjm]
      simp only
      rw [hgi] at hkx
      have hww : (gx t (lev (kidsOf t) q)[j]).W_ = wOf t (lev (kidsOf t) q)[j] := rfl
      have hlb : -2000000 ≤ l ∧ l ≤ 2000000 := by
        obtain ⟨q', v, hv, e⟩ := h.is_
        have := (AX_dr h.dw).2 q' v hv; omega
      rw [hww, Wk (n := AX t m gap (lev (kidsOf t) q)[j] - l + wOf t (lev (kidsOf t) q)[j]) (by omega) (by omega), Wk (by omega) (by omega)]
      have e1 : decide (AX t m gap (lev (kidsOf t) q)[i] - l < AX t m gap (lev (kidsOf t) q)[j] - l + wOf t (lev (kidsOf t) q)[j] + gap) = false := by simp; omega
      simp only [e1, cond_false, if_true])]
    left
    refine ⟨min s (gx p (gx (lev (kidsOf t) q) (i : Int))).X, by simp, ?_, by omega, fun v hv => ?_⟩
    · rw [h.at_ q _ hk]; simp only; omega
    · rw [hte] at hv
      rcases List.mem_append.1 hv with hv | hv
      · have := hI.2.2 v hv; omega
      · simp at hv; subst hv; omega) (fun s hI => ⟨s, rfl, hI.1, hI.2.1, by simpa using hI.2.2⟩)
  obtain ⟨r, rfl, k3⟩ := k2
  exact ⟨r, k1, k3⟩

theorem law_levels {p : List Point} {l : Int} (h : Drawn t m gap gapy p l) (g1 : gap ≤ 1000) :
    rforE (((List.range m).map (lev (kidsOf t))).length : Int) (law_TidiesAreTidy_L1 (p, 0) ((List.range m).map (lev (kidsOf t))) t gap) (fun s => (Res.nx s : Res Int Bool)) (gx p 0).X = some (Res.nx 0) := by
  have hm2 := h.dw.ok.m2
  have hln := h.dw.ok.len
  have h00 : (0 : Int) ∈ lev (kidsOf t) 0 := by simp [lev]
  obtain ⟨e, k1, k2⟩ := rforE_inv (n := (((List.range m).map (lev (kidsOf t))).length : Int)) (step := law_TidiesAreTidy_L1 (p, 0) ((List.range m).map (lev (kidsOf t))) t gap) (fin := fun s => (Res.nx s : Res Int Bool)) (s0 := (gx p 0).X)
    (fun i s => 0 ≤ s ∧ ∀ q, q < i → ∀ v ∈ lev (kidsOf t) q, s ≤ (gx p v).X) (fun o => ∃ r, o = Res.nx r ∧ 0 ≤ r ∧ ∀ q, q < m → ∀ v ∈ lev (kidsOf t) q, r ≤ (gx p v).X) (by simp; omega) ⟨by rw [h.at_ 0 0 h00]; have := h.low 0 0 h00; simp only; omega, fun q hq => by omega⟩ (fun i s hi hI => by
    have hi' : i < m := by simp at hi; omega
    have e : gx ((List.range m).map (lev (kidsOf t))) (i : Int) = lev (kidsOf t) i := by rw [gx_nat (by simpa using hi')]; simp
    unfold law_TidiesAreTidy_L1
    rw [need_of ⟨by omega, hi⟩, e]
    simp only [bnd_eq]
    obtain ⟨r, r1, r2, r3, r4⟩ := law_level h g1 (q := i) hI.1
    left
    refine ⟨r, r1, r2, fun q hq v hv => ?_⟩
    rcases Nat.lt_or_eq_of_le (Nat.lt_succ_iff.1 hq) with hq | hq
    · have := hI.2 q hq v hv; omega
    · subst hq; exact r4 v hv) (fun s hI => ⟨s, rfl, hI.1, by simpa using hI.2⟩)
  obtain ⟨r, rfl, r1, r2⟩ := k2
  rw [k1]
  obtain ⟨q, v, hv, e⟩ := h.is_
  have := r2 q (lev_lt h.dw.ok hv) v hv
  rw [h.at_ q v hv] at this
  simp only at this
  rw [show r = 0 by omega]
end

theorem TidiesAreTidy_true (t : List Branch) (gapx gapy a b : Int) (ht : fits t) : law_TidiesAreTidy t gapx gapy a b = some true := by
  unfold law_TidiesAreTidy
  rcases Tidy_eq t gapx gapy ht with ⟨e, h1, h2⟩ | ⟨m, p, l, h1, h2, g0, g1, h⟩
  · rw [h2, trees_eq]
    simp only [bind_sm]
    have e1 : (((!true) || (!decide (e = 0))) || (!decide ((([] : List Point).length : Int) = (t.length : Int)))) = true := by simp [h1]
    simp only [e1, cond_true]
    simp [h1]
  · rw [h1, trees_eq]
    simp only [bind_sm]
    have e1 : (((!true) || (!decide ((0 : Int) = 0))) || (!decide ((p.length : Int) = (t.length : Int)))) = false := by rw [h.len]; simp
    have e2 : (!decide ((p.length : Int) = (t.length : Int))) = false := by rw [h.len]; simp
    simp only [e2, decide_true, Bool.not_true, Bool.or_self, cond_false, bnd_eq]
    have hp := h.dw.ok.pos
    have hl := h.dw.ok.len
    have hpl := h.len
    rw [need_of ⟨by omega, by omega⟩]
    rw [show ref_LevelsOf t = tree_levels t from rfl, h.dw.ok.levels]
    simp only [bind_sm]
    rw [law_levels h h.dw.g1]
    simp only [bindR_nx, In_eq, decide_true, Bool.not_true, Bool.not_false, gd_true, bind_sm, Bool.false_or]
    rw [Wk (by omega) (by omega)]
    by_cases ha : 0 ≤ a ∧ a ≤ (t.length : Int) - 1
    · by_cases hb : 0 ≤ b ∧ b ≤ (t.length : Int) - 1
      · have ea : decide (0 ≤ a ∧ a ≤ (t.length : Int) - 1) = true := by simpa using ha
        have eb : decide (0 ≤ b ∧ b ≤ (t.length : Int) - 1) = true := by simpa using hb
        simp only [ea, eb, Bool.not_true, Bool.not_false, gd_true, bind_sm, Bool.or_self]
        obtain ⟨i, hi, hka⟩ := h.dw.ok.mem (j := a) ha.1 (by omega)
        obtain ⟨i', hi', hkb⟩ := h.dw.ok.mem (j := b) hb.1 (by omega)
        rw [SameOf_eq h.dw.ok hi hka hb.1 (by omega)]
        simp only [bind_sm]
        cases hs : sm t (m - i) a b with
        | false => simp
        | true =>
          simp only [Bool.not_true, Bool.or_self, cond_false]
          have : law_TidiesAreTidy_1 a b p a b t = some true := fixp_of (m - i) (alike_eq h ⟨i, hka⟩ ⟨i', hkb⟩ (m - i) i i' a b (by omega) hka hkb hs rfl)
          rw [this]; rfl
      · have ea : decide (0 ≤ a ∧ a ≤ (t.length : Int) - 1) = true := by simpa using ha
        have eb : decide (0 ≤ b ∧ b ≤ (t.length : Int) - 1) = false := by simpa using hb
        simp [ea, eb]
    · have ea : decide (0 ≤ a ∧ a ≤ (t.length : Int) - 1) = false := by simpa using ha
      simp [ea]

end Go.DB
