/-
  The code draws a tree: draw at any node, and at the root.
-/
import Derived.Test.YtakkmmhjohadaaaTdmPuTidy6
set_option linter.unusedSimpArgs false
set_option linter.unusedVariables false
namespace Go.DB
open Go Go.RowKit

section
variable {t : List Branch} {m : Nat} {gap : Int}

theorem px_bd (h : Dw t m gap) {i : Nat} {k : Int} (hi : i < m) (hk : k ∈ lev (kidsOf t) i) : -2000000 ≤ PX t m gap k ∧ PX t m gap k ≤ 2000000 := by
  have h1 := (h.near hi hk).1
  have h2 : SK t m gap k = _ := h.ok.fo.sk_eq (wOf t) gap h.ok.nil hi hk
  have := h1 ⟨PX t m gap k, PX t m gap k + wOf t k⟩ (by rw [h2]; simp)
  exact ⟨this.1, this.2.1⟩

theorem draw_fix (h : Dw t m gap) {i : Nat} {k : Int} (hi : i < m) (hk : k ∈ lev (kidsOf t) i) : ∀ dr, DOK t gap (PX t m gap) dr → ∀ N, m - i ≤ N →
    fixN tree_drawer_draw_body N (dr, k) = some (SK t m gap k, DS t m gap (sub (kidsOf t) k) (ssub (kidsOf t) k) dr) := by
  refine (h.ok.fo.ind h.ok.nil (fun d k => ∀ i, i + d = m → k ∈ lev (kidsOf t) i → 1 ≤ d → ∀ dr, DOK t gap (PX t m gap) dr → ∀ N, d ≤ N →
    fixN tree_drawer_draw_body N (dr, k) = some (SK t m gap k, DS t m gap (sub (kidsOf t) k) (ssub (kidsOf t) k) dr)) (fun d i0 k hd hk0 ih i hi hk _ dr hdr N hN => ?_) (m - i) i k (by omega) hk) i (by omega) hk (by omega)
  obtain ⟨e, rfl⟩ : ∃ e, N = e + 1 := ⟨N - 1, by omega⟩
  have hkr := h.ok.fo.lev_in hk
  have him : i < m := by omega
  show tree_drawer_draw_body (fixN tree_drawer_draw_body e) (dr, k) = _
  have ih' : ∀ c ∈ kidsOf t k, ∀ dr, DOK t gap (PX t m gap) dr → fixN tree_drawer_draw_body e (dr, c) = some (SK t m gap c, DS t m gap (sub (kidsOf t) c) (ssub (kidsOf t) c) dr) := fun c hc dr hdr => by
    have h1 := lev_kid hk hc
    have hi1 : i + 1 < m := by
      rcases Nat.lt_or_ge (i + 1) m with h5 | h5
      · exact h5
      · rw [show i + 1 = m by omega, h.ok.nil] at h1; cases h1
    exact ih c hc (i + 1) (by omega) h1 (by omega) dr hdr e (by omega)
  generalize fixN tree_drawer_draw_body e = slf at ih' ⊢
  have hkl := h.ok.kidsR' hkr.1 hkr.2
  have hw := h.ok.w hkr.1 hkr.2
  have hpb := px_bd h him hk
  unfold tree_drawer_draw_body
  simp only [hdr.te]
  rw [need_of ⟨hkr.1, hkr.2⟩]
  simp only [bnd_eq]
  have eta : ({ dr with x := dr.x, moved := dr.moved } : Tree_drawer) = dr := rfl
  have hte : dr.t = t := hdr.te
  obtain ⟨s, l1, l2⟩ := rfor_inv (n := ((kidsOf t k).length : Int)) (step := tree_drawer_draw_L1 slf (dr, k) (gx t k)) (s0 := (([] : List Tree_stretch), dr)) (fun j s => s = (belP (kidsOf t) (wOf t) gap m k j, DS t m gap (fun v => ∃ c ∈ (kidsOf t k).take j, sub (kidsOf t) c v) (fun v => ∃ c ∈ (kidsOf t k).take j, sub (kidsOf t) c v) dr)) (by omega) (by
    have hb0 : belP (kidsOf t) (wOf t) gap m k 0 = [] := by unfold belP; simp [run]
    rw [hb0]
    congr 1
    rw [← ds_none (mv := MV t m gap) hdr]
    unfold DS
    rw [ds_none hdr]
    conv => lhs; rw [← ds_none (mv := MV t m gap) hdr]
    exact ds_congr (fun v => by simp) (fun v => by simp)) (fun j s hj hI => by
    have hj' : j < (kidsOf t k).length := by omega
    subst hI
    have hd := draw_kid h him hk (slf := slf) (x := (dr, k)) (v1 := gx t k) rfl ih' hj' (dr := DS t m gap (fun v => ∃ c ∈ (kidsOf t k).take j, sub (kidsOf t) c v) (fun v => ∃ c ∈ (kidsOf t k).take j, sub (kidsOf t) c v) dr) hdr.ds
    refine ⟨_, hd, ?_⟩
    congr 1
    unfold DS
    rw [ds_ds hdr]
    have hte : (kidsOf t k).take (j + 1) = (kidsOf t k).take j ++ [gx (kidsOf t k) (j : Int)] := by rw [List.take_add_one, gx_nat hj', List.getElem?_eq_getElem hj']; rfl
    have hx : ∀ v, ((∃ c ∈ (kidsOf t k).take j, sub (kidsOf t) c v) ∨ sub (kidsOf t) (gx (kidsOf t k) (j : Int)) v) ↔ ∃ c ∈ (kidsOf t k).take (j + 1), sub (kidsOf t) c v := fun v => by
      rw [hte]
      constructor
      · rintro (⟨c, hc, hv⟩ | hv)
        · exact ⟨c, List.mem_append_left _ hc, hv⟩
        · exact ⟨_, List.mem_append_right _ (by simp), hv⟩
      · rintro ⟨c, hc, hv⟩
        rcases List.mem_append.1 hc with hc | hc
        · exact .inl ⟨c, hc, hv⟩
        · simp at hc; subst hc; exact .inr hv
    exact ds_congr hx hx)
  have e0 : (gx t k).Kids = kidsOf t k := rfl
  have etaD : (⟨t, dr.gap, dr.x, dr.moved⟩ : Tree_drawer) = dr := by rw [← hte]
  simp only [e0] at *
  have l1' : rfor ((kidsOf t k).length : Int) (tree_drawer_draw_L1 slf (dr, k) (gx t k)) (([] : List Tree_stretch), (⟨t, dr.gap, dr.x, dr.moved⟩ : Tree_drawer)) = some s := by rw [etaD]; exact l1
  rw [l1', bind_sm]
  simp only [Int.toNat_natCast, List.take_length] at l2
  rw [← bel_eq] at l2
  subst l2
  have hss : ∀ v, (∃ c ∈ kidsOf t k, sub (kidsOf t) c v) ↔ ssub (kidsOf t) k v := fun v => Iff.rfl
  have hD : DOK t gap (PX t m gap) (DS t m gap (ssub (kidsOf t) k) (ssub (kidsOf t) k) dr) := hdr.ds
  have hDS : DS t m gap (fun v => ∃ c ∈ kidsOf t k, sub (kidsOf t) c v) (fun v => ∃ c ∈ kidsOf t k, sub (kidsOf t) c v) dr = DS t m gap (ssub (kidsOf t) k) (ssub (kidsOf t) k) dr := rfl
  rw [hDS]
  simp only
  have hkn : ¬ ssub (kidsOf t) k k := by
    rintro ⟨c, hc, r, hv⟩
    have h1 := levf_in (lev_kid hk hc) r k hv
    have := h.ok.fo.lev_one hk h1
    omega
  have hsk : SK t m gap k = _ := h.ok.fo.sk_eq (wOf t) gap h.ok.nil him hk
  rw [hsk]
  -- where the node itself is put
  have hx : ∃ xs, (bif decide (0 < ((kidsOf t k).length : Int)) then (
      need (inR (bel (kidsOf t) (wOf t) gap m k) 0) <|
      need (inR (bel (kidsOf t) (wOf t) gap m k) 0) <|
      Option.bind (tree_floor (W (((gx (bel (kidsOf t) (wOf t) gap m k) 0).from_) + ((gx (bel (kidsOf t) (wOf t) gap m k) 0).to_))) 2) fun r1 =>
      need (inR (DS t m gap (ssub (kidsOf t) k) (ssub (kidsOf t) k) dr).x k) <|
      some ((DS t m gap (ssub (kidsOf t) k) (ssub (kidsOf t) k) dr).x.set k.toNat (W (r1 - ((gx t k).W_.tdiv 2)))))
    else (
      some (DS t m gap (ssub (kidsOf t) k) (ssub (kidsOf t) k) dr).x)) = some xs ∧ xs.length = t.length ∧ gx xs k = PX t m gap k ∧ ∀ v : Int, 0 ≤ v → v < t.length → v ≠ k → gx xs v = gx (DS t m gap (ssub (kidsOf t) k) (ssub (kidsOf t) k) dr).x v := by
    by_cases hc : 0 < (kidsOf t k).length
    · have e1 : decide (0 < ((kidsOf t k).length : Int)) = true := by simp; omega
      have hne := (h.near him hk).2.2 (kidsOf t k).length (by omega) (Nat.le_refl _)
      have hnr := (h.near him hk).2.1 (kidsOf t k).length (Nat.le_refl _)
      rw [← bel_eq] at hne hnr
      simp only [e1, cond_true]
      cases hb : bel (kidsOf t) (wOf t) gap m k with
      | nil => exact absurd hb hne
      | cons b0 b' =>
        rw [hb] at hnr
        have hn0 := hnr b0 (by simp)
        have hin : inR (b0 :: b') (0 : Int) := ⟨by omega, by simp⟩
        have hg : gx (b0 :: b') 0 = b0 := rfl
        have hks : inR (DS t m gap (ssub (kidsOf t) k) (ssub (kidsOf t) k) dr).x k := ⟨hkr.1, by rw [hD.lx]; exact hkr.2⟩
        have hp : PX t m gap k = (b0.from_ + b0.to_) / 2 - wOf t k / 2 := by show px (kidsOf t) (wOf t) gap m k = _; unfold px; rw [hb]; rfl
        have hwd : (gx t k).W_.tdiv 2 = wOf t k / 2 := Int.tdiv_eq_ediv_of_nonneg (Int.le_trans (by decide) hw.1)
        rw [need_of hin, need_of hin, hg, Wk (n := b0.from_ + b0.to_) (by omega) (by omega), floor2_eq (by omega) (by omega), bind_sm, need_of hks, hwd, Wk (by omega) (by omega)]
        refine ⟨_, rfl, by rw [List.length_set]; exact hD.lx, ?_, fun v v0 v1 hv => ?_⟩
        · rw [gx_setB hks hkr.1, if_pos rfl, hp]
        · rw [gx_setB hks v0, if_neg hv]
    · have e1 : decide (0 < ((kidsOf t k).length : Int)) = false := by simp; exact List.length_eq_zero_iff.1 (by omega)
      have hkd : kidsOf t k = [] := List.length_eq_zero_iff.1 (by omega)
      have hb : bel (kidsOf t) (wOf t) gap m k = [] := by unfold bel; rw [hkd]; rfl
      have hp : PX t m gap k = 0 := by show px (kidsOf t) (wOf t) gap m k = _; unfold px; rw [hb]; rfl
      simp only [e1, cond_false]
      refine ⟨_, rfl, hD.lx, ?_, fun v v0 v1 hv => rfl⟩
      have := hD.good k hkr.1 hkr.2
      rw [hp] at this ⊢
      omega
  obtain ⟨xs, x1, x2, x3, x4⟩ := hx
  rw [x1, bind_sm]
  have hks : inR xs k := ⟨hkr.1, by rw [x2]; exact hkr.2⟩
  have hbl := (h.ok.fo.sk_len h.ok.nil (wOf t) gap him hk).2 (kidsOf t k).length (Nat.le_refl _)
  rw [← bel_eq] at hbl
  have hm2 := h.ok.m2
  have hln := h.ok.len
  rw [need_of hks, need_of hks, need_of (by rw [room_iff]; simp; omega), x3]
  have hww : (gx t k).W_ = wOf t k := rfl
  rw [hww, Wk (n := PX t m gap k + wOf t k) (by omega) (by omega)]
  have key : ({ (DS t m gap (ssub (kidsOf t) k) (ssub (kidsOf t) k) dr) with x := xs, moved := (DS t m gap (ssub (kidsOf t) k) (ssub (kidsOf t) k) dr).moved } : Tree_drawer) = DS t m gap (sub (kidsOf t) k) (ssub (kidsOf t) k) dr := by
    have hgood : ∀ v : Int, 0 ≤ v → v < t.length → gx xs v = gx (DS t m gap (sub (kidsOf t) k) (ssub (kidsOf t) k) dr).x v := fun v v0 v1 => by
      rw [ds_x v0 v1]
      by_cases hv : v = k
      · subst hv; rw [if_pos (sub_self _ _), x3]
      · rw [x4 v v0 v1 hv, ds_x v0 v1]
        have e : sub (kidsOf t) k v ↔ ssub (kidsOf t) k v := by rw [sub_iff]; simp [hv]
        by_cases hs : ssub (kidsOf t) k v
        · rw [if_pos hs, if_pos (e.2 hs)]
        · rw [if_neg hs, if_neg (fun x => hs (e.1 x))]
    have hd2 : DOK t gap (PX t m gap) (DS t m gap (sub (kidsOf t) k) (ssub (kidsOf t) k) dr) := hdr.ds
    exact drawer_eq (t := t) (gap := gap) (px := PX t m gap) ⟨hD.te, hD.ge, x2, hD.lm, fun v v0 v1 => by show gx xs v = 0 ∨ gx xs v = _; rw [hgood v v0 v1]; exact hd2.good v v0 v1⟩ hd2 hgood (fun v v0 v1 => rfl)
  rw [key]
  rfl
end

end Go.DB
