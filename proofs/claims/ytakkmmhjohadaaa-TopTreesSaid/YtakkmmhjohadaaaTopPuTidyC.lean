/-
  Trees are tidy: nothing overlaps, and parents are in the middle of their children.
-/
import Derived.Test.YtakkmmhjohadaaaTopPuTidyA
set_option linter.unusedSimpArgs false
set_option linter.unusedVariables false
namespace Go.DB
open Go Go.RowKit

/-- A loop that asks all. -/
theorem rforE_ask {O : Type} {n : Nat} {step : Int → Unit → Option (Res Unit O)} {fin : Unit → O} (hn : (n : Int) ≤ 9223372036854775807)
    (hs : ∀ i : Nat, i < n → step i () = some (.nx ())) : rforE (n : Int) step fin () = some (fin ()) := by
  obtain ⟨x, h1, h2⟩ := rforE_inv (n := (n : Int)) (step := step) (fin := fin) (s0 := ()) (fun i _ => True) (fun x => x = fin ()) hn trivial (fun i u hi _ => .inl ⟨(), hs i (by omega), trivial⟩) (fun u _ => rfl)
  rw [h1, h2]

section
variable {t : List Branch} {m : Nat} {gap gapy : Int}

theorem lev_ltC (h : TreeOK t m) {q : Nat} {v : Int} (hv : v ∈ lev (kidsOf t) q) : q < m := by
  rcases Nat.lt_or_ge q m with h5 | h5
  · exact h5
  · have := lev_nil h.nil (q - m)
    rw [show m + (q - m) = q by omega] at this
    rw [this] at hv; cases hv

/-- A parent is in the middle. -/
theorem middle_kids (h : Dw t m gap) {q : Nat} {k : Int} (hk : k ∈ lev (kidsOf t) q) (hne : 0 < (kidsOf t k).length) :
    ∀ (f z d : Int), f = (kidsOf t k)[0] → z = (kidsOf t k)[(kidsOf t k).length - 1] → d = AX t m gap f + (AX t m gap z + wOf t z) - 2 * AX t m gap k - wOf t k → -2 ≤ d ∧ d ≤ 2 := by
  intro f z d e3 e4 hd0
  have hq := lev_ltC h.ok hk
  obtain ⟨lo, hi, hd, hb⟩ := h.ok.fo.dr h.ok.nil h.ok.w' h.g0 h.g1 (SH_sh h) hq hk
  have hnear := (h.near hq hk).2.2 (kidsOf t k).length (by omega) (Nat.le_refl _)
  rw [← bel_eq] at hnear
  have hsk := h.ok.fo.sk_eq (wOf t) gap h.ok.nil hq hk
  rw [hsk] at hd
  cases hbl : bel (kidsOf t) (wOf t) gap m k with
  | nil => exact absurd hbl hnear
  | cons x b' =>
    rw [hbl] at hd
    have hl1 : levf (kidsOf t) [k] 1 = kidsOf t k := by rw [levf_succ]; simp [levf]
    obtain ⟨⟨n1, hn1, e1⟩, f1⟩ := hd.fr 1 (by simp)
    obtain ⟨⟨n2, hn2, e2⟩, f2⟩ := hd.to 1 (by simp)
    have hord := hd.ord 1
    rw [hl1] at hn1 f1 hn2 f2 hord
    simp only [List.getElem_cons_succ, List.getElem_cons_zero] at e1 f1 e2 f2
    have hp : px (kidsOf t) (wOf t) gap m k = (x.from_ + x.to_) / 2 - wOf t k / 2 := by unfold px; rw [hbl]; rfl
    rw [List.pairwise_iff_getElem] at hord
    have hg := h.g0
    have hf := f1 f (by rw [e3]; exact List.getElem_mem _)
    have hz := f2 z (by rw [e4]; exact List.getElem_mem _)
    have hf2 : px (kidsOf t) (wOf t) gap m f + SH t m gap f - SH t m gap k ≤ x.from_ := by
      obtain ⟨j, hj, rfl⟩ := List.mem_iff_getElem.1 hn1
      by_cases hj0 : j = 0
      · subst hj0; rw [e3]; exact Int.le_of_eq e1
      · have := hord 0 j hne hj (by omega)
        have hw := (h.ok.w' (kidsOf t k)[0]).1
        rw [e3]; omega
    have hz2 : x.to_ ≤ px (kidsOf t) (wOf t) gap m z + SH t m gap z - SH t m gap k + wOf t z := by
      obtain ⟨j, hj, rfl⟩ := List.mem_iff_getElem.1 hn2
      by_cases hj0 : j = (kidsOf t k).length - 1
      · subst hj0; rw [e4]; exact Int.le_of_eq e2.symm
      · have := hord j ((kidsOf t k).length - 1) hj (by omega) (by omega)
        have hw := (h.ok.w' (kidsOf t k)[(kidsOf t k).length - 1]).1
        rw [e4]; omega
    unfold AX PX at hd0
    rw [hp] at hd0
    omega

theorem top_level {p : List Point} {l : Int} (h : Drawn t m gap gapy p l) (g0 : 0 ≤ gapy) (g1 : gapy ≤ 1000) {q : Nat} (hq : q < m) :
    rforE ((lev (kidsOf t) q).length : Int) (top_TopTrees_L2 (lev (kidsOf t) q) (p, 0) ((List.range m).map (lev (kidsOf t)), 0) t ((q : Int), ()) gap gapy) (fun s => (Res.nx s : Res Unit (Res Unit Bool))) () = some (Res.nx ()) := by
  have hle := h.dw.ok.fo.lev_le q
  have hln := h.dw.ok.len
  have hm2 := h.dw.ok.m2
  have hp := h.len
  have hlb : -2000000 ≤ l ∧ l ≤ 2000000 := by
    obtain ⟨q', v, hv, e⟩ := h.is_
    have := (AX_dr h.dw).2 q' v hv; omega
  have hgl : ∀ r : Nat, r < m → inR ((List.range m).map (lev (kidsOf t))) (r : Int) ∧ gx ((List.range m).map (lev (kidsOf t))) (r : Int) = lev (kidsOf t) r := fun r hr => ⟨⟨by omega, by simp; omega⟩, by rw [gx_nat (by simpa using hr)]; simp⟩
  refine rforE_ask (by omega) (fun i hi => ?_)
  have hin : ∀ j : Nat, j < (lev (kidsOf t) q).length → inR (lev (kidsOf t) q) (j : Int) := fun j hj => ⟨by omega, by omega⟩
  have hat : ∀ j : Nat, (hj : j < (lev (kidsOf t) q).length) → inR p (lev (kidsOf t) q)[j] ∧ inR t (lev (kidsOf t) q)[j] ∧ gx p (lev (kidsOf t) q)[j] = ⟨AX t m gap (lev (kidsOf t) q)[j] - l, Yq t gapy q⟩ := fun j hj => by
    have hjm : (lev (kidsOf t) q)[j] ∈ lev (kidsOf t) q := List.getElem_mem hj
    have hjr := h.dw.ok.fo.lev_in hjm
    exact ⟨⟨hjr.1, by omega⟩, ⟨hjr.1, by omega⟩, h.at_ q _ hjm⟩
  have h0l : 0 < (lev (kidsOf t) q).length := by omega
  have hin0 : inR (lev (kidsOf t) q) (0 : Int) := ⟨by omega, by omega⟩
  obtain ⟨a1, a2, a3⟩ := hat i hi
  obtain ⟨b1, b2, b3⟩ := hat 0 h0l
  have hgi : gx (lev (kidsOf t) q) (i : Int) = (lev (kidsOf t) q)[i] := gx_nat hi
  have hg0 : gx (lev (kidsOf t) q) (0 : Int) = (lev (kidsOf t) q)[0] := gx_nat (i := 0) h0l
  unfold top_TopTrees_L2
  rw [need_of (hin i hi)]
  simp only [bnd_eq, hgi, hg0]
  have hax := (AX_dr h.dw).2 q _ (List.getElem_mem hi)
  -- the one ahead
  have hprev : (decide (0 < (i : Int)) = true → inR (lev (kidsOf t) q) (W ((i : Int) - 1)) ∧ inR p (gx (lev (kidsOf t) q) (W ((i : Int) - 1))) ∧ inR t (gx (lev (kidsOf t) q) (W ((i : Int) - 1)))) ∧
      ((decide (0 < (i : Int))) && (decide (((gx p (lev (kidsOf t) q)[i]).X) < (W ((W (((gx p (gx (lev (kidsOf t) q) (W ((i : Int) - 1)))).X) + ((gx t (gx (lev (kidsOf t) q) (W ((i : Int) - 1)))).W_))) + gap))))) = false := by
    by_cases hi0 : i = 0
    · subst hi0; simp
    · have hj : i - 1 < (lev (kidsOf t) q).length := by omega
      obtain ⟨c1, c2, c3⟩ := hat (i - 1) hj
      have ew : W ((i : Int) - 1) = ((i - 1 : Nat) : Int) := by rw [Wk (by omega) (by omega)]; omega
      have hgj : gx (lev (kidsOf t) q) ((i - 1 : Nat) : Int) = (lev (kidsOf t) q)[i - 1] := gx_nat hj
      rw [ew, hgj]
      refine ⟨fun _ => ⟨hin _ hj, c1, c2⟩, ?_⟩
      have hord := (AX_dr h.dw).1 q
      rw [List.pairwise_iff_getElem] at hord
      have ho := hord (i - 1) i hj hi (by omega)
      have hjx := (AX_dr h.dw).2 q _ (List.getElem_mem hj)
      have hw := h.dw.ok.w' (lev (kidsOf t) q)[i - 1]
      have hg0 := h.dw.g0
      have hg1 := h.dw.g1
      have hww : (gx t (lev (kidsOf t) q)[i - 1]).W_ = wOf t (lev (kidsOf t) q)[i - 1] := rfl
      rw [a3, c3]
      simp only
      rw [hww, Wk (n := AX t m gap (lev (kidsOf t) q)[i - 1] - l + wOf t (lev (kidsOf t) q)[i - 1]) (by omega) (by omega), Wk (by omega) (by omega)]
      simp; intro _; omega
  obtain ⟨p1, p2⟩ := hprev
  rw [need_of (fun _ => a1), need_of (fun e => (p1 e).1), need_of (fun e => (p1 e).2.1), need_of (fun e => (p1 e).1), need_of (fun e => (p1 e).2.2), p2, need_of (fun _ => a1), need_of (fun _ => hin0), need_of (fun _ => b1), a3, b3]
  simp only [decide_true, Bool.not_true, Bool.or_self, cond_false]
  -- the level above
  have hup : (decide (0 < (q : Int)) = true → inR ((List.range m).map (lev (kidsOf t))) (W ((q : Int) - 1)) ∧ inR (gx ((List.range m).map (lev (kidsOf t))) (W ((q : Int) - 1))) 0 ∧ inR p (gx (gx ((List.range m).map (lev (kidsOf t))) (W ((q : Int) - 1))) 0) ∧ inR t (gx (gx ((List.range m).map (lev (kidsOf t))) (W ((q : Int) - 1))) 0)) ∧
      ((decide (0 < (q : Int))) && (decide (Yq t gapy q < (W ((W (((gx p (gx (gx ((List.range m).map (lev (kidsOf t))) (W ((q : Int) - 1))) 0)).Y) + gapy)) + ((gx t (gx (gx ((List.range m).map (lev (kidsOf t))) (W ((q : Int) - 1))) 0)).H)))))) = false := by
    by_cases hq0 : q = 0
    · subst hq0; simp
    · obtain ⟨r, rfl⟩ : ∃ r, q = r + 1 := ⟨q - 1, by omega⟩
      have ew : W (((r + 1 : Nat) : Int) - 1) = (r : Int) := by rw [Wk (by omega) (by omega)]; omega
      obtain ⟨g1', g2⟩ := hgl r (by omega)
      rw [ew, g2]
      have hr0 : 0 < (lev (kidsOf t) r).length := List.length_pos_iff.2 (h.dw.ok.ne r (by omega))
      have hgr : gx (lev (kidsOf t) r) 0 = (lev (kidsOf t) r)[0] := gx_nat (i := 0) hr0
      have hrm : (lev (kidsOf t) r)[0] ∈ lev (kidsOf t) r := List.getElem_mem hr0
      have hrr := h.dw.ok.fo.lev_in hrm
      rw [hgr]
      refine ⟨fun _ => ⟨g1', ⟨by omega, by omega⟩, ⟨hrr.1, by omega⟩, ⟨hrr.1, by omega⟩⟩, ?_⟩
      rw [h.at_ r _ hrm]
      simp only
      have hy := Yq_bd h.dw.ok g0 g1 r
      have hh := h.dw.ok.h hrr.1 hrr.2
      have hs := (hiq_spec t (lev (kidsOf t) r) 0).2.1 _ hrm
      have ye : Yq t gapy (r + 1) = Yq t gapy r + (hiq t (lev (kidsOf t) r) + gapy) := rfl
      have hs' : (gx t (lev (kidsOf t) r)[0]).H ≤ hiq t (lev (kidsOf t) r) := hs
      rw [Wk (n := Yq t gapy r + gapy) (by omega) (by omega), Wk (by omega) (by omega), ye]
      simp; omega
  obtain ⟨u1, u2⟩ := hup
  rw [need_of (fun _ => a1), need_of (fun e => (u1 e).1), need_of (fun e => (u1 e).2.1), need_of (fun e => (u1 e).2.2.1), need_of (fun e => (u1 e).1), need_of (fun e => (u1 e).2.1), need_of (fun e => (u1 e).2.2.2), u2]
  rfl

theorem TopTrees_true (t : List Branch) (gapx gapy : Int) (ht : fits t) : top_TopTrees t gapx gapy = some true := by
  unfold top_TopTrees
  rcases Tidy_eq t gapx gapy ht with ⟨e, h1, h2⟩ | ⟨m, p, l, h1, h2, g0, g1, h⟩
  · rw [h2]
    simp [h1]
  · rw [h1]
    have hl : tree_Levels t = some ((List.range m).map (lev (kidsOf t)), 0) := by
      unfold tree_Levels
      rw [h2]
      simp only [bind_sm, decide_true, Bool.not_true, cond_false]
      rw [h.dw.ok.levels]; rfl
    rw [hl]
    have hp := h.dw.ok.pos
    have hln := h.dw.ok.len
    have hpl := h.len
    have hm2 := h.dw.ok.m2
    have e1 : decide ((p.length : Int) = (t.length : Int)) = true := by simp; omega
    have e2 : decide ((p.length : Int) = 0) = false := by simp; exact List.length_pos_iff.1 (by omega)
    simp only [bind_sm, e1, e2, decide_true, Bool.not_true, Bool.or_self, cond_false]
    have hlm : (((List.range m).map (lev (kidsOf t))).length : Int) = (m : Int) := by simp
    rw [hlm, rforE_ask (n := m) (by omega) (fun i hi => by
      unfold top_TopTrees_L1
      have e : gx ((List.range m).map (lev (kidsOf t))) (i : Int) = lev (kidsOf t) i := by rw [gx_nat (by simpa using hi)]; simp
      rw [need_of ⟨by omega, by simp; omega⟩, e]
      simp only [bnd_eq]
      exact top_level h g0 g1 hi)]
    simp only [bindR_nx]
    rw [rforE_ask (n := t.length) (by omega) (fun i hi => by
      have hin : inR t (i : Int) := ⟨by omega, by omega⟩
      obtain ⟨q, hq, hv⟩ := h.dw.ok.mem (j := (i : Int)) (by omega) (by omega)
      unfold top_TopTrees_L3
      rw [need_of hin]
      simp only [bnd_eq]
      have ek : (gx t (i : Int)).Kids = kidsOf t (i : Int) := rfl
      have ew : (gx t (i : Int)).W_ = wOf t (i : Int) := rfl
      simp only [ek, ew]
      have hkl := h.dw.ok.kidsR' (k := (i : Int)) (by omega) (by omega)
      by_cases hne : 0 < (kidsOf t (i : Int)).length
      · have e3 : decide (((kidsOf t (i : Int)).length : Int) = 0) = false := by simp; exact List.length_pos_iff.1 hne
        simp only [e3, cond_false]
        have hmid := middle_kids h.dw hv hne _ _ _ rfl rfl rfl
        have ez : W (((kidsOf t (i : Int)).length : Int) - 1) = (((kidsOf t (i : Int)).length - 1 : Nat) : Int) := by rw [Wk (by omega) (by omega)]; omega
        have hz : (kidsOf t (i : Int)).length - 1 < (kidsOf t (i : Int)).length := by omega
        have k1 : gx (kidsOf t (i : Int)) 0 = (kidsOf t (i : Int))[0] := gx_nat (i := 0) hne
        have k2 : gx (kidsOf t (i : Int)) (((kidsOf t (i : Int)).length - 1 : Nat) : Int) = (kidsOf t (i : Int))[(kidsOf t (i : Int)).length - 1] := gx_nat hz
        have m1 : (kidsOf t (i : Int))[0] ∈ kidsOf t (i : Int) := List.getElem_mem hne
        have m2 : (kidsOf t (i : Int))[(kidsOf t (i : Int)).length - 1] ∈ kidsOf t (i : Int) := List.getElem_mem hz
        have l1 := lev_kid hv m1
        have l2 := lev_kid hv m2
        have r1 := h.dw.ok.fo.lev_in l1
        have r2 := h.dw.ok.fo.lev_in l2
        have x0 := (AX_dr h.dw).2 _ _ hv
        have x1 := (AX_dr h.dw).2 _ _ l1
        have x2 := (AX_dr h.dw).2 _ _ l2
        have w1 := h.dw.ok.w' (i : Int)
        have w2 := h.dw.ok.w' (kidsOf t (i : Int))[(kidsOf t (i : Int)).length - 1]
        rw [ez, k1, k2, need_of ⟨by omega, by omega⟩, need_of ⟨by omega, by omega⟩, need_of ⟨r1.1, by omega⟩, need_of ⟨r2.1, by omega⟩, need_of ⟨r2.1, by omega⟩, need_of ⟨by omega, by omega⟩, h.at_ _ _ l1, h.at_ _ _ l2, h.at_ _ _ hv]
        simp only
        have hlb : -2000000 ≤ l ∧ l ≤ 2000000 := by
          obtain ⟨q', v, hv, e⟩ := h.is_
          have := (AX_dr h.dw).2 q' v hv; omega
        have ew2 : (gx t (kidsOf t (i : Int))[(kidsOf t (i : Int)).length - 1]).W_ = wOf t (kidsOf t (i : Int))[(kidsOf t (i : Int)).length - 1] := rfl
        rw [ew2]
        generalize AX t m gapx (kidsOf t (i : Int))[0] = A at *
        generalize AX t m gapx (kidsOf t (i : Int))[(kidsOf t (i : Int)).length - 1] = B at *
        generalize AX t m gapx (i : Int) = C at *
        generalize wOf t (kidsOf t (i : Int))[(kidsOf t (i : Int)).length - 1] = w' at *
        generalize wOf t (i : Int) = w at *
        rw [Wk (n := A - l + (B - l)) (by omega) (by omega), Wk (n := A - l + (B - l) + w') (by omega) (by omega), Wk (n := 2 * (C - l)) (by omega) (by omega), Wk (n := A - l + (B - l) + w' - 2 * (C - l)) (by omega) (by omega), Wk (by omega) (by omega)]
        have e4 : (decide (A - l + (B - l) + w' - 2 * (C - l) - w < -2) || decide (2 < A - l + (B - l) + w' - 2 * (C - l) - w)) = false := by simp; omega
        simp only [e4, cond_false]
      · have e3 : decide (((kidsOf t (i : Int)).length : Int) = 0) = true := by simp; exact List.length_eq_zero_iff.1 (by omega)
        simp only [e3, cond_true])]
    rfl
end

end Go.DB
