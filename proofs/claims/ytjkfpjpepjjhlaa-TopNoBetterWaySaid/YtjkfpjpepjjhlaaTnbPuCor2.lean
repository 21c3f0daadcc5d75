/-
  A way gives a right path.
-/
import Derived.Test.YtjkfpjpepjjhlaaTnbPuCor1
set_option linter.unusedSimpArgs false
set_option linter.unusedVariables false
namespace Go.DB
open Go Go.RowKit

theorem gx_snocL {A : List Point} {c : Point} {i : Nat} (h : i < A.length) : gx (A ++ [c]) (i : Int) = gx A (i : Int) := by
  rw [gx_nat (by simp; omega), gx_nat h, List.getElem_append_left h]
theorem gx_snocE {A : List Point} {c : Point} : gx (A ++ [c]) (A.length : Int) = c := by
  rw [gx_nat (by simp)]; simp
theorem gx_snocL1 {A : List Point} {c : Point} {i : Nat} (h1 : 1 ≤ i) (h : i ≤ A.length) : gx (A ++ [c]) ((i : Int) - 1) = gx A ((i : Int) - 1) := by
  rw [show (i : Int) - 1 = ((i - 1 : Nat) : Int) by omega]
  exact gx_snocL (by omega)
theorem lenUpto_snoc {A : List Point} {c : Point} : ∀ i : Nat, i ≤ A.length → lenUpto (A ++ [c]) i = lenUpto A i
  | 0, _ => rfl
  | i + 1, h => by
    rw [lenUpto, lenUpto, lenUpto_snoc i (by omega)]
    by_cases e : i = 0
    · simp [e]
    · rw [if_neg e, if_neg e, gx_snocL1 (by omega) (by omega), gx_snocL (by omega)]
theorem way_leg {a b : Point} {s e : Int} (h0 : 0 < e) (h1 : b.X = a.X + e * (tow s).X) (h2 : b.Y = a.Y + e * (tow s).Y) : wayI a b = tow s ∧ farI a b = e ∧ ¬ decide (b.X = a.X) = decide (b.Y = a.Y) := by
  rw [decide_eq_decide]
  unfold wayI sg farI
  rcases tow_cases s with c | c | c | c <;> rw [c] at h1 h2 ⊢ <;> simp only at h1 h2 <;> (simp only [Point.mk.injEq]; omega)

/-- The points of a way, one behind the other. -/
structure Legs (t : Task) (A : List Point) (σ : Nat → Int) (o : Point) (s m : Int) : Prop where
  ne : 1 ≤ A.length
  first : gx A 0 = t.From
  ok : ∀ p ∈ A, okP p
  leg : ∀ i : Nat, 1 ≤ i → i < A.length → ∃ e, 0 < e ∧ (gx A (i : Int)).X = (gx A ((i : Int) - 1)).X + e * (tow (σ i)).X ∧ (gx A (i : Int)).Y = (gx A ((i : Int) - 1)).Y + e * (tow (σ i)).Y
  sd : ∀ i : Nat, 1 ≤ i → i ≤ A.length → 1 ≤ σ i ∧ σ i ≤ 4
  perp : ∀ i : Nat, 1 ≤ i → i < A.length → σ (i + 1) ≠ σ i ∧ σ (i + 1) ≠ backS (σ i)
  s1 : σ 1 = t.FromSide
  sl : σ A.length = s
  c1 : 1 < A.length → t.Clear ≤ farI (gx A 0) (gx A 1)
  marks : ∀ i : Nat, 1 ≤ i → i < A.length → (gx A (i : Int)).X ∈ XL t ∧ (gx A (i : Int)).Y ∈ YL t
  free : ∀ i : Nat, 1 ≤ i → i < A.length → blkB t (if i = 1 then startP t else gx A ((i : Int) - 1)) (gx A (i : Int)) = false
  len : lenUpto A A.length = m + (if A.length = 1 then 0 else t.Clear)
  lo : o = if A.length = 1 then startP t else gx A ((A.length : Int) - 1)

/-- From the last point on. -/
theorem Legs.from_ {t : Task} {A : List Point} {σ : Nat → Int} {o : Point} {s m : Int} (h : Legs t A σ o s m) {c : Point} {e : Int} (hx : c.X = o.X + e * (tow s).X) (hy : c.Y = o.Y + e * (tow s).Y) :
    c.X = (gx A ((A.length : Int) - 1)).X + (e + if A.length = 1 then t.Clear else 0) * (tow s).X ∧ c.Y = (gx A ((A.length : Int) - 1)).Y + (e + if A.length = 1 then t.Clear else 0) * (tow s).Y := by
  have hl := h.lo
  by_cases c1 : A.length = 1
  · rw [if_pos c1] at hl
    have hs : s = t.FromSide := by rw [← h.sl, c1, h.s1]
    rw [if_pos c1, show (A.length : Int) - 1 = 0 by omega, h.first, hx, hy, hl, hs]
    unfold startP farP
    rcases tow_cases t.FromSide with c | c | c | c <;> rw [c] <;> simp only <;> omega
  · rw [if_neg c1] at hl
    rw [if_neg c1, ← hl, Int.add_zero]
    exact ⟨hx, hy⟩

theorem legs_of {t : Task} (h : TaskOK t) {C : List Point} {o : Point} {s m : Int} (hc : Cs t C o s m) : ∃ σ, Legs t (t.From :: C) σ o s m := by
  have hcl := h.c1
  induction hc with
  | nil =>
    have hs1 := sideErr_zero.1 h.fs
    exact ⟨fun _ => t.FromSide, ⟨by simp, rfl, fun p hp => by rw [List.mem_singleton.1 hp]; exact h.from_, fun i a b => by simp at b; omega, fun i _ _ => hs1, fun i a b => by simp at b; omega, rfl, rfl, fun hh => by simp at hh, fun i a b => by simp at b; omega, fun i a b => by simp at b; omega, by simp [lenUpto], by simp⟩⟩
  | @snoc C o c s s' m e hcs hx hy he hpos hb mx my n1 n2 s1 s4 ih =>
    obtain ⟨σ, L⟩ := ih
    have hlen : (t.From :: (C ++ [c])).length = (t.From :: C).length + 1 := by simp
    have hA : t.From :: (C ++ [c]) = (t.From :: C) ++ [c] := rfl
    generalize hAe : t.From :: C = A at *
    have hC : C = [] ↔ A.length = 1 := by rw [← hAe]; cases C <;> simp
    obtain ⟨fx, fy⟩ := L.from_ hx hy
    have hpos2 : 0 < e + if A.length = 1 then t.Clear else 0 := by
      by_cases c1 : A.length = 1
      · rw [if_pos c1]; omega
      · rw [if_neg c1]; have := hpos (fun hh => c1 (hC.1 hh)); omega
    generalize hE : (e + if A.length = 1 then t.Clear else 0) = E at *
    have hw := way_leg hpos2 fx fy
    have hne := L.ne
    rw [hA]
    have hl2 : (A ++ [c]).length = A.length + 1 := by simp
    obtain ⟨τ, σe, σl⟩ : ∃ τ : Nat → Int, (∀ i : Nat, i ≤ A.length → τ i = σ i) ∧ τ (A.length + 1) = s' := ⟨fun j => if j = A.length + 1 then s' else σ j, fun i hi => if_neg (by omega), if_pos rfl⟩
    have okc : okP c := by
      obtain ⟨k, hk⟩ := List.mem_iff_getElem.1 mx
      obtain ⟨k', hk'⟩ := List.mem_iff_getElem.1 my
      obtain ⟨k, hk, ek⟩ := List.mem_iff_getElem.1 mx
      obtain ⟨k', hk', ek'⟩ := List.mem_iff_getElem.1 my
      have h1 := grid_in (at_ := xv t) (k := (k : Int)) ⟨by omega, by exact_mod_cast hk⟩
      have h2 := grid_in (at_ := yv t) (k := (k' : Int)) ⟨by omega, by exact_mod_cast hk'⟩
      change -1000000 ≤ gx (XL t) (k : Int) ∧ gx (XL t) (k : Int) ≤ 1000000 at h1
      change -1000000 ≤ gx (YL t) (k' : Int) ∧ gx (YL t) (k' : Int) ≤ 1000000 at h2
      rw [gx_nat hk] at h1
      rw [gx_nat hk'] at h2
      rw [ek] at h1
      rw [ek'] at h2
      unfold okP
      exact ⟨h1.1, h1.2, h2.1, h2.2⟩
    refine ⟨τ, ?_⟩
    refine ⟨by omega, ?_, ?_, fun i a b => ?_, fun i a b => ?_, fun i a b => ?_, ?_, ?_, fun hh => ?_, fun i a b => ?_, fun i a b => ?_, ?_, ?_⟩
    · rw [show (0 : Int) = ((0 : Nat) : Int) from rfl, gx_snocL (by omega)]; exact L.first
    · intro p hp
      rcases List.mem_append.1 hp with hp | hp
      · exact L.ok p hp
      · rw [List.mem_singleton.1 hp]; exact okc
    · rw [hl2] at b
      rw [σe i (by omega)]
      by_cases ci : i < A.length
      · rw [gx_snocL ci, gx_snocL1 a (by omega)]; exact L.leg i a ci
      · obtain rfl : i = A.length := by omega
        rw [gx_snocE, gx_snocL1 a (Nat.le_refl _), L.sl]
        exact ⟨E, hpos2, fx, fy⟩
    · rw [hl2] at b
      by_cases ci : i ≤ A.length
      · rw [σe i ci]; exact L.sd i a ci
      · rw [show i = A.length + 1 by omega, σl]; exact ⟨s1, s4⟩
    · rw [hl2] at b
      by_cases ci : i < A.length
      · rw [σe i (by omega), σe (i + 1) (by omega)]; exact L.perp i a ci
      · obtain rfl : i = A.length := by omega
        rw [σe A.length (Nat.le_refl _), L.sl, σl]
        exact ⟨n1, n2⟩
    · rw [σe 1 (by omega)]; exact L.s1
    · rw [hl2]; exact σl
    · by_cases ci : 1 < A.length
      · rw [show (0 : Int) = ((0 : Nat) : Int) from rfl, show (1 : Int) = ((1 : Nat) : Int) from rfl, gx_snocL (by omega), gx_snocL ci]; exact L.c1 ci
      · have c1 : A.length = 1 := by omega
        have e0 : gx (A ++ [c]) 0 = gx A 0 := by rw [show (0 : Int) = ((0 : Nat) : Int) from rfl, gx_snocL (by omega)]
        have e1 : gx (A ++ [c]) 1 = c := by
          have := gx_snocE (A := A) (c := c)
          rw [c1] at this; exact this
        rw [show (A.length : Int) - 1 = 0 by omega] at hw
        rw [e0, e1, hw.2.1, ← hE, if_pos c1]; omega
    · rw [hl2] at b
      by_cases ci : i < A.length
      · rw [gx_snocL ci]; exact L.marks i a ci
      · obtain rfl : i = A.length := by omega
        rw [gx_snocE]; exact ⟨mx, my⟩
    · rw [hl2] at b
      by_cases ci : i < A.length
      · rw [gx_snocL ci, gx_snocL1 a (by omega)]; exact L.free i a ci
      · obtain rfl : i = A.length := by omega
        rw [gx_snocE, gx_snocL1 a (Nat.le_refl _), ← L.lo]; exact hb
    · rw [hl2, lenUpto_next (by omega), lenUpto_snoc A.length (Nat.le_refl _), L.len, gx_snocL1 hne (Nat.le_refl _), gx_snocE, hw.2.1, if_neg (show ¬ A.length + 1 = 1 by omega), ← hE]
      split <;> omega
    · rw [hl2, if_neg (by omega), show ((A.length + 1 : Nat) : Int) - 1 = (A.length : Int) by omega, gx_snocE]

/-- The whole path is right. -/
theorem way_of {t : Task} (h : TaskOK t) {A : List Point} {σ : Nat → Int} {o : Point} {m k : Int} (L : Legs t A σ o (backS t.ToSide) m) (hx : (endP t).X = o.X + k * (tow (backS t.ToSide)).X) (hy : (endP t).Y = o.Y + k * (tow (backS t.ToSide)).Y) (hk : 0 ≤ k) (hb : blkB t o (endP t) = false) (hlen : A.length ≤ 999) :
    WayC t (A ++ [t.To]) ∧ lenUpto (A ++ [t.To]) (A ++ [t.To]).length = m + k + 2 * t.Clear := by
  have hcl := h.c1
  have hs2 := sideErr_zero.1 h.ts
  have hne := L.ne
  obtain ⟨fx, fy⟩ := L.from_ hx hy
  have hto : t.To.X = (endP t).X + t.Clear * (tow (backS t.ToSide)).X ∧ t.To.Y = (endP t).Y + t.Clear * (tow (backS t.ToSide)).Y := by
    rw [← opp_tow hs2.1 hs2.2]
    unfold endP farP oppP
    rcases tow_cases t.ToSide with c | c | c | c <;> rw [c] <;> simp only <;> omega
  have hE : ∃ E, E = k + (if A.length = 1 then t.Clear else 0) + t.Clear := ⟨_, rfl⟩
  obtain ⟨E, hE⟩ := hE
  have hE0 : 0 < E := by rw [hE]; split <;> omega
  have gX : t.To.X = (gx A ((A.length : Int) - 1)).X + E * (tow (backS t.ToSide)).X := by rw [hto.1, fx, hE, Int.add_mul _ t.Clear]; omega
  have gY : t.To.Y = (gx A ((A.length : Int) - 1)).Y + E * (tow (backS t.ToSide)).Y := by rw [hto.2, fy, hE, Int.add_mul _ t.Clear]; omega
  have hw := way_leg hE0 gX gY
  have hl2 : (A ++ [t.To]).length = A.length + 1 := by simp
  have legs : ∀ i : Nat, 1 ≤ i → i < A.length + 1 → ∃ e, 0 < e ∧ (gx (A ++ [t.To]) (i : Int)).X = (gx (A ++ [t.To]) ((i : Int) - 1)).X + e * (tow (σ i)).X ∧ (gx (A ++ [t.To]) (i : Int)).Y = (gx (A ++ [t.To]) ((i : Int) - 1)).Y + e * (tow (σ i)).Y := fun i a b => by
    by_cases ci : i < A.length
    · rw [gx_snocL ci, gx_snocL1 a (by omega)]; exact L.leg i a ci
    · obtain rfl : i = A.length := by omega
      rw [gx_snocE, gx_snocL1 a (Nat.le_refl _), L.sl]
      exact ⟨E, hE0, gX, gY⟩
  have hpath : pathErr (A ++ [t.To]) = 0 := pathErr_zero.2 ⟨ptsErr_zero.2 ⟨by rw [hl2]; omega, fun p hp => by
      rcases List.mem_append.1 hp with hp | hp
      · exact L.ok p hp
      · rw [List.mem_singleton.1 hp]; exact h.to⟩, isPath_iff.2 ⟨by rw [hl2]; omega, fun i a b => by
      obtain ⟨e, e0, ex, ey⟩ := legs i a (by rw [hl2] at b; exact b)
      exact (way_leg e0 ex ey).2.2⟩⟩
  have e0 : gx (A ++ [t.To]) 0 = gx A 0 := by rw [show (0 : Int) = ((0 : Nat) : Int) from rfl, gx_snocL (by omega)]
  have eN : gx (A ++ [t.To]) (((A ++ [t.To]).length : Int) - 1) = t.To := by
    rw [hl2, show ((A.length + 1 : Nat) : Int) - 1 = (A.length : Int) by omega]; exact gx_snocE
  have eM : gx (A ++ [t.To]) (((A ++ [t.To]).length : Int) - 2) = gx A ((A.length : Int) - 1) := by
    rw [hl2, show ((A.length + 1 : Nat) : Int) - 2 = (A.length : Int) - 1 by omega]; exact gx_snocL1 hne (Nat.le_refl _)
  obtain ⟨i0, i1, i2⟩ := inner_at (t := t) (l := A ++ [t.To]) (by rw [hl2]; omega)
  refine ⟨⟨hpath, by rw [e0]; exact L.first, eN, fun i a b hf => ?_, ?_, ?_, ?_, ?_, fun c2 => ?_, fun i a b => ?_, fun i a b => ?_⟩, ?_⟩
  · rw [hl2] at b
    obtain ⟨p1, p2⟩ := L.perp i a (by omega)
    obtain ⟨e, z0, ex, ey⟩ := legs i a (by omega)
    obtain ⟨e', z0', ex', ey'⟩ := legs (i + 1) (by omega) (by omega)
    rw [show (((i + 1 : Nat) : Int) - 1) = (i : Int) by omega, show ((i + 1 : Nat) : Int) = (i : Int) + 1 by omega] at ex' ey'
    obtain ⟨w1, _, w3⟩ := way_leg z0 ex ey
    obtain ⟨w1', _, w3'⟩ := way_leg z0' ex' ey'
    have hsi := L.sd i a (by omega)
    have hsj := L.sd (i + 1) (by omega) (by omega)
    rcases (turn_iff w3 w3').2 hf with hh | hh
    · rw [w1, w1'] at hh
      exact p1 (tow_inj hsj.1 hsj.2 hsi.1 hsi.2 hh.symm)
    · rw [w1, w1'] at hh
      have hbk := back_in hsj.1 hsj.2
      rw [opp_tow hsj.1 hsj.2] at hh
      have := tow_inj hsi.1 hsi.2 hbk.1 hbk.2 hh
      exact p2 (by rw [this, back_back hsj.1 hsj.2])
  · obtain ⟨e, z0, ex, ey⟩ := legs 1 (Nat.le_refl _) (by omega)
    rw [L.s1] at ex ey
    exact (way_leg z0 ex ey).1
  · rw [eN, eM, opp_tow hs2.1 hs2.2]; exact hw.1
  · by_cases ci : 1 < A.length
    · rw [e0, show (1 : Int) = ((1 : Nat) : Int) from rfl, gx_snocL ci]; exact L.c1 ci
    · have c1 : A.length = 1 := by omega
      have e1 : gx (A ++ [t.To]) 1 = t.To := by
        have := gx_snocE (A := A) (c := t.To)
        rw [c1] at this; exact this
      rw [show (A.length : Int) - 1 = 0 by omega] at hw
      rw [e0, e1, hw.2.1, hE, if_pos c1]; omega
  · rw [eN, eM, hw.2.1, hE]; split <;> omega
  · have c1 : A.length = 1 := by omega
    have e1 : gx (A ++ [t.To]) 1 = t.To := by
      have := gx_snocE (A := A) (c := t.To)
      rw [c1] at this; exact this
    rw [show (A.length : Int) - 1 = 0 by omega] at hw
    rw [e0, e1, hw.2.1, hE, if_pos c1]; omega
  · rw [hl2] at b
    rw [gx_snocL (by omega)]; exact L.marks i a (by omega)
  · rw [hl2] at b i1 i2
    by_cases ci : i < A.length
    · rw [i2 i a (by omega), gx_snocL ci]
      have hf := L.free i a ci
      by_cases c1 : i = 1
      · rw [if_pos c1] at hf
        rw [show (i : Int) - 1 = 0 by omega, i0]; exact hf
      · rw [if_neg c1] at hf
        rw [show (i : Int) - 1 = ((i - 1 : Nat) : Int) by omega, i2 (i - 1) (by omega) (by omega), gx_snocL (by omega), show ((i - 1 : Nat) : Int) = (i : Int) - 1 by omega]; exact hf
    · obtain rfl : i = A.length := by omega
      rw [show A.length + 1 - 1 = A.length by omega] at i1 i2
      rw [i1]
      have hlo := L.lo
      by_cases c1 : A.length = 1
      · rw [if_pos c1] at hlo
        rw [show (A.length : Int) - 1 = 0 by omega, i0, ← hlo]; exact hb
      · rw [if_neg c1] at hlo
        rw [show (A.length : Int) - 1 = ((A.length - 1 : Nat) : Int) by omega, i2 (A.length - 1) (by omega) (by omega), gx_snocL (by omega), show ((A.length - 1 : Nat) : Int) = (A.length : Int) - 1 by omega, ← hlo]; exact hb
  · rw [hl2, lenUpto_next (by omega), lenUpto_snoc A.length (Nat.le_refl _), L.len, gx_snocL1 hne (Nat.le_refl _), gx_snocE, hw.2.1, hE]
    split <;> omega
end Go.DB
