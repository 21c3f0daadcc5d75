/-
  A right path gives a way on the lines of its task.
-/
import Derived.Test.YtjkfpjpepjjhlaaTnbPuRch1
import Derived.Test.YtjkfpjpepjjhlaaTnbPuWayC
set_option linter.unusedSimpArgs false
set_option linter.unusedVariables false
namespace Go.DB
open Go Go.RowKit

theorem tow_inj {a b : Int} (a1 : 1 ≤ a) (a4 : a ≤ 4) (b1 : 1 ≤ b) (b4 : b ≤ 4) (h : tow a = tow b) : a = b := by
  have ha : a = 1 ∨ a = 2 ∨ a = 3 ∨ a = 4 := by omega
  have hb : b = 1 ∨ b = 2 ∨ b = 3 ∨ b = 4 := by omega
  rcases ha with rfl | rfl | rfl | rfl <;> rcases hb with rfl | rfl | rfl | rfl <;> first | rfl | (simp [tow] at h)
theorem opp_tow {s : Int} (h1 : 1 ≤ s) (h4 : s ≤ 4) : oppP (tow s) = tow (backS s) := by
  have hs : s = 1 ∨ s = 2 ∨ s = 3 ∨ s = 4 := by omega
  rcases hs with rfl | rfl | rfl | rfl <;> rfl
theorem back_in {s : Int} (h1 : 1 ≤ s) (h4 : s ≤ 4) : 1 ≤ backS s ∧ backS s ≤ 4 := by unfold backS; omega
theorem back_back {s : Int} (h1 : 1 ≤ s) (h4 : s ≤ 4) : backS (backS s) = s := by unfold backS; omega

/-- The ends of a task on its lines. -/
structure EndsN (t : Task) (fr to : Route_spot) : Prop where
  fs : fr.side = t.FromSide
  ts : to.side = backS t.ToSide
  fo : OnN t fr
  eo : OnN t to
  fp : ptS t fr = startP t
  ep : ptS t to = endP t

/-- Which way a stretch goes. -/
theorem side_of {l : List Point} (h : pathErr l = 0) {i : Nat} (h1 : 1 ≤ i) (h2 : i < l.length) : ∃ s : Int, 1 ≤ s ∧ s ≤ 4 ∧ wayI (gx l ((i : Int) - 1)) (gx l (i : Int)) = tow s ∧
    (gx l (i : Int)).X = (gx l ((i : Int) - 1)).X + farI (gx l ((i : Int) - 1)) (gx l (i : Int)) * (tow s).X ∧ (gx l (i : Int)).Y = (gx l ((i : Int) - 1)).Y + farI (gx l ((i : Int) - 1)) (gx l (i : Int)) * (tow s).Y := by
  obtain ⟨s, hs, h3⟩ := stretch_way h h1 h2
  rcases h3 with ⟨e1, e2, e3⟩ | ⟨e1, e2, e3⟩ <;> rcases hs with rfl | rfl
  · exact ⟨3, by omega, by omega, e1, by simp [tow]; exact e2, by simp [tow]; omega⟩
  · exact ⟨1, by omega, by omega, e1, by simp [tow]; exact e2, by simp [tow]; omega⟩
  · exact ⟨2, by omega, by omega, e1, by simp [tow]; omega, by simp [tow]; exact e2⟩
  · exact ⟨4, by omega, by omega, e1, by simp [tow]; omega, by simp [tow]; exact e2⟩
theorem inner_at {t : Task} {l : List Point} (hn : 2 ≤ l.length) : gx (inner t l) 0 = startP t ∧ gx (inner t l) ((l.length - 1 : Nat) : Int) = endP t ∧ ∀ i : Nat, 1 ≤ i → i < l.length - 1 → gx (inner t l) (i : Int) = gx l (i : Int) := by
  unfold inner
  refine ⟨?_, ?_, fun i h1 h2 => ?_⟩
  · rw [show (0 : Int) = ((0 : Nat) : Int) from rfl, gx_setH (by simp; omega), if_neg (by omega), gx_setH (by omega), if_pos rfl]
  · rw [gx_setH (by simp; omega), if_pos rfl]
  · rw [gx_setH (by simp; omega), if_neg (by omega), gx_setH (by omega), if_neg (by omega)]
/-- At a bend it goes across. -/
theorem turn_at {l : List Point} (h : pathErr l = 0) {i : Nat} (h1 : 1 ≤ i) (h2 : i + 1 < l.length) (hf : ¬ flagAt l i) {s s' : Int} (a1 : 1 ≤ s) (a4 : s ≤ 4) (b1 : 1 ≤ s') (b4 : s' ≤ 4)
    (e : wayI (gx l ((i : Int) - 1)) (gx l (i : Int)) = tow s) (e' : wayI (gx l (i : Int)) (gx l ((i : Int) + 1)) = tow s') : s' ≠ s ∧ s' ≠ backS s := by
  have hb := (isPath_iff.1 (pathErr_zero.1 h).2).2
  have g1 := hb i h1 (by omega)
  have g2 := hb (i + 1) (by omega) h2
  unfold badAt at g1 g2
  rw [show (((i + 1 : Nat) : Int) - 1) = (i : Int) by omega, show ((i + 1 : Nat) : Int) = (i : Int) + 1 by omega] at g2
  have ht := turn_iff g1 g2
  unfold flagAt at hf
  refine ⟨fun hs => hf (ht.1 (.inl (by rw [e, e', hs]))), fun hs => hf (ht.1 (.inr ?_))⟩
  rw [e, e', hs, opp_tow (back_in a1 a4).1 (back_in a1 a4).2, back_back a1 a4]
theorem spot_of {t : Task} {p : Point} (hx : p.X ∈ XL t) (hy : p.Y ∈ YL t) (s : Int) : ∃ q : Route_spot, OnN t q ∧ ptS t q = p ∧ q.side = s := by
  obtain ⟨a, ha, ea⟩ := List.mem_iff_getElem.1 hx
  obtain ⟨b, hb, eb⟩ := List.mem_iff_getElem.1 hy
  refine ⟨⟨(a : Int), (b : Int), s⟩, ⟨by simp, by simp only; omega, by simp, by simp only; omega⟩, ?_, rfl⟩
  unfold ptS
  simp only
  rw [gx_nat ha, gx_nat hb, ea, eb]

theorem path_marks {t : Task} {l : List Point} {fr to : Route_spot} (h : TaskOK t) (hw : WayC t l) (hE : EndsN t fr to) : ∀ i : Nat, 1 ≤ i → i < l.length - 1 → ∃ p : Route_spot, OnN t p ∧ ptS t p = gx l (i : Int) ∧ 1 ≤ p.side ∧ p.side ≤ 4 ∧ wayI (gx l ((i : Int) - 1)) (gx l (i : Int)) = tow p.side ∧
    Rch (nxT t) fr to p ((i : Int) - 1) (lenUpto l (i + 1) - t.Clear)
  | 0, h1, _ => by omega
  | 1, _, h2 => by
    have hs1 := sideErr_zero.1 h.fs
    obtain ⟨s, s1, s4, e1, e2, e3⟩ := side_of hw.path (i := 1) (Nat.le_refl _) (by omega)
    rw [show (((1 : Nat) : Int) - 1) = 0 from rfl, show ((1 : Nat) : Int) = 1 from rfl] at *
    obtain rfl : s = t.FromSide := tow_inj s1 s4 hs1.1 hs1.2 (e1.symm.trans hw.out)
    obtain ⟨m1, m2⟩ := hw.marks 1 (Nat.le_refl _) h2
    obtain ⟨q, q1, q2, q3⟩ := spot_of m1 m2 t.FromSide
    obtain ⟨i0, _, i2⟩ := inner_at (t := t) (l := l) (by omega)
    have hc := hw.c1
    have hx : (ptS t q).X = (ptS t fr).X + (farI (gx l 0) (gx l 1) - t.Clear) * (tow t.FromSide).X := by
      rw [q2, hE.fp]; unfold startP farP
      rw [show ((1 : Nat) : Int) = 1 from rfl, e2, hw.first]
      rcases tow_cases t.FromSide with c | c | c | c <;> rw [c] <;> simp only <;> omega
    have hy : (ptS t q).Y = (ptS t fr).Y + (farI (gx l 0) (gx l 1) - t.Clear) * (tow t.FromSide).Y := by
      rw [q2, hE.fp]; unfold startP farP
      rw [show ((1 : Nat) : Int) = 1 from rfl, e3, hw.first]
      rcases tow_cases t.FromSide with c | c | c | c <;> rw [c] <;> simp only <;> omega
    have hl : lenUpto l (1 + 1) = farI (gx l 0) (gx l 1) := by
      rw [lenUpto_next (Nat.le_refl _)]
      simp [lenUpto]
    refine ⟨q, q1, q2, by omega, by omega, by rw [q3]; exact e1, ?_⟩
    rw [hl]
    by_cases c : farI (gx l 0) (gx l 1) - t.Clear = 0
    · obtain ⟨k, k1, k2⟩ := idx_of hE.fo q1 (by omega) hx hy q3
      have : k = 0 := k2.2 c
      subst this
      have hq : q = fr := by
        rw [k1]; unfold tgt
        have := hE.fs
        cases fr
        simp only at this
        simp [this]
      rw [hq, c]
      exact .inl ⟨_, .one⟩
    · have hf := hw.free 1 (Nat.le_refl _) (by omega)
      rw [show (((1 : Nat) : Int) - 1) = 0 from rfl, i0, i2 1 (Nat.le_refl _) h2] at hf
      have := Rch.line (t := t) (fr := fr) (to := to) (p := fr) (q := q) (b := 0) (n := 0) (s := t.FromSide) (e := farI (gx l 0) (gx l 1) - t.Clear) hs1.1 hs1.2 (by rw [hE.fs]; exact back_ne hs1.1 hs1.2) hE.fo q1 (by omega) hx hy q3 (by rw [hE.fp, q2]; exact hf) (.inl ⟨_, .one⟩)
      rw [if_pos hE.fs.symm, Int.zero_add, Int.zero_add] at this
      exact this
  | i + 2, _, h2 => by
    obtain ⟨p, p1, p2, p3, p4, p5, p6⟩ := path_marks h hw hE (i + 1) (by omega) (by omega)
    obtain ⟨s, s1, s4, e1, e2, e3⟩ := side_of hw.path (i := i + 2) (by omega) (by omega)
    have hpos := far_pos hw.path (i := i + 2) (by omega) (by omega)
    obtain ⟨m1, m2⟩ := hw.marks (i + 2) (by omega) h2
    obtain ⟨q, q1, q2, q3⟩ := spot_of m1 m2 s
    obtain ⟨_, _, i2⟩ := inner_at (t := t) (l := l) (by omega)
    have ei : ((i + 2 : Nat) : Int) - 1 = ((i + 1 : Nat) : Int) := by omega
    rw [ei] at e1 e2 e3 hpos
    have ht := turn_at hw.path (i := i + 1) (by omega) (by omega) (hw.turns (i + 1) (by omega) (by omega)) p3 p4 s1 s4 p5 (by rw [show ((i + 1 : Nat) : Int) + 1 = ((i + 2 : Nat) : Int) by omega]; exact e1)
    have hf := hw.free (i + 2) (by omega) (by omega)
    rw [ei, i2 (i + 1) (by omega) (by omega), i2 (i + 2) (by omega) h2] at hf
    refine ⟨q, q1, q2, by omega, by omega, by rw [q3, ei]; exact e1, ?_⟩
    have := Rch.line (t := t) (q := q) (s := s) (e := farI (gx l ((i + 1 : Nat) : Int)) (gx l ((i + 2 : Nat) : Int))) s1 s4 ht.2 p1 q1 (by omega) (by rw [q2, p2]; exact e2) (by rw [q2, p2]; exact e3) q3 (by rw [p2, q2]; exact hf) p6
    rw [if_neg ht.1] at this
    rw [lenUpto_next (show 1 ≤ i + 2 by omega), ei]
    rw [show ((i + 1 : Nat) : Int) - 1 + 1 = ((i + 1 : Nat) : Int) by omega] at this
    rw [show lenUpto l (i + 2) + farI (gx l ((i + 1 : Nat) : Int)) (gx l ((i + 2 : Nat) : Int)) - t.Clear = lenUpto l (i + 1 + 1) - t.Clear + farI (gx l ((i + 1 : Nat) : Int)) (gx l ((i + 2 : Nat) : Int)) by
      show lenUpto l (i + 2) + _ - _ = lenUpto l (i + 2) - _ + _
      omega]
    exact this

/-- The end is reached for what the path has, or for less. -/
theorem path_rch {t : Task} {l : List Point} {fr to : Route_spot} (h : TaskOK t) (hw : WayC t l) (hE : EndsN t fr to) : ∃ w b n, Tr (nxT t) fr to w to b n ∧ (b < (l.length : Int) - 2 ∨ (b = (l.length : Int) - 2 ∧ n ≤ lenUpto l l.length - 2 * t.Clear)) := by
  refine Rch.to ?_
  obtain ⟨hn, hbad⟩ := isPath_iff.1 (pathErr_zero.1 hw.path).2
  have hs1 := sideErr_zero.1 h.fs
  have hs2 := sideErr_zero.1 h.ts
  have hb := back_in hs2.1 hs2.2
  obtain ⟨i0, i1, i2⟩ := inner_at (t := t) (l := l) (by omega)
  obtain ⟨s, s1, s4, e1, e2, e3⟩ := side_of hw.path (i := l.length - 1) (by omega) (by omega)
  have ei : ((l.length - 1 : Nat) : Int) - 1 = (l.length : Int) - 2 := by omega
  have ej : ((l.length - 1 : Nat) : Int) = (l.length : Int) - 1 := by omega
  rw [ei, ej] at e1 e2 e3
  have hse : s = backS t.ToSide := tow_inj s1 s4 hb.1 hb.2 (by rw [← e1, hw.in_, opp_tow hs2.1 hs2.2])
  subst hse
  have hopp := opp_tow hs2.1 hs2.2
  have hend : endP t = ⟨(gx l ((l.length : Int) - 1)).X - t.Clear * (tow (backS t.ToSide)).X, (gx l ((l.length : Int) - 1)).Y - t.Clear * (tow (backS t.ToSide)).Y⟩ := by
    rw [hw.last, ← hopp]
    unfold endP farP oppP
    simp only [Point.mk.injEq]
    rcases tow_cases t.ToSide with c | c | c | c <;> rw [c] <;> simp only <;> omega
  have hlen : lenUpto l l.length = lenUpto l (l.length - 1) + farI (gx l ((l.length : Int) - 2)) (gx l ((l.length : Int) - 1)) := by
    have := lenUpto_next (l := l) (i := l.length - 1) (by omega)
    rw [show l.length - 1 + 1 = l.length by omega, ei, ej] at this
    exact this
  have hc1 := hw.c1; have hc2 := hw.c2
  have hf := hw.free (l.length - 1) (by omega) (by omega)
  rw [ei, i1] at hf
  by_cases c2 : l.length = 2
  · -- straight on
    have hc3 := hw.c3 c2
    have e0 : (l.length : Int) - 2 = 0 := by omega
    have e01 : (l.length : Int) - 1 = 1 := by omega
    simp only [e0, e01] at e1 e2 e3 hend hlen hc2 hf
    rw [e0]
    have hfs : t.FromSide = backS t.ToSide := tow_inj hs1.1 hs1.2 hb.1 hb.2 (by rw [← hw.out, e1])
    have hl2 : lenUpto l (l.length - 1) = 0 := by rw [c2]; simp [lenUpto]
    have hx : (ptS t to).X = (ptS t fr).X + (farI (gx l 0) (gx l 1) - 2 * t.Clear) * (tow (backS t.ToSide)).X := by
      rw [hE.ep, hE.fp, hend]; unfold startP farP
      simp only
      rw [e2, hw.first, hfs]
      rcases tow_cases (backS t.ToSide) with c | c | c | c <;> rw [c] <;> simp only <;> omega
    have hy : (ptS t to).Y = (ptS t fr).Y + (farI (gx l 0) (gx l 1) - 2 * t.Clear) * (tow (backS t.ToSide)).Y := by
      rw [hE.ep, hE.fp, hend]; unfold startP farP
      simp only
      rw [e3, hw.first, hfs]
      rcases tow_cases (backS t.ToSide) with c | c | c | c <;> rw [c] <;> simp only <;> omega
    rw [hlen, hl2, Int.zero_add]
    by_cases c : farI (gx l 0) (gx l 1) - 2 * t.Clear = 0
    · obtain ⟨k, k1, k2⟩ := idx_of hE.fo hE.eo (by omega) hx hy hE.ts
      have : k = 0 := k2.2 c
      subst this
      have hq : to = fr := by
        rw [k1]; unfold tgt
        have := hE.fs
        cases fr
        simp only at this
        simp [this, hfs]
      rw [hq, c]
      exact .inl ⟨_, .one⟩
    · rw [i0] at hf
      have := Rch.line (t := t) (fr := fr) (to := to) (p := fr) (q := to) (b := 0) (n := 0) (s := backS t.ToSide) (e := farI (gx l 0) (gx l 1) - 2 * t.Clear) hb.1 hb.2 (by rw [hE.fs, hfs]; exact back_ne hb.1 hb.2) hE.fo hE.eo (by omega) hx hy hE.ts (by rw [hE.fp, hE.ep]; exact hf) (.inl ⟨_, .one⟩)
      rw [if_pos (by rw [hE.fs, hfs]), Int.zero_add, Int.zero_add] at this
      exact this
  · obtain ⟨p, p1, p2, p3, p4, p5, p6⟩ := path_marks h hw hE (l.length - 2) (by omega) (by omega)
    have ek : ((l.length - 2 : Nat) : Int) = (l.length : Int) - 2 := by omega
    rw [ek] at p2 p5 p6
    have ht := turn_at hw.path (i := l.length - 2) (by omega) (by omega) (hw.turns (l.length - 2) (by omega) (by omega)) p3 p4 hb.1 hb.2 (by rw [ek]; exact p5) (by rw [ek, show (l.length : Int) - 2 + 1 = (l.length : Int) - 1 by omega]; exact e1)
    rw [← ek, i2 (l.length - 2) (by omega) (by omega), ek] at hf
    have hx : (ptS t to).X = (ptS t p).X + (farI (gx l ((l.length : Int) - 2)) (gx l ((l.length : Int) - 1)) - t.Clear) * (tow (backS t.ToSide)).X := by
      rw [hE.ep, p2, hend]
      simp only
      rw [e2]
      rcases tow_cases (backS t.ToSide) with c | c | c | c <;> rw [c] <;> simp only <;> omega
    have hy : (ptS t to).Y = (ptS t p).Y + (farI (gx l ((l.length : Int) - 2)) (gx l ((l.length : Int) - 1)) - t.Clear) * (tow (backS t.ToSide)).Y := by
      rw [hE.ep, p2, hend]
      simp only
      rw [e3]
      rcases tow_cases (backS t.ToSide) with c | c | c | c <;> rw [c] <;> simp only <;> omega
    rw [show l.length - 2 + 1 = l.length - 1 by omega] at p6
    by_cases c : farI (gx l ((l.length : Int) - 2)) (gx l ((l.length : Int) - 1)) - t.Clear = 0
    · obtain ⟨k, k1, k2⟩ := idx_of p1 hE.eo (by omega) hx hy hE.ts
      have : k = 0 := k2.2 c
      subst this
      have hxy : p.x = to.x ∧ p.y = to.y := by
        rw [k1]; unfold tgt; simp
      have := p6.step (q := to) (b' := 1) (n' := 0) (.inr ⟨rfl, hxy.1, hxy.2, by
        rw [hE.ts, back_back hs2.1 hs2.2]
        intro hh
        exact ht.2 (by rw [hh]), rfl, rfl⟩) (by omega) (by omega)
      rw [show (l.length : Int) - 2 = (l.length : Int) - 2 - 1 + 1 by omega, show lenUpto l l.length - 2 * t.Clear = lenUpto l (l.length - 1) - t.Clear + 0 by omega]
      exact this
    · have := Rch.line (t := t) (q := to) (s := backS t.ToSide) (e := farI (gx l ((l.length : Int) - 2)) (gx l ((l.length : Int) - 1)) - t.Clear) hb.1 hb.2 ht.2 p1 hE.eo (by omega) hx hy hE.ts (by rw [p2, hE.ep]; exact hf) p6
      rw [if_neg ht.1] at this
      rw [show (l.length : Int) - 2 = (l.length : Int) - 2 - 1 + 1 by omega, show lenUpto l l.length - 2 * t.Clear = lenUpto l (l.length - 1) - t.Clear + (farI (gx l ((l.length : Int) - 2)) (gx l ((l.length : Int) - 1)) - t.Clear) by omega]
      exact this
end Go.DB
