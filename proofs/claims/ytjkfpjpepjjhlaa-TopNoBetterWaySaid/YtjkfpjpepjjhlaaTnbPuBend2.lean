/-
  A best way has few bends: the net.
-/
import Derived.Test.YtjkfpjpepjjhlaaTnbPuBend
set_option linter.unusedSimpArgs false
set_option linter.unusedVariables false
namespace Go.DB
open Go Go.RowKit

theorem frP_v {t : Task} {x y q : Int} {d : Lev.Dir} (h0 : Lev.dx d = 0) (h1 : Lev.dy d = q) : FrP t (x, y) d ↔ OnP t (x, y) ∧ OnP t (x, y + q) ∧ blkB t ⟨gx (XL t) x, gx (YL t) y⟩ ⟨gx (XL t) x, gx (YL t) (y + q)⟩ = false := by
  unfold FrP Lev.mv ptP
  rw [h0, h1]
  simp only [Int.one_mul, Int.mul_zero, Int.add_zero]
theorem frP_h {t : Task} {x y p : Int} {d : Lev.Dir} (h0 : Lev.dy d = 0) (h1 : Lev.dx d = p) : FrP t (x, y) d ↔ OnP t (x, y) ∧ OnP t (x + p, y) ∧ blkB t ⟨gx (XL t) x, gx (YL t) y⟩ ⟨gx (XL t) (x + p), gx (YL t) y⟩ = false := by
  unfold FrP Lev.mv ptP
  rw [h0, h1]
  simp only [Int.one_mul, Int.mul_zero, Int.add_zero]
theorem mv_v {x y q : Int} {d : Lev.Dir} (h0 : Lev.dx d = 0) (h1 : Lev.dy d = q) : Lev.mv (x, y) d 1 = (x, y + q) := by
  unfold Lev.mv; rw [h0, h1]; simp
theorem mv_h {x y p : Int} {d : Lev.Dir} (h0 : Lev.dy d = 0) (h1 : Lev.dx d = p) : Lev.mv (x, y) d 1 = (x + p, y) := by
  unfold Lev.mv; rw [h0, h1]; simp

/-- A cell: it is free all around, or a zone has its corner here. -/
theorem cell_core {t : Task} {x y p q : Int} {v e : Lev.Dir} (v0 : Lev.dx v = 0) (v1 : Lev.dy v = q) (e0 : Lev.dy e = 0) (e1 : Lev.dx e = p) (hp : p = 1 ∨ p = -1) (hq : q = 1 ∨ q = -1) (hv : FrP t (x, y) v) (he : FrP t (x, y) e) :
    (∃ j : Nat, ∃ h : j < t.Walls.length, gx (XL t) x = (if p = 1 then (zn t t.Walls[j]).left else (zn t t.Walls[j]).right) ∧ gx (YL t) y = if q = 1 then (zn t t.Walls[j]).top else (zn t t.Walls[j]).bottom) ∨ (FrP t (x, y + q) e ∧ FrP t (x + p, y) v) := by
  obtain ⟨o0, o1, f2⟩ := (frP_v v0 v1).1 hv
  obtain ⟨_, o2, f1⟩ := (frP_h e0 e1).1 he
  rw [frP_h e0 e1, frP_v v0 v1]
  unfold OnP at o0 o1 o2 ⊢
  simp only at o0 o1 o2 ⊢
  by_cases c1 : blkB t ⟨gx (XL t) x, gx (YL t) (y + q)⟩ ⟨gx (XL t) (x + p), gx (YL t) (y + q)⟩ = false
  · by_cases c2 : blkB t ⟨gx (XL t) (x + p), gx (YL t) y⟩ ⟨gx (XL t) (x + p), gx (YL t) (y + q)⟩ = false
    · right
      exact ⟨⟨by omega, by omega, c1⟩, ⟨by omega, by omega, c2⟩⟩
    · left
      obtain ⟨w, hw, hz⟩ := blkB_iff.1 (by simpa using c2)
      obtain ⟨j, hj, rfl⟩ := List.mem_iff_getElem.1 hw
      exact ⟨j, hj, cell_zone hw hp hq o0.1 o0.2.1 o2.1 o2.2.1 o0.2.2.1 o0.2.2.2 o1.2.2.1 o1.2.2.2 f1 f2 (.inr hz)⟩
  · left
    obtain ⟨w, hw, hz⟩ := blkB_iff.1 (by simpa using c1)
    obtain ⟨j, hj, rfl⟩ := List.mem_iff_getElem.1 hw
    exact ⟨j, hj, cell_zone hw hp hq o0.1 o0.2.1 o2.1 o2.2.1 o0.2.2.1 o0.2.2.2 o1.2.2.1 o1.2.2.2 f1 f2 (.inl hz)⟩

theorem cell_net {t : Task} (u : Lev.Pos) (a e : Lev.Dir) (hp : Lev.perp a e) (ha : FrP t u a) (he : FrP t u e) : CorP t u a e ∨ (FrP t (Lev.mv u a 1) e ∧ FrP t (Lev.mv u e 1) a) := by
  obtain ⟨x, y⟩ := u
  have hpp : (Lev.dx a = 0 ∧ Lev.dy e = 0 ∧ (Lev.dx e = 1 ∨ Lev.dx e = -1) ∧ (Lev.dy a = 1 ∨ Lev.dy a = -1)) ∨ (Lev.dy a = 0 ∧ Lev.dx e = 0 ∧ (Lev.dx a = 1 ∨ Lev.dx a = -1) ∧ (Lev.dy e = 1 ∨ Lev.dy e = -1)) := by
    revert hp; unfold Lev.perp; cases a <;> cases e <;> decide
  rcases hpp with ⟨h1, h2, h3, h4⟩ | ⟨h1, h2, h3, h4⟩
  · rw [mv_v h1 rfl, mv_h h2 rfl]
    rcases cell_core h1 rfl h2 rfl h3 h4 ha he with ⟨j, hj, g1, g2⟩ | ⟨g1, g2⟩
    · left
      refine ⟨ha.1, hp, j, hj, ?_⟩
      unfold ptP cornX cornY
      rw [h1, h2, Int.zero_add, Int.add_zero]
      simp only [g1, g2]
    · exact .inr ⟨g1, g2⟩
  · rw [mv_h h1 rfl, mv_v h2 rfl]
    rcases cell_core h2 rfl h1 rfl h3 h4 he ha with ⟨j, hj, g1, g2⟩ | ⟨g1, g2⟩
    · left
      refine ⟨ha.1, hp, j, hj, ?_⟩
      unfold ptP cornX cornY
      rw [h1, h2, Int.add_zero, Int.zero_add]
      simp only [g1, g2]
    · exact .inr ⟨g2, g1⟩

/-- The net of a task. -/
noncomputable def netT (t : Task) (fr : Route_spot) : Lev.Net where
  fr := FrP t
  sym := fun u d h => by
    obtain ⟨h1, h2, h3⟩ := h
    have e : Lev.mv (Lev.mv u d 1) (Lev.opp d) 1 = u := by
      rw [Lev.mv_opp, Lev.mv_mv, show (1 : Int) + -1 = 0 by omega, Lev.mv_zero]
    exact ⟨h2, by rw [e]; exact h1, by rw [e, blk_comm]; exact h3⟩
  cor := CorP t
  cell := cell_net
  s := (fr.x, fr.y)
  g := drO t.FromSide

/-- Which corner of a zone, and from which side it is met. -/
def code (a e : Lev.Dir) : Nat := (if Lev.dx a = 0 then 0 else 4) + (if Lev.dx a + Lev.dx e = 1 then 0 else 2) + (if Lev.dy a + Lev.dy e = 1 then 0 else 1)
theorem code_lt (a e : Lev.Dir) : code a e < 8 := by cases a <;> cases e <;> decide
theorem code_inj {a e a' e' : Lev.Dir} (h : Lev.perp a e) (h' : Lev.perp a' e') (hc : code a e = code a' e') : a = a' ∧ e = e' := by
  revert h h' hc; unfold Lev.perp; cases a <;> cases e <;> cases a' <;> cases e' <;> decide
open Classical in
noncomputable def tagP (t : Task) (u : Lev.Pos) (a e : Lev.Dir) : Nat := if h : CorP t u a e then 8 * h.2.2.choose + code a e else 0
theorem tagP_at {t : Task} {u : Lev.Pos} {a e : Lev.Dir} (h : CorP t u a e) : ∃ j : Nat, ∃ hj : j < t.Walls.length, tagP t u a e = 8 * j + code a e ∧ ptP t u = ⟨cornX (zn t t.Walls[j]) a e, cornY (zn t t.Walls[j]) a e⟩ := by
  obtain ⟨hj, hp⟩ := h.2.2.choose_spec
  exact ⟨h.2.2.choose, hj, by unfold tagP; rw [dif_pos h], hp⟩
theorem ptP_inj {t : Task} {u u' : Lev.Pos} (h : OnP t u) (h' : OnP t u') (he : ptP t u = ptP t u') : u = u' := by
  have sx := gridOf_strict (xv t); have sy := gridOf_strict (yv t)
  change (XL t).Pairwise (· < ·) at sx
  change (YL t).Pairwise (· < ·) at sy
  obtain ⟨x, y⟩ := u
  obtain ⟨x', y'⟩ := u'
  unfold ptP at he
  unfold OnP at h h'
  simp only [Point.mk.injEq] at he h h'
  have e1 : x = x' := by
    rcases Int.lt_trichotomy x x' with c | c | c
    · have := gx_lt sx h.1 c h'.2.1; omega
    · exact c
    · have := gx_lt sx h'.1 c h.2.1; omega
  have e2 : y = y' := by
    rcases Int.lt_trichotomy y y' with c | c | c
    · have := gx_lt sy h.2.2.1 c h'.2.2.2; omega
    · exact c
    · have := gx_lt sy h'.2.2.1 c h.2.2.2; omega
  rw [e1, e2]

/-- Whatever can be reached can be reached with few bends. -/
theorem net_bound {t : Task} (h : TaskOK t) {fr : Route_spot} {n : Nat} {u : Lev.Pos} {d : Lev.Dir} (hr : (netT t fr).R n u d) : ∃ m, m ≤ 820 ∧ (netT t fr).R m u d := by
  have hf := h.few
  obtain ⟨m, _, h2, h3⟩ := Lev.Net.bound (netT t fr) 800 (tagP t) (fun u a e hc => by
    obtain ⟨j, hj, h1, _⟩ := tagP_at hc
    have := code_lt a e
    omega) (fun u a e u' a' e' hc hc' he => by
    obtain ⟨j, hj, h1, h2⟩ := tagP_at hc
    obtain ⟨j', hj', h1', h2'⟩ := tagP_at hc'
    have c1 := code_lt a e; have c2 := code_lt a' e'
    have ej : j = j' := by omega
    obtain ⟨ea, ee⟩ := code_inj hc.2.1 hc'.2.1 (by omega)
    subst ej ea ee
    exact ⟨ptP_inj hc.1 hc'.1 (h2.trans h2'.symm), rfl⟩) hr
  exact ⟨m, by omega, h3.1⟩

/-- A way on the net, but for a last bend. -/
theorem tr_net {t : Task} {s : Route_search} (hS : Sea s (nxT t)) (eX : s.xs = XL t) (eY : s.ys = YL t) {fr to : Route_spot} (hE : EndsN t fr to) (hf : InS s fr) (ht : InS s to) {l : List Route_spot} {q : Route_spot} {b n : Int} (htr : Tr (nxT t) fr to l q b n) :
    0 ≤ b ∧ ((netT t fr).R b.toNat (q.x, q.y) (drO q.side) ∨ (q = to ∧ ∃ p, InS s p ∧ p.x = to.x ∧ p.y = to.y ∧ p.side ≠ backS to.side ∧ ∃ b1 : Nat, (netT t fr).R b1 (p.x, p.y) (drO p.side))) := by
  induction htr with
  | one =>
    refine ⟨Int.le_refl _, .inl ?_⟩
    rw [hE.fs]
    exact .ini 0
  | @snoc l p b n q b' n' htr hne hEd ih =>
    obtain ⟨b0, ih⟩ := ih
    have hp := (htr.all hS hf ht).1
    have ihn := ih.resolve_right (fun hh => hne hh.1)
    clear ih
    rcases hEd with ⟨side, s1, s4, hb, hn, rfl⟩ | ⟨rfl, hx, hy, hs, rfl, rfl⟩
    · unfold nxT at hn
      split at hn
      · rename_i hc
        obtain ⟨hon, hblk⟩ := hc
        simp only [Option.some.injEq, Prod.mk.injEq] at hn
        obtain ⟨rfl, _⟩ := hn
        have hd := tow_dr (drO side)
        rw [sd_dr s1 s4] at hd
        have hmv : Lev.mv (p.x, p.y) (drO side) 1 = ((sd p side).x, (sd p side).y) := by
          unfold Lev.mv sd
          rw [hd]; simp
        have hfr : FrP t (p.x, p.y) (drO side) := by
          refine ⟨⟨hp.x0, by rw [← eX]; exact hp.x1, hp.y0, by rw [← eY]; exact hp.y1⟩, by rw [hmv]; exact hon, ?_⟩
          rw [hmv]; exact hblk
        by_cases cs : side = p.side
        · rw [if_pos cs, Int.add_zero]
          refine ⟨b0, .inl ?_⟩
          have := Lev.Net.R.go (N := netT t fr) ihn (by rw [← cs]; exact hfr)
          rw [← cs, hmv] at this
          exact this
        · rw [if_neg cs]
          refine ⟨by omega, .inl ?_⟩
          have hperp : Lev.perp (drO p.side) (drO side) := by
            refine ⟨fun e => cs ?_, fun e => hb ?_⟩
            · rw [← sd_dr s1 s4, ← e, sd_dr hp.s1 hp.s4]
            · have := back_dr (drO side)
              rw [sd_dr s1 s4, ← e, sd_dr hp.s1 hp.s4] at this
              rw [← this, back_back s1 s4]
          have := Lev.Net.R.tn (N := netT t fr) ihn hperp hfr
          rw [hmv, show b.toNat + 1 = (b + 1).toNat by omega] at this
          exact this
      · cases hn
    · exact ⟨by omega, .inr ⟨rfl, p, hp, hx, hy, hs, _, ihn⟩⟩

/-- What is on the net is reached. -/
theorem net_rch {t : Task} {fr to : Route_spot} (hE : EndsN t fr to) (hs1 : 1 ≤ t.FromSide ∧ t.FromSide ≤ 4) {n : Nat} {u : Lev.Pos} {d : Lev.Dir} (hr : (netT t fr).R n u d) : ∃ b m, b ≤ (n : Int) ∧ Rch (nxT t) fr to ⟨u.1, u.2, sdO d⟩ b m := by
  have edge : ∀ {u : Lev.Pos} {d : Lev.Dir} (x : Lev.Dir), FrP t u d → nxT t ⟨u.1, u.2, sdO x⟩ (sdO d) = some (⟨(Lev.mv u d 1).1, (Lev.mv u d 1).2, sdO d⟩, farI (ptP t u) (ptP t (Lev.mv u d 1))) := by
    intro u d x h
    have hsd : sd ⟨u.1, u.2, sdO x⟩ (sdO d) = ⟨(Lev.mv u d 1).1, (Lev.mv u d 1).2, sdO d⟩ := by
      unfold sd Lev.mv
      rw [tow_dr]; simp
    unfold nxT
    rw [hsd, if_pos ⟨h.2.1, h.2.2⟩]; rfl
  induction hr with
  | ini n =>
    refine ⟨0, 0, by omega, ?_⟩
    have : (⟨(netT t fr).s.1, (netT t fr).s.2, sdO (netT t fr).g⟩ : Route_spot) = fr := by
      show (⟨fr.x, fr.y, sdO (drO t.FromSide)⟩ : Route_spot) = fr
      rw [sd_dr hs1.1 hs1.2, ← hE.fs]
    rw [this]
    exact .inl ⟨_, .one⟩
  | @go n u d h f ih =>
    obtain ⟨b, m, hb, hr⟩ := ih
    have hi := sdO_in d
    refine ⟨b + 0, m + _, by omega, hr.step (.inl ⟨sdO d, hi.1, hi.2, back_ne hi.1 hi.2, edge d f, by simp⟩) (Int.le_refl _) (farI_nn _ _)⟩
  | @tn n u d e h hp f ih =>
    obtain ⟨b, m, hb, hr⟩ := ih
    have hi := sdO_in e
    refine ⟨b + 1, m + _, by omega, hr.step (.inl ⟨sdO e, hi.1, hi.2, ?_, edge d f, ?_⟩) (by omega) (farI_nn _ _)⟩
    · rw [back_dr]
      intro hh
      exact (Lev.perp_symm hp).2 (sdO_inj hh)
    · rw [if_neg]
      intro hh
      exact hp.1 (sdO_inj hh).symm

/-- A best way has few bends. -/
theorem few_bends {t : Task} (h : TaskOK t) {fr to : Route_spot} (hE : EndsN t fr to) {way : List Route_spot} {b n : Int} (hF : Found_ t fr to way b n) : b ≤ 998 := by
  have hs1 := sideErr_zero.1 h.fs
  have hs2 := sideErr_zero.1 h.ts
  have hbk := back_in hs2.1 hs2.2
  obtain ⟨s, _, eX, eY, hS⟩ := sea_of h
  have inF : InS s fr := ⟨hE.fo.1, by rw [eX]; exact hE.fo.2.1, hE.fo.2.2.1, by rw [eY]; exact hE.fo.2.2.2, by rw [hE.fs]; exact hs1.1, by rw [hE.fs]; exact hs1.2⟩
  have inT : InS s to := ⟨hE.eo.1, by rw [eX]; exact hE.eo.2.1, hE.eo.2.2.1, by rw [eY]; exact hE.eo.2.2.2, by rw [hE.ts]; exact hbk.1, by rw [hE.ts]; exact hbk.2⟩
  obtain ⟨b0, hN⟩ := tr_net hS eX eY hE inF inT hF.tr
  have fin : ∀ b' n', Rch (nxT t) fr to to b' n' → b' ≤ 821 → b ≤ 998 := fun b' n' hr hb => by
    obtain ⟨l, b1, n1, htr, hle⟩ := hr.to
    have := hF.least _ _ _ htr
    omega
  rcases hN with hr | ⟨_, p, hp, hx, hy, hs, b1, hr⟩
  · obtain ⟨m, hm, hr⟩ := net_bound h hr
    obtain ⟨b', n', hb', hr'⟩ := net_rch (to := to) hE hs1 hr
    rw [sd_dr inT.s1 inT.s4] at hr'
    exact fin b' n' hr' (by omega)
  · obtain ⟨m, hm, hr⟩ := net_bound h hr
    obtain ⟨b', n', hb', hr'⟩ := net_rch (to := to) hE hs1 hr
    rw [sd_dr hp.s1 hp.s4] at hr'
    exact fin (b' + 1) (n' + 0) (hr'.step (.inr ⟨rfl, hx, hy, hs, rfl, rfl⟩) (by omega) (Int.le_refl _)) (by omega)
end Go.DB
