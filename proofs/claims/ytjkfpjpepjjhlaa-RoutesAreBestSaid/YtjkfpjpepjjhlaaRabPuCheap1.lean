/-
  The reference's search for the cheapest way: its looks to the sides.
-/
import Derived.Test.YtjkfpjpepjjhlaaRabPuRoute
import Derived.Test.YtjkfpjpepjjhlaaRabPuFifo
set_option linter.unusedSimpArgs false
set_option linter.unusedVariables false
namespace Go.DB
open Go Go.RowKit

def spR (s : Ref_state) : Route_spot := ⟨s.x, s.y, s.way⟩
def stR (p : Route_spot) : Ref_state := ⟨p.x, p.y, p.side⟩
theorem sp_st (p : Route_spot) : spR (stR p) = p := rfl
noncomputable def nxR (t : Task) (s : Ref_state) (k : Int) : Option (Ref_state × Int) :=
  if k = backS s.way ∨ k < 1 ∨ 4 < k then none else (nxT t (spR s) k).map fun r => (stR r.1, r.2 + if k = s.way then 0 else 1099511627776)
noncomputable def allS (t : Task) : List Ref_state := (List.range (XL t).length).flatMap fun (x : Nat) => (List.range (YL t).length).flatMap fun (y : Nat) => [⟨(x : Int), (y : Int), 1⟩, ⟨(x : Int), (y : Int), 2⟩, ⟨(x : Int), (y : Int), 3⟩, ⟨(x : Int), (y : Int), 4⟩]
theorem allS_mem {t : Task} {s : Ref_state} : s ∈ allS t ↔ OnN t (spR s) ∧ 1 ≤ s.way ∧ s.way ≤ 4 := by
  unfold allS OnN spR
  simp only [List.mem_flatMap, List.mem_range]
  constructor
  · rintro ⟨x, hx, y, hy, h⟩
    simp only [List.mem_cons, List.not_mem_nil, or_false] at h
    rcases h with rfl | rfl | rfl | rfl <;> refine ⟨⟨?_, ?_, ?_, ?_⟩, ?_, ?_⟩ <;> simp only <;> omega
  · rintro ⟨⟨h1, h2, h3, h4⟩, h5, h6⟩
    refine ⟨s.x.toNat, by omega, s.y.toNat, by omega, ?_⟩
    have e1 : ((s.x.toNat : Nat) : Int) = s.x := by omega
    have e2 : ((s.y.toNat : Nat) : Int) = s.y := by omega
    rw [e1, e2]
    obtain ⟨x, y, w⟩ := s
    simp only at h5 h6 ⊢
    have : w = 1 ∨ w = 2 ∨ w = 3 ∨ w = 4 := by omega
    rcases this with rfl | rfl | rfl | rfl <;> simp
theorem flat_len {α β : Type} {f : α → List β} {m : Nat} : ∀ {l : List α}, (∀ x ∈ l, (f x).length = m) → (l.flatMap f).length = l.length * m
  | [], _ => by simp
  | a :: l, h => by
    rw [List.flatMap_cons, List.length_append, h a (List.mem_cons_self ..), flat_len (fun x hx => h x (List.mem_cons_of_mem _ hx)), List.length_cons, Nat.add_mul]; omega
theorem allS_len {t : Task} (h : TaskOK t) : (allS t).length ≤ 4000000 := by
  have h1 : (allS t).length = (XL t).length * ((YL t).length * 4) := by
    unfold allS
    rw [flat_len (m := (YL t).length * 4) (fun x _ => by rw [flat_len (m := 4) (fun y _ => rfl), List.length_range]), List.length_range]
  have := XL_len h; have := YL_len h
  have := Nat.mul_le_mul (XL_len h) (Nat.mul_le_mul_right 4 (YL_len h))
  omega
/-- Costs that a way has. -/
def AttR (t : Task) (fr to : Route_spot) (s : Ref_state) (c : Int) : Prop := ∃ b n, 0 ≤ b ∧ 0 ≤ n ∧ c = b * 1099511627776 + n ∧ Rch (nxT t) fr to (spR s) b n
noncomputable def netR (t : Task) (fr to : Route_spot) : Fifo.G Ref_state where
  nx := nxR t
  par := fun s => decide ((s.x + s.y) % 2 = 0)
  all := allS t
  M := 1099513627776
  att := AttR t fr to

theorem in_sea {t : Task} {s : Route_search} (eX : s.xs = XL t) (eY : s.ys = YL t) {p : Route_spot} (h : OnN t p) (h1 : 1 ≤ p.side) (h4 : p.side ≤ 4) : InS s p :=
  ⟨h.1, by rw [eX]; exact h.2.1, h.2.2.1, by rw [eY]; exact h.2.2.2, h1, h4⟩
theorem nxR_some {t : Task} (h : TaskOK t) {s n : Ref_state} {k d : Int} (hs : s ∈ allS t) (hn : nxR t s k = some (n, d)) : 1 ≤ k ∧ k ≤ 4 ∧ k ≠ backS s.way ∧ n = stR (sd (spR s) k) ∧ n ∈ allS t ∧
    ∃ l, 0 < l ∧ l ≤ 2000000 ∧ nxT t (spR s) k = some (spR n, l) ∧ d = l + if k = s.way then 0 else 1099511627776 := by
  unfold nxR at hn
  by_cases c : k = backS s.way ∨ k < 1 ∨ 4 < k
  · rw [if_pos c] at hn; cases hn
  · rw [if_neg c] at hn
    have c1 : 1 ≤ k := by omega
    have c4 : k ≤ 4 := by omega
    obtain ⟨⟨q, l⟩, h1, h2⟩ := Option.map_eq_some_iff.1 hn
    simp only [Prod.mk.injEq] at h2
    obtain ⟨rfl, rfl⟩ := h2
    obtain ⟨ss, _, eX, eY, hS⟩ := sea_of h
    obtain ⟨m1, m2, m3⟩ := allS_mem.1 hs
    obtain ⟨g1, g2, g3, g4⟩ := hS.ok (spR s) k q l (in_sea eX eY m1 m2 m3) c1 c4 h1
    have hq : q = sd (spR s) k := by
      unfold nxT at h1
      split at h1
      · simp only [Option.some.injEq, Prod.mk.injEq] at h1; exact h1.1.symm
      · cases h1
    refine ⟨c1, c4, fun e => c (.inl e), by rw [hq], allS_mem.2 ⟨?_, ?_, ?_⟩, l, g3, g4, h1, rfl⟩
    · exact ⟨g1.x0, by rw [← eX]; exact g1.x1, g1.y0, by rw [← eY]; exact g1.y1⟩
    · exact g1.s1
    · exact g1.s4
theorem netR_ok {t : Task} (h : TaskOK t) (fr to : Route_spot) : Fifo.Ok (netR t fr to) := by
  refine ⟨by unfold netR; simp only; omega, fun s k n d hs hn => ?_⟩
  obtain ⟨k1, k4, kb, hnq, hna, l, l0, l1, hnx, hd⟩ := nxR_some h hs hn
  refine ⟨hna, ?_, ?_, ?_, ?_⟩
  · have e1 : n.x = s.x + (tow k).X := by rw [hnq]; rfl
    have e2 : n.y = s.y + (tow k).Y := by rw [hnq]; rfl
    show decide ((n.x + n.y) % 2 = 0) = !decide ((s.x + s.y) % 2 = 0)
    rw [← decide_not, decide_eq_decide]
    rcases tow_cases k with c | c | c | c <;> rw [c] at e1 e2 <;> simp only at e1 e2 <;> omega
  · rw [hd]; split <;> omega
  · rw [hd]; show _ ≤ (1099513627776 : Int); split <;> omega
  · rintro c ⟨b, m, b0, m0, rfl, hr⟩
    by_cases e : k = s.way
    · refine ⟨b, m + l, b0, by omega, by rw [hd, if_pos e]; omega, ?_⟩
      have := hr.step (q := spR n) (b' := 0) (n' := l) (.inl ⟨k, k1, k4, kb, hnx, (if_pos e).symm⟩) (by omega) (by omega)
      rw [Int.add_zero] at this; exact this
    · refine ⟨b + 1, m + l, by omega, by omega, by rw [hd, if_neg e]; omega, ?_⟩
      exact hr.step (.inl ⟨k, k1, k4, kb, hnx, (if_neg e).symm⟩) (by omega) (by omega)

theorem side_cond {w k : Int} (w1 : 1 ≤ w) (w4 : w ≤ 4) (k1 : 1 ≤ k) (k4 : k ≤ 4) : (((decide (k = (W ((w.tmod 4) + 1)))) || (decide (k = (W (((W (w + 2)).tmod 4) + 1))))) || (decide (k = w))) = !decide (k = backS w) := by
  rw [Wk (n := w + 2) (by omega) (by omega), Int.tmod_eq_emod_of_nonneg (by omega), Int.tmod_eq_emod_of_nonneg (by omega), Wk (by omega) (by omega), Wk (by omega) (by omega), Bool.eq_iff_iff]
  simp only [Bool.or_eq_true, decide_eq_true_eq, Bool.not_eq_true', decide_eq_false_iff_not]
  unfold backS
  omega

theorem good_val {t : Task} (h : TaskOK t) {fr to : Route_spot} {f : Ref_state → Option Int} (hg : Fifo.Good (netR t fr to) f) (s : Ref_state) : 0 ≤ Fifo.val f s ∧ Fifo.val f s ≤ 4500000000000000000 := by
  unfold Fifo.val
  cases e : f s with
  | none => simp
  | some c =>
    obtain ⟨_, h1, h2, _⟩ := hg.at_ s c e
    have h3 : Fifo.seen (netR t fr to) f ≤ (allS t).length := List.countP_le_length
    have h4 := allS_len h
    change c ≤ ((Fifo.seen (netR t fr to) f : Int) - 1) * (1099513627776 : Int) at h2
    simp only [Option.getD_some]
    omega

/-- A look to a side, in the program's words. -/
theorem lookR_eq {t : Task} (h : TaskOK t) {fr to : Route_spot} {f : GMap Ref_state Int} (hg : Fifo.Good (netR t fr to) f.f) {v : Ref_state} (hv : v ∈ allS t) {k : Int} (k1 : 1 ≤ k) (k4 : k ≤ 4) {q : List Ref_state} (hq : q.length ≤ 1000000000) :
    ref_CheapestWay_L2 (XL t, YL t) t v (q, k, f) = some (.again ((Fifo.look (netR t fr to) v k (q, f.f)).1, k + 1, ⟨(Fifo.look (netR t fr to) v k (q, f.f)).2⟩)) := by
  obtain ⟨m1, m2, m3⟩ := allS_mem.1 hv
  have hX := XL_len h; have hY := YL_len h
  have pt : ∀ s : Ref_state, OnN t (spR s) → ref_CheapestWay_1 s (XL t) (YL t) = some (ptS t (spR s)) := fun s hs => by
    unfold ref_CheapestWay_1
    rw [bnd_eq, need_of ⟨hs.1, hs.2.1⟩, need_of ⟨hs.2.2.1, hs.2.2.2⟩]; rfl
  have tb := tow_small k
  have hvx : 0 ≤ v.x ∧ v.x < (XL t).length ∧ 0 ≤ v.y ∧ v.y < (YL t).length := m1
  have w1 : W (v.x + (tow k).X) = (sd (spR v) k).x := Wk (by omega) (by omega)
  have w2 : W (v.y + (tow k).Y) = (sd (spR v) k).y := Wk (by omega) (by omega)
  have e2 : (⟨(sd (spR v) k).x, (sd (spR v) k).y, k⟩ : Ref_state) = stR (sd (spR v) k) := rfl
  have lnone : (netR t fr to).nx v k = none → Fifo.look (netR t fr to) v k (q, f.f) = (q, f.f) := fun hn => by unfold Fifo.look; rw [hn]
  unfold ref_CheapestWay_L2
  simp only [bnd_eq]
  rw [decide_eq_true k4, cond_true, rtoward_eq, bind_sm, side_cond m2 m3 k1 k4, w1, w2, e2]
  have ek : W (k + 1) = k + 1 := Wk (by omega) (by omega)
  rw [ek]
  by_cases cb : k = backS v.way
  · have hl := lnone (by show nxR t v k = none; unfold nxR; rw [if_pos (.inl cb)])
    rw [hl, decide_eq_true cb]
    simp
  · rw [decide_eq_false cb]
    simp only [Bool.not_false, cond_true]
    rw [In_eq, bind_sm, In_eq, Wk (n := ((XL t).length : Int) - 1) (by omega) (by omega), Wk (n := ((YL t).length : Int) - 1) (by omega) (by omega)]
    by_cases c : 0 ≤ (sd (spR v) k).x ∧ (sd (spR v) k).x < (XL t).length ∧ 0 ≤ (sd (spR v) k).y ∧ (sd (spR v) k).y < (YL t).length
    · have o2 : OnN t (spR (stR (sd (spR v) k))) := c
      have ok1 : okP (ptS t (spR v)) := ptS_ok ⟨m1.1, m1.2.1⟩ ⟨m1.2.2.1, m1.2.2.2⟩
      have ok2 : okP (ptS t (sd (spR v) k)) := ptS_ok ⟨c.1, c.2.1⟩ ⟨c.2.2.1, c.2.2.2⟩
      have hfar := farI_bd ok1 ok2
      have d1 : decide (0 ≤ (sd (spR v) k).x ∧ (sd (spR v) k).x ≤ ((XL t).length : Int) - 1) = true := by
        rw [decide_eq_true_eq]; omega
      have d2 : decide (0 ≤ (sd (spR v) k).y ∧ (sd (spR v) k).y ≤ ((YL t).length : Int) - 1) = true := by
        rw [decide_eq_true_eq]; omega
      rw [d1, d2]
      simp only [Bool.not_true, Bool.not_false, gd_true, bind_sm, Bool.or_false, Bool.false_or]
      rw [pt v m1, pt _ o2, bind_sm, bind_sm, (blocked_eq h _ _).1, bind_sm, sp_st]
      cases hb : blkB t (ptS t (spR v)) (ptS t (sd (spR v) k)) with
      | true =>
        have hl := lnone (by
          show nxR t v k = none
          have hn0 : nxT t (spR v) k = none := by unfold nxT; rw [if_neg (fun hh => by rw [hb] at hh; cases hh.2)]
          unfold nxR; rw [if_neg (by omega), hn0]; rfl)
        rw [hl]; rfl
      | false =>
        have hn : (netR t fr to).nx v k = some (stR (sd (spR v) k), farI (ptS t (spR v)) (ptS t (sd (spR v) k)) + if k = v.way then 0 else 1099511627776) := by
          show nxR t v k = _
          unfold nxR
          rw [if_neg (by omega), show nxT t (spR v) k = some (sd (spR v) k, farI (ptS t (spR v)) (ptS t (sd (spR v) k))) by unfold nxT; rw [if_pos ⟨c, hb⟩]]; rfl
        obtain ⟨g0, g1⟩ := good_val h hg v
        have hgv : f.getD v 0 = Fifo.val f.f v := rfl
        simp only [cond_false, bind_sm]
        rw [Far_eq ok1 ok2, bind_sm, hgv, Wk (n := Fifo.val f.f v + _) (by omega) (by omega)]
        have hc2 : ∀ K : Int → Option ((List Ref_state) × (GMap Ref_state Int)), Option.bind (bif !decide (k = v.way) then some (W (Fifo.val f.f v + farI (ptS t (spR v)) (ptS t (sd (spR v) k)) + 1099511627776)) else some (Fifo.val f.f v + farI (ptS t (spR v)) (ptS t (sd (spR v) k)))) K = K (Fifo.val f.f v + (farI (ptS t (spR v)) (ptS t (sd (spR v) k)) + if k = v.way then 0 else 1099511627776)) := fun K => by
          by_cases e : k = v.way
          · rw [decide_eq_true e, if_pos e, Int.add_zero]; rfl
          · rw [decide_eq_false e, if_neg e, Wk (by omega) (by omega), ← Int.add_assoc]; rfl
        rw [hc2]
        unfold Fifo.look
        rw [hn]
        simp only
        generalize Fifo.val f.f v + (farI (ptS t (spR v)) (ptS t (sd (spR v) k)) + if k = v.way then 0 else 1099511627776) = C
        generalize stR (sd (spR v) k) = n
        have hcond : ((!(f.has n)) || (decide (C < (f.getD n (0 : Int))))) = decide (f.f n = none ∨ C < Fifo.val f.f n) := by
          unfold GMap.has GMap.getD Fifo.val
          cases f.f n <;> simp
        rw [hcond]
        by_cases e : f.f n = none ∨ C < Fifo.val f.f n
        · rw [decide_eq_true e, if_pos e, cond_true, need_of (by rw [room_iff]; simp; omega)]; rfl
        · rw [decide_eq_false e, if_neg e]; rfl
    · have hl := lnone (by show nxR t v k = none; unfold nxR; rw [if_neg (by omega), show nxT t (spR v) k = none by unfold nxT; rw [if_neg (fun hh => c hh.1)]]; rfl)
      rw [hl]
      by_cases c1 : 0 ≤ (sd (spR v) k).x ∧ (sd (spR v) k).x ≤ ((XL t).length : Int) - 1
      · have d1 : decide (0 ≤ (sd (spR v) k).x ∧ (sd (spR v) k).x ≤ ((XL t).length : Int) - 1) = true := decide_eq_true c1
        have d2 : decide (0 ≤ (sd (spR v) k).y ∧ (sd (spR v) k).y ≤ ((YL t).length : Int) - 1) = false := by
          rw [decide_eq_false_iff_not]; omega
        rw [d1, d2]; rfl
      · have d1 : decide (0 ≤ (sd (spR v) k).x ∧ (sd (spR v) k).x ≤ ((XL t).length : Int) - 1) = false := decide_eq_false c1
        rw [d1]; rfl

theorem look_stp {t : Task} (h : TaskOK t) {fr to : Route_spot} {f : GMap Ref_state Int} (hg : Fifo.Good (netR t fr to) f.f) {v : Ref_state} (hv : f.f v ≠ none) {k : Int} (k1 : 1 ≤ k) (k4 : k ≤ 4) {q : List Ref_state} (hq : q.length ≤ 1000000000) :
    ∃ P f', ref_CheapestWay_L2 (XL t, YL t) t v (q, k, f) = some (.again (q ++ P, k + 1, ⟨f'⟩)) ∧ Fifo.Stp (netR t fr to) v [k] q f.f P f' := by
  obtain ⟨P, f', e, hs⟩ := Fifo.look_ok (netR_ok h fr to) (k := k) (q := q) hg hv
  have hva : v ∈ allS t := by
    cases hc : f.f v with
    | none => exact absurd hc hv
    | some c => exact (hg.at_ v c hc).1
  refine ⟨P, f', ?_, hs⟩
  rw [lookR_eq h hg hva k1 k4 hq, e]
/-- All four sides. -/
theorem looks_eq {t : Task} (h : TaskOK t) {fr to : Route_spot} {f : GMap Ref_state Int} (hg : Fifo.Good (netR t fr to) f.f) {v : Ref_state} (hv : f.f v ≠ none) {q : List Ref_state} (hq : q.length ≤ 900000000) :
    ∃ P f', loop (ref_CheapestWay_L2 (XL t, YL t) t v) (q, 1, f) = some (Step.again (q ++ P, ⟨f'⟩)) ∧ Fifo.Stp (netR t fr to) v [1, 2, 3, 4] q f.f P f' := by
  obtain ⟨P1, f1, e1, s1⟩ := look_stp h hg hv (k := 1) (by omega) (by omega) (q := q) (by omega)
  have l1 := s1.len
  obtain ⟨P2, f2, e2, s2⟩ := look_stp h (f := ⟨f1⟩) s1.good (s1.le.some hv) (k := 2) (by omega) (by omega) (q := q ++ P1) (by simp at *; omega)
  have s12 := s1.snoc s2
  have l2 := s12.len
  rw [List.append_assoc] at e2
  obtain ⟨P3, f3, e3, s3⟩ := look_stp h (f := ⟨f2⟩) s12.good (s12.le.some hv) (k := 3) (by omega) (by omega) (q := q ++ (P1 ++ P2)) (by simp at *; omega)
  have s13 := s12.snoc s3
  have l3 := s13.len
  rw [List.append_assoc] at e3
  obtain ⟨P4, f4, e4, s4⟩ := look_stp h (f := ⟨f3⟩) s13.good (s13.le.some hv) (k := 4) (by omega) (by omega) (q := q ++ (P1 ++ P2 ++ P3)) (by simp at *; omega)
  have s14 := s13.snoc s4
  rw [show q ++ (P1 ++ P2 ++ P3) ++ P4 = q ++ (P1 ++ P2 ++ P3 ++ P4) by simp] at e4
  refine ⟨_, f4, ?_, s14⟩
  rw [loop_again e1]
  show loop _ (q ++ P1, 2, _) = _
  rw [loop_again e2]
  show loop _ (q ++ (P1 ++ P2), 3, _) = _
  rw [loop_again e3]
  show loop _ (q ++ (P1 ++ P2 ++ P3), 4, _) = _
  rw [loop_again e4]
  exact loop_done rfl
end Go.DB
