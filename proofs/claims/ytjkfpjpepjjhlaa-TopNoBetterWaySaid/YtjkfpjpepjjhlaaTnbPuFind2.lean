/-
  A search for the best way, in plain words: rounds.
-/
import Derived.Test.YtjkfpjpepjjhlaaTnbPuFind1
set_option linter.unusedSimpArgs false
set_option linter.unusedVariables false
namespace Go.DB
open Go Go.RowKit

theorem ReverseS_eq {l : List Route_spot} (hl : l.length ≤ 10000000) : slices_Reverse_spot l = some l.reverse := by
  unfold slices_Reverse_spot
  rw [bnd_eq, Wk (by omega) (by omega)]
  obtain ⟨e, h1, h2⟩ := loop_inv (body := slices_Reverse_spot_L1) (s0 := ((0 : Int), (l.length : Int) - 1, l))
    (fun st => 0 ≤ st.1 ∧ st.1 + st.2.1 = (l.length : Int) - 1 ∧ -1 ≤ st.2.1 ∧ st.2.2.length = l.length ∧ ∀ k : Nat, k < l.length → gx st.2.2 (k : Int) = if (k : Int) < st.1 ∨ st.2.1 < k then gx l ((l.length : Int) - 1 - k) else gx l (k : Int))
    (fun st => (l.length - st.1).toNat) (fun e => e = l.reverse)
    ⟨by simp, by simp, by simp only; omega, rfl, fun k hk => by rw [if_neg (by simp only; omega)]⟩ (fun st hI => by
      obtain ⟨i, j, z⟩ := st
      obtain ⟨i1, i2, i3, i4, i5⟩ := hI
      simp only at i1 i2 i3 i4 i5
      unfold slices_Reverse_spot_L1
      simp only
      by_cases c : i < j
      · left
        obtain ⟨n, rfl⟩ := Int.eq_ofNat_of_zero_le i1
        obtain ⟨m, rfl⟩ := Int.eq_ofNat_of_zero_le (show 0 ≤ j by omega)
        rw [decide_eq_true c, cond_true, need_of ⟨by omega, by omega⟩, bnd_eq, need_of ⟨by omega, by omega⟩, bnd_eq, need_of ⟨by omega, by omega⟩, need_of ⟨by omega, by simp; omega⟩, bnd_eq, bnd_eq, bnd_eq, Wk (by omega) (by omega), Wk (by omega) (by omega)]
        refine ⟨_, rfl, ⟨by simp only; omega, by simp only; omega, by simp only; omega, by simp [i4], fun k hk => ?_⟩, by simp only; omega⟩
        simp only [Int.toNat_natCast]
        rw [gx_nat (by simp; omega), List.getElem_set, List.getElem_set]
        by_cases c1 : m = k
        · subst c1
          rw [if_pos rfl, if_pos (by omega), i5 n (by omega), if_neg (by omega)]
          congr 1; omega
        · rw [if_neg c1]
          by_cases c2 : n = k
          · subst c2
            rw [if_pos rfl, if_pos (by omega), i5 m (by omega), if_neg (by omega)]
            congr 1; omega
          · rw [if_neg c2]
            have := i5 k hk
            rw [gx_nat (by omega)] at this
            rw [this]
            by_cases c3 : (k : Int) < n ∨ (m : Int) < k
            · rw [if_pos c3, if_pos (by omega)]
            · rw [if_neg c3, if_neg (by omega)]
      · right
        rw [decide_eq_false c, cond_false]
        refine ⟨_, rfl, List.ext_getElem (by simp [i4]) fun k h1 h2 => ?_⟩
        have hk : k < l.length := by omega
        have := i5 k hk
        rw [gx_nat (by omega)] at this
        rw [this, List.getElem_reverse]
        by_cases c3 : (k : Int) < i ∨ j < k
        · rw [if_pos c3, show (l.length : Int) - 1 - k = ((l.length - 1 - k : Nat) : Int) by omega, gx_nat (by omega)]
        · rw [if_neg c3, gx_nat (by omega)]
          congr 1; omega)
  rw [h1, h2]


variable {s : Route_search} {nx : Route_spot → Int → Option (Route_spot × Int)} {p q fr to : Route_spot}

abbrev SixT := List Route_reached × List Int × List Bool × List Route_reached × List Bool

/-- Back along the steps, from what is done. -/
theorem chain_done (hS : Sea s nx) {best : RL} {came : List Int} {known : List Bool} {qu : RL} {done : List Bool} {pos : Nat → Nat} {X : Nat → Route_spot → Int → Int → Prop} (hI : Inv s nx fr to best came known qu done pos X) (s16 : SixT) (e1 : s16.1 = best) (e2 : s16.2.1 = came) :
    ∀ (n k : Nat) (way : List Route_spot), k < NN s → gx done (k : Int) = true → pos k ≤ n → way.length + n + 1 ≤ 10000000 →
      ∃ l, loop (route_search_find_L2 s16) ((k : Int), way) = some (way ++ l.reverse) ∧ Tr nx fr to l (at_ best k).spot (at_ best k).bends (at_ best k).long ∧ l.length ≤ n + 1 := by
  intro n
  induction n using Nat.strongRecOn with
  | _ n ih =>
    intro k way hk hd hp hw
    have hkn := (hI.dk k hk hd).1
    have step : route_search_find_L2 s16 ((k : Int), way) = some (.again (gx came (k : Int), way ++ [(at_ best k).spot])) := by
      unfold route_search_find_L2
      simp only [e1, e2]
      rw [decide_eq_true (show 0 ≤ ((k : Nat) : Int) by omega), cond_true, need_of ⟨by omega, by rw [hI.lb]; omega⟩, need_of (by rw [room_iff]; simp; omega), bnd_eq, need_of ⟨by omega, by rw [hI.lc]; omega⟩, bnd_eq]
      rfl
    rw [loop_again step]
    rcases hI.kc k hk hkn with ⟨g1, g2⟩ | ⟨c, g⟩
    · refine ⟨[fr], ?_, by rw [g2]; exact .one, by simp⟩
      rw [g1, g2]
      exact loop_done (by unfold route_search_find_L2; simp)
    · obtain ⟨b, l', hE, hb, hl⟩ := g.edge
      have hpc := g.ps hd
      rw [g.at_]
      obtain ⟨l, h1, h2, h3⟩ := ih (pos c) (by omega) c (way ++ [(at_ best k).spot]) g.lt g.dn (Nat.le_refl _) (by simp; omega)
      refine ⟨l ++ [(at_ best k).spot], by rw [h1]; simp, ?_, by simp; omega⟩
      rw [hb, hl]
      exact .snoc h2 g.ne hE

/-- Back along the steps, from what was popped. -/
theorem chain_any (hS : Sea s nx) {best : RL} {came : List Int} {known : List Bool} {qu : RL} {done : List Bool} {pos : Nat → Nat} {X : Nat → Route_spot → Int → Int → Prop} (hI : Inv s nx fr to best came known qu done pos X) (s16 : SixT) (e1 : s16.1 = best) (e2 : s16.2.1 = came)
    {k : Nat} (hk : k < NN s) (hkn : gx known (k : Int) = true) :
    ∃ l, loop (route_search_find_L2 s16) ((k : Int), ([] : List Route_spot)) = some l.reverse ∧ Tr nx fr to l (at_ best k).spot (at_ best k).bends (at_ best k).long ∧ l.length ≤ 4000002 := by
  have hN := NN_le hS
  have step : route_search_find_L2 s16 ((k : Int), ([] : List Route_spot)) = some (.again (gx came (k : Int), [(at_ best k).spot])) := by
    unfold route_search_find_L2
    simp only [e1, e2]
    rw [decide_eq_true (show 0 ≤ ((k : Nat) : Int) by omega), cond_true, need_of ⟨by omega, by rw [hI.lb]; omega⟩, need_of (by rw [room_iff]; simp), bnd_eq, need_of ⟨by omega, by rw [hI.lc]; omega⟩, bnd_eq]
    rfl
  rw [loop_again step]
  rcases hI.kc k hk hkn with ⟨g1, g2⟩ | ⟨c, g⟩
  · refine ⟨[fr], ?_, by rw [g2]; exact .one, by simp⟩
    rw [g1, g2]
    exact loop_done (by unfold route_search_find_L2; simp)
  · obtain ⟨b, l', hE, hb, hl⟩ := g.edge
    have hc := (hI.dk c g.lt g.dn).2.1
    have := cnt_le done
    rw [hI.ld] at this
    rw [g.at_]
    obtain ⟨l, h1, h2, h3⟩ := chain_done hS hI s16 e1 e2 (pos c) c [(at_ best k).spot] g.lt g.dn (Nat.le_refl _) (by simp; omega)
    refine ⟨l ++ [(at_ best k).spot], by rw [h1]; simp, ?_, by simp; omega⟩
    rw [hb, hl]
    exact .snoc h2 g.ne hE

/-- The steps that are left at a spot. -/
def XS (nx : Route_spot → Int → Option (Route_spot × Int)) (kp : Nat) (sp : Route_spot) (m : Int) : Nat → Route_spot → Int → Int → Prop :=
  fun k p b l => k = kp ∧ ∃ side, m ≤ side ∧ side ≤ 4 ∧ side ≠ backS sp.side ∧ nx sp side = some (p, l) ∧ b = if side = sp.side then 0 else 1

theorem Inv.weak {best : RL} {came : List Int} {known : List Bool} {qu : RL} {done : List Bool} {pos : Nat → Nat} {X Y : Nat → Route_spot → Int → Int → Prop} (hI : Inv s nx fr to best came known qu done pos X) (h : ∀ k p b l, X k p b l → Y k p b l) :
    Inv s nx fr to best came known qu done pos Y := { hI with de := fun k k1 k2 p b l he hx => hI.de k k1 k2 p b l he (fun hX => hx (h _ _ _ _ hX)) }

/-- One spot's steps. -/
theorem sides_eq (hS : Sea s nx) {done : List Bool} {pos : Nat → Nat} {r3 : Route_reached × List Route_reached} {kp : Nat} (hkp : kp < NN s) (hd : gx done (kp : Int) = true) (hsp : InS s r3.1.spot)
    (hkb : r3.1.bends + 1 ≤ (cnt done : Int) ∧ r3.1.long + 2000000 ≤ (cnt done : Int) * 2000000) (hk0 : 0 ≤ r3.1.bends ∧ 0 ≤ r3.1.long) (hcnt : cnt done ≤ 4000000)
    {K : Nat} (hK : K ≤ 1000000000) {best0 : RL} {came0 : List Int} {known0 : List Bool} {qu0 : RL} (hI0 : Inv s nx fr to best0 came0 known0 qu0 done pos (XS nx kp r3.1.spot 1)) (hr0 : at_ best0 kp = r3.1) (hmax0 : ∀ k, k < NN s → gx done (k : Int) = true → le2 (at_ best0 k) r3.1) (hq0 : qu0.length ≤ K) :
    ∃ best came known qu, loop (route_search_find_L3 (kp : Int) r3 s done) (1, best0, came0, known0, qu0) = some (.again (best, came, known, qu, done)) ∧ Inv s nx fr to best came known qu done pos (fun _ _ _ _ => False) ∧ qu.length ≤ K + 4 := by
  obtain ⟨e, he, best, came, known, qu, rfl, h1, h2⟩ := loop_inv (body := route_search_find_L3 (kp : Int) r3 s done) (s0 := ((1 : Int), best0, came0, known0, qu0))
    (fun st => ∃ (m : Nat) (best : RL) (came : List Int) (known : List Bool) (qu : RL), st = ((m : Int), best, came, known, qu) ∧ 1 ≤ m ∧ m ≤ 5 ∧ Inv s nx fr to best came known qu done pos (XS nx kp r3.1.spot (m : Int)) ∧ at_ best kp = r3.1 ∧
      (∀ k, k < NN s → gx done (k : Int) = true → le2 (at_ best k) r3.1) ∧ qu.length + 1 ≤ K + m) (fun st => (5 - st.1).toNat)
    (fun e => ∃ best came known qu, e = .again (best, came, known, qu, done) ∧ Inv s nx fr to best came known qu done pos (fun _ _ _ _ => False) ∧ qu.length ≤ K + 4)
    ⟨1, best0, came0, known0, qu0, rfl, by omega, by omega, hI0, hr0, hmax0, by omega⟩ (by
    rintro st ⟨m, best, came, known, qu, rfl, m1, m5, hI, hr, hmax, hq⟩
    unfold route_search_find_L3
    simp only
    by_cases c : m = 5
    · right
      subst c
      refine ⟨_, by rw [decide_eq_false (by omega), cond_false], best, came, known, qu, rfl, hI.weak (fun k p b l ⟨_, side, h1, h2, _⟩ => by omega), by omega⟩
    · left
      rw [decide_eq_true (show ((m : Nat) : Int) ≤ 4 by omega), cond_true, back_eq hsp.s1 hsp.s4, bind_sm]
      have next : ∀ (bb : RL) (cc : List Int) (kk : List Bool) (qq : RL), Inv s nx fr to bb cc kk qq done pos (XS nx kp r3.1.spot ((m : Int) + 1)) → at_ bb kp = r3.1 → (∀ k, k < NN s → gx done (k : Int) = true → le2 (at_ bb k) r3.1) → qq.length ≤ K + m →
          ∃ s', (bnd (W ((m : Int) + 1)) fun side1 => some (Step.again (ρ := Step SixT (Res Unit (List Route_spot × Bool))) (side1, bb, cc, kk, qq))) = some (.again s') ∧ (∃ (m : Nat) (best : RL) (came : List Int) (known : List Bool) (qu : RL), s' = ((m : Int), best, came, known, qu) ∧ 1 ≤ m ∧ m ≤ 5 ∧ Inv s nx fr to best came known qu done pos (XS nx kp r3.1.spot (m : Int)) ∧ at_ best kp = r3.1 ∧
            (∀ k, k < NN s → gx done (k : Int) = true → le2 (at_ best k) r3.1) ∧ qu.length + 1 ≤ K + m) ∧ (5 - s'.1).toNat < (5 - (m : Int)).toNat := fun bb cc kk qq a1 a2 a3 a4 => by
        rw [Wk (by omega) (by omega), bnd_eq]
        refine ⟨_, rfl, ⟨m + 1, bb, cc, kk, qq, by simp, by omega, by omega, ?_, a2, a3, by omega⟩, by simp only; omega⟩
        rw [show (((m + 1 : Nat) : Int)) = (m : Int) + 1 by omega]; exact a1
      by_cases cb : (m : Int) = backS r3.1.spot.side
      · rw [decide_eq_true cb, cond_true, bind_sm]
        refine next best came known qu (hI.weak ?_) hr hmax (by omega)
        rintro k p b l ⟨h1, side, h2, h3, h4, h5⟩
        exact ⟨h1, side, by have : side ≠ (m : Int) := fun e => h4 (e.trans cb)
                            omega, h3, h4, h5⟩
      · rw [decide_eq_false cb, cond_false]
        obtain ⟨r8, hr8, hc⟩ := hS.next r3.1.spot (m : Int) hsp (by omega) (by omega)
        rw [hr8, bind_sm]
        rcases hc with ⟨t, hn⟩ | ⟨t, hn⟩
        · rw [t]
          simp only [Bool.not_true, cond_false]
          have hok := hS.ok _ _ _ _ hsp (by omega) (by omega) hn
          have hj : (bif !decide ((m : Int) = r3.1.spot.side) then (bnd (W (r3.1.bends + 1)) fun bends1 => some bends1) else some r3.1.bends) = some (r3.1.bends + if (m : Int) = r3.1.spot.side then 0 else 1) := by
            by_cases cs : (m : Int) = r3.1.spot.side
            · simp [cs]
            · simp only [cs, decide_false, Bool.not_false, cond_true, if_false, bnd_eq]
              rw [Wk (by omega) (by omega)]
          rw [hj, bind_sm, Wk (by omega) (by omega)]
          have hE : Edge nx to (at_ best kp).spot r8.1 (if (m : Int) = r3.1.spot.side then 0 else 1) r8.2.1 := by
            rw [hr]; exact .inl ⟨(m : Int), by omega, by omega, cb, hn, rfl⟩
          obtain ⟨known', best', came', q', f1, f2, f3, f4⟩ := reach_eq hS hI (r := ⟨r8.1, r3.1.bends + if (m : Int) = r3.1.spot.side then 0 else 1, r3.1.long + r8.2.1⟩) hkp hd hE (by rw [hr]) (by rw [hr]) (by
            refine ⟨?_, ?_, ?_, ?_⟩ <;> simp only <;> (try split) <;> omega) (fun k k1 k2 => by rw [hr]; exact hmax k k1 k2) (by omega)
          rw [f1]
          simp only [bind_sm]
          refine next best' came' known' q' (f2.weak ?_) (by rw [f4 kp hkp hd]; exact hr) (fun k k1 k2 => by rw [f4 k k1 k2]; exact hmax k k1 k2) (by omega)
          rintro k p b l ⟨⟨h1, side, h2, h3, h4, h5, h6⟩, h7⟩
          refine ⟨h1, side, ?_, h3, h4, h5, h6⟩
          by_cases cs : side = (m : Int)
          · exfalso
            subst cs
            rw [hn] at h5
            simp only [Option.some.injEq, Prod.mk.injEq] at h5
            exact h7 ⟨h1, h5.1.symm, h6, h5.2.symm⟩
          · omega
        · rw [t]
          simp only [Bool.not_false, cond_true, bind_sm]
          refine next best came known qu (hI.weak ?_) hr hmax (by omega)
          rintro k p b l ⟨h1, side, h2, h3, h4, h5, h6⟩
          refine ⟨h1, side, ?_, h3, h4, h5, h6⟩
          by_cases cs : side = (m : Int)
          · exfalso; subst cs; rw [hn] at h5; cases h5
          · omega)
  exact ⟨best, came, known, qu, he, h1, h2⟩

/-- Some spot on each way is done, or in the heap, and no worse. -/
theorem frontier (hS : Sea s nx) {best : RL} {came : List Int} {known : List Bool} {qu : RL} {done : List Bool} {pos : Nat → Nat} (hI : Inv s nx fr to best came known qu done pos (fun _ _ _ _ => False)) {l : List Route_spot} {p : Route_spot} {b n : Int} (h : Tr nx fr to l p b n) :
    InS s p ∧ ((gx done ((keyN s p : Nat) : Int) = true ∧ le2 (at_ best (keyN s p)) ⟨p, b, n⟩) ∨ ∃ y ∈ qu, le2 y ⟨p, b, n⟩) := by
  induction h with
  | one =>
    refine ⟨hI.fi, ?_⟩
    rcases hI.kq _ (keyN_lt hI.fi) hI.fk with h | h
    · exact .inl ⟨h, by rw [hI.fb]; exact le2_refl _⟩
    · exact .inr ⟨_, h, by rw [hI.fb]; exact le2_refl _⟩
  | @snoc l p b n q b' n' _ hne hE ih =>
    obtain ⟨hp, ih⟩ := ih
    have hq := edge_in hS hp hI.ti hE
    have hbd := edge_bd hS hp hE
    refine ⟨hq, ?_⟩
    rcases ih with ⟨h1, h2⟩ | ⟨y, h1, h2⟩
    · have hk := keyN_lt hp
      have hsp : (at_ best (keyN s p)).spot = p := by
        obtain ⟨g1, g2, _⟩ := hI.kin _ hk (hI.dk _ hk h1).1
        exact key_inj g1 hp g2
      obtain ⟨g1, g2⟩ := hI.de _ hk h1 q b' n' (by rw [hsp]; exact hE) (fun h => h)
      have g3 : le2 (at_ best (keyN s q)) ⟨q, b + b', n + n'⟩ := le2_trans g2 (by unfold le2 at h2 ⊢; simp only at h2 ⊢; omega)
      rcases hI.kq _ (keyN_lt hq) g1 with h | h
      · exact .inl ⟨h, g3⟩
      · exact .inr ⟨_, h, g3⟩
    · exact .inr ⟨y, h1, le2_trans h2 (by unfold le2; simp only; omega)⟩

end Go.DB
