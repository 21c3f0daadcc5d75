/-
  A search for the best way, in plain words: what it finds.
-/
import Derived.Test.YtjkfpjpepjjhlaaTnbPuFind2
set_option linter.unusedSimpArgs false
set_option linter.unusedVariables false
namespace Go.DB
open Go Go.RowKit

variable {s : Route_search} {nx : Route_spot → Int → Option (Route_spot × Int)} {p q fr to : Route_spot}

theorem Inv.weakE {best : RL} {came : List Int} {known : List Bool} {qu : RL} {done : List Bool} {pos : Nat → Nat} {X Y : Nat → Route_spot → Int → Int → Prop} (hI : Inv s nx fr to best came known qu done pos X)
    (h : ∀ k p b l, gx done ((k : Nat) : Int) = true → Edge nx to (at_ best k).spot p b l → X k p b l → Y k p b l) : Inv s nx fr to best came known qu done pos Y :=
  { hI with de := fun k k1 k2 p b l he hx => hI.de k k1 k2 p b l he (fun hX => hx (h _ _ _ _ k2 he hX)) }

/-- What was popped is known already. -/
theorem pop_old {best : RL} {came : List Int} {known : List Bool} {qu : RL} {done : List Bool} {pos : Nat → Nat} (hI : Inv s nx fr to best came known qu done pos (fun _ _ _ _ => False)) {r : Route_reached} {rest : RL} (hh : Heap rest.length rest) (h1 : r ∈ qu) (h2 : ∀ y ∈ rest, y ∈ qu) (h3 : ∀ y ∈ qu, y = r ∨ y ∈ rest)
    (hd : gx done ((keyN s r.spot : Nat) : Int) = true) : Inv s nx fr to best came known rest done pos (fun _ _ _ _ => False) :=
  { hI with
    heap := hh
    qok := fun y hy => hI.qok y (h2 y hy)
    kq := fun k k1 k2 => by
      rcases hI.kq k k1 k2 with h | h
      · exact .inl h
      · rcases h3 _ h with e | e
        · left
          have := (hI.kin k k1 k2).2.1
          rw [e] at this
          rw [← this]; exact hd
        · exact .inr e
    dq := fun k k1 k2 y hy => hI.dq k k1 k2 y (h2 y hy) }

/-- What was popped becomes done. -/
theorem pop_new {best : RL} {came : List Int} {known : List Bool} {qu : RL} {done : List Bool} {pos : Nat → Nat} (hI : Inv s nx fr to best came known qu done pos (fun _ _ _ _ => False)) {r : Route_reached} {rest : RL} (hh : Heap rest.length rest) (h1 : r ∈ qu) (hmin : ∀ y ∈ qu, le2 r y) (h2 : ∀ y ∈ rest, y ∈ qu) (h3 : ∀ y ∈ qu, y = r ∨ y ∈ rest)
    (hd : gx done ((keyN s r.spot : Nat) : Int) ≠ true) (hne : r.spot ≠ to) :
    at_ best (keyN s r.spot) = r ∧ ∃ pos', Inv s nx fr to best came known rest (done.set (keyN s r.spot) true) pos' (fun k _ _ _ => k = keyN s r.spot) ∧ (∀ k, k < NN s → gx (done.set (keyN s r.spot) true) (k : Int) = true → le2 (at_ best k) r) := by
  obtain ⟨g1, g2, g3, g4⟩ := hI.qok r h1
  have hk := keyN_lt g1
  obtain ⟨a1, a2, a3⟩ := hI.kin _ hk g2
  have hbq : at_ best (keyN s r.spot) ∈ qu := (hI.kq _ hk g2).resolve_left hd
  have heq : at_ best (keyN s r.spot) = r := by
    have e1 := key_inj a1 g1 a2
    have e2 := hmin _ hbq
    unfold le2 at e2 g3
    generalize at_ best (keyN s r.spot) = z at *
    cases z; cases r
    simp only [Route_reached.mk.injEq] at *
    exact ⟨e1, by omega, by omega⟩
  have hdl : keyN s r.spot < done.length := by rw [hI.ld]; exact hk
  have hf : gx done ((keyN s r.spot : Nat) : Int) = false := by simpa using hd
  have hc : cnt (done.set (keyN s r.spot) true) = cnt done + 1 := cnt_set hdl hf
  have atd : ∀ k : Nat, gx (done.set (keyN s r.spot) true) (k : Int) = if k = keyN s r.spot then true else gx done (k : Int) := fun k => gx_setB2 hdl k
  have old : ∀ k : Nat, gx done (k : Int) = true → k ≠ keyN s r.spot := fun k h e => hd (by rw [← e]; exact h)
  have mono : ∀ k : Nat, gx done (k : Int) = true → gx (done.set (keyN s r.spot) true) (k : Int) = true := fun k h => by rw [atd, if_neg (old k h)]; exact h
  have bd : ∀ y, Bd done y → Bd (done.set (keyN s r.spot) true) y := fun y hy => by
    obtain ⟨b0, b1, l0, l1⟩ := hy
    refine ⟨b0, by rw [hc]; omega, l0, by rw [hc]; omega⟩
  refine ⟨heq, fun k => if k = keyN s r.spot then cnt done else pos k, ?_, ?_⟩
  · refine ⟨hI.lb, hI.lc, hI.lk, by rw [List.length_set]; exact hI.ld, hh, fun y hy => ?_, fun k k1 k2 => ?_, fun k k1 k2 => ?_, fun k k1 k2 => ?_, fun k k1 k2 => ?_, fun k k1 k2 y hy => ?_, fun k k1 k2 p b l he hx => ?_, hI.fi, hI.fk, hI.fb, hI.ti⟩
    · obtain ⟨b1, b2, b3, b4⟩ := hI.qok y (h2 y hy)
      exact ⟨b1, b2, b3, bd _ b4⟩
    · obtain ⟨b1, b2, b3⟩ := hI.kin k k1 k2
      exact ⟨b1, b2, bd _ b3⟩
    · by_cases e : k = keyN s r.spot
      · left; rw [atd, if_pos e]
      · rcases hI.kq k k1 k2 with h | h
        · exact .inl (mono k h)
        · rcases h3 _ h with e2 | e2
          · exfalso
            have := (hI.kin k k1 k2).2.1
            rw [e2] at this
            exact e this.symm
          · exact .inr e2
    · rcases hI.kc k k1 k2 with h | ⟨c, g⟩
      · exact .inl h
      · have hc1 := (hI.dk c g.lt g.dn).2.1
        have hcn := old c g.dn
        refine .inr ⟨c, g.lt, g.at_, mono c g.dn, fun hd' => ?_, g.ne, g.edge⟩
        rw [if_neg hcn]
        by_cases e : k = keyN s r.spot
        · rw [if_pos e]; exact hc1
        · rw [if_neg e]
          rw [atd, if_neg e] at hd'
          exact g.ps hd'
    · by_cases e : k = keyN s r.spot
      · subst e
        rw [if_pos rfl, hc, heq]
        exact ⟨g2, by omega, hne⟩
      · rw [if_neg e, hc]
        rw [atd, if_neg e] at k2
        obtain ⟨b1, b2, b3⟩ := hI.dk k k1 k2
        exact ⟨b1, by omega, b3⟩
    · by_cases e : k = keyN s r.spot
      · subst e
        rw [heq]; exact hmin y (h2 y hy)
      · rw [atd, if_neg e] at k2
        exact hI.dq k k1 k2 y (h2 y hy)
    · by_cases e : k = keyN s r.spot
      · exact absurd e hx
      · rw [atd, if_neg e] at k2
        exact hI.de k k1 k2 p b l he (fun h => h)
  · intro k k1 k2
    by_cases e : k = keyN s r.spot
    · subst e; rw [heq]; exact le2_refl _
    · rw [atd, if_neg e] at k2
      exact hI.dq k k1 k2 r h1

/-- What a search may give. -/
def Gives_ (nx : Route_spot → Int → Option (Route_spot × Int)) (fr to : Route_spot) (e : List Route_spot × Bool) : Prop :=
  (e = ([], false) ∧ ∀ l b n, ¬ Tr nx fr to l to b n) ∨ ∃ way b n, e = (way, true) ∧ Tr nx fr to way to b n ∧ way.length ≤ 4000002 ∧ ∀ l' b' n', Tr nx fr to l' to b' n' → b < b' ∨ (b = b' ∧ n ≤ n')

theorem find_loop (hS : Sea s nx) {best0 : RL} {came0 : List Int} {known0 : List Bool} {qu0 : RL} {done0 : List Bool} {pos0 : Nat → Nat} (hI0 : Inv s nx fr to best0 came0 known0 qu0 done0 pos0 (fun _ _ _ _ => False)) (hq0 : qu0.length ≤ 1 + 4 * cnt done0) :
    ∃ e, loop (route_search_find_L1 s to) (best0, came0, known0, qu0, done0) = some e ∧ ((e = .nx () ∧ ∀ l b n, ¬ Tr nx fr to l to b n) ∨ ∃ way b n, e = .ab (way, true) ∧ Tr nx fr to way to b n ∧ way.length ≤ 4000002 ∧ ∀ l' b' n', Tr nx fr to l' to b' n' → b < b' ∨ (b = b' ∧ n ≤ n')) := by
  have hN := NN_le hS
  refine loop_inv (body := route_search_find_L1 s to) (s0 := (best0, came0, known0, qu0, done0))
    (fun st => ∃ (best : RL) (came : List Int) (known : List Bool) (qu : RL) (done : List Bool) (pos : Nat → Nat), st = (best, came, known, qu, done) ∧ Inv s nx fr to best came known qu done pos (fun _ _ _ _ => False) ∧ qu.length ≤ 1 + 4 * cnt done)
    (fun st => 5 * (NN s - cnt st.2.2.2.2) + st.2.2.2.1.length) _ ⟨best0, came0, known0, qu0, done0, pos0, rfl, hI0, hq0⟩ ?_
  rintro st ⟨best, came, known, qu, done, pos, rfl, hI, hq⟩
  have hcl := cnt_le done
  rw [hI.ld] at hcl
  -- where one has come to the end
  have hto : ∀ {r : Route_reached} (h1 : r ∈ qu) (hmin : ∀ y ∈ qu, le2 r y), r.spot = to → ∀ l' b' n', Tr nx fr to l' to b' n' → r.bends < b' ∨ (r.bends = b' ∧ r.long ≤ n') := by
    intro r h1 hmin hrt l' b' n' htr
    obtain ⟨hp, h⟩ := frontier hS hI htr
    rcases h with ⟨g1, _⟩ | ⟨y, g1, g2⟩
    · exfalso
      obtain ⟨k1, _, k3⟩ := hI.dk _ (keyN_lt hp) g1
      obtain ⟨c1, c2, _⟩ := hI.kin _ (keyN_lt hp) k1
      exact k3 (key_inj c1 hp c2)
    · have := le2_trans (hmin y g1) g2
      unfold le2 at this
      exact this
  unfold route_search_find_L1 route_queue_Len
  simp only [bind_sm]
  by_cases c0 : qu.length = 0
  · right
    refine ⟨_, by rw [decide_eq_false (by omega), cond_false], .inl ⟨rfl, fun l b n htr => ?_⟩⟩
    obtain ⟨hp, h⟩ := frontier hS hI htr
    rcases h with ⟨g1, _⟩ | ⟨y, g1, _⟩
    · obtain ⟨k1, _, k3⟩ := hI.dk _ (keyN_lt hp) g1
      obtain ⟨c1, c2, _⟩ := hI.kin _ (keyN_lt hp) k1
      exact k3 (key_inj c1 hp c2)
    · rw [List.length_eq_zero_iff.1 c0] at g1; cases g1
  · rw [decide_eq_true (show (0 : Int) < (qu.length : Int) by omega), cond_true]
    obtain ⟨⟨r, rest⟩, e1, e2, e3, e4, e5, e6, e7⟩ := Pop_eq (by omega) (by omega) hI.heap
    simp only at e1 e2 e3 e4 e5 e6 e7
    rw [e1, bind_sm]
    obtain ⟨g1, g2, g3, g4⟩ := hI.qok r e4
    have hk := keyN_lt g1
    simp only
    have idn : inR done ((keyN s r.spot : Nat) : Int) := ⟨by omega, by rw [hI.ld]; omega⟩
    rw [key_eq hS g1, bind_sm, need_of idn]
    by_cases hd : gx done ((keyN s r.spot : Nat) : Int) = true
    · left
      rw [hd, cond_true]
      exact ⟨_, rfl, ⟨best, came, known, rest, done, pos, rfl, pop_old hI e2 e4 e6 e7 hd, by omega⟩, by simp only; omega⟩
    · rw [show gx done ((keyN s r.spot : Nat) : Int) = false by simpa using hd, cond_false, need_of idn, bnd_eq]
      by_cases ct : r.spot = to
      · right
        rw [decide_eq_true ct, cond_true]
        have heq : at_ best (keyN s r.spot) = r := by
          have hbq : at_ best (keyN s r.spot) ∈ qu := (hI.kq _ hk g2).resolve_left hd
          obtain ⟨a1, a2, a3⟩ := hI.kin _ hk g2
          have f1 := key_inj a1 g1 a2
          have f2 := e5 _ hbq
          unfold le2 at f2 g3
          generalize at_ best (keyN s r.spot) = z at *
          cases z; cases r
          simp only [Route_reached.mk.injEq] at *
          exact ⟨f1, by omega, by omega⟩
        obtain ⟨l, h1, h2, h3⟩ := chain_any hS hI (best, came, known, qu, done) rfl rfl hk g2
        rw [h1, bind_sm, ReverseS_eq (by simp; omega), bind_sm, List.reverse_reverse]
        rw [heq] at h2
        refine ⟨_, rfl, .inr ⟨l, r.bends, r.long, rfl, ?_, h3, hto e4 e5 ct⟩⟩
        rw [← ct] at h2 ⊢; exact h2
      · left
        rw [decide_eq_false ct, cond_false, bindR_nx]
        obtain ⟨heq, pos', hI2, hmax⟩ := pop_new hI e2 e4 e5 e6 e7 hd ct
        have hdl : keyN s r.spot < done.length := by rw [hI.ld]; exact hk
        have hf : gx done ((keyN s r.spot : Nat) : Int) = false := by simpa using hd
        have hc : cnt (done.set (keyN s r.spot) true) = cnt done + 1 := cnt_set hdl hf
        have hcl2 := cnt_le (done.set (keyN s r.spot) true)
        rw [hI2.ld] at hcl2
        have hd2 : gx (done.set (keyN s r.spot) true) ((keyN s r.spot : Nat) : Int) = true := by rw [gx_setB2 hdl, if_pos rfl]
        rw [Int.toNat_natCast]
        -- the last bend
        obtain ⟨best1, came1, known1, qu1, f0, f1, f2, f3, f4⟩ : ∃ best1 came1 known1 qu1, (Option.bind (gd (((decide (r.spot.x = to.x)) && (decide (r.spot.y = to.y)))) (route_back to.side)) fun r5 =>
            (bif ((decide (r.spot.x = to.x)) && (decide (r.spot.y = to.y))) && (!decide (r.spot.side = r5)) then (
              Option.bind (route_search_find_1 (⟨to, W (r.bends + 1), r.long⟩ : Route_reached) ((keyN s r.spot : Nat) : Int) (some s) known best came rest) fun r6 => some (r6.2.1, r6.2.2.1, r6.1, r6.2.2.2))
             else some (best, came, known, rest))) = some (best1, came1, known1, qu1) ∧ Inv s nx fr to best1 came1 known1 qu1 (done.set (keyN s r.spot) true) pos' (XS nx (keyN s r.spot) r.spot 1) ∧ at_ best1 (keyN s r.spot) = r ∧ (∀ k, k < NN s → gx (done.set (keyN s r.spot) true) (k : Int) = true → le2 (at_ best1 k) r) ∧ qu1.length ≤ rest.length + 1 := by
          have ht := hI.ti
          by_cases cx : r.spot.x = to.x ∧ r.spot.y = to.y
          · rw [decide_eq_true cx.1, decide_eq_true cx.2, Bool.true_and, gd_true, back_eq ht.s1 ht.s4, bind_sm, Bool.true_and]
            by_cases cs : r.spot.side = backS to.side
            · refine ⟨best, came, known, rest, by rw [decide_eq_true cs]; rfl, hI2.weakE ?_, heq, hmax, by omega⟩
              rintro k p b l _ he rfl
              rw [heq] at he
              rcases he with ⟨side, s1, s4, h5, h6, h7⟩ | ⟨_, _, _, h5, _⟩
              · exact ⟨rfl, side, s1, s4, h5, h6, h7⟩
              · exact absurd cs h5
            · rw [decide_eq_false cs, Bool.not_false, cond_true, Wk (by have := g4.b0; omega) (by have := g4.b1; omega)]
              have hE : Edge nx to (at_ best (keyN s r.spot)).spot to 1 0 := by rw [heq]; exact .inr ⟨rfl, cx.1, cx.2, cs, rfl, rfl⟩
              obtain ⟨known', best', came', q', y1, y2, y3, y4⟩ := reach_eq hS hI2 (r := ⟨to, r.bends + 1, r.long⟩) hk hd2 hE (by rw [heq]) (by rw [heq]; simp) (by
                obtain ⟨b0, b1, l0, l1⟩ := g4
                refine ⟨by simp only; omega, by rw [hc]; simp only; omega, by simp only; omega, by rw [hc]; simp only; omega⟩) (fun k k1 k2 => by rw [heq]; exact hmax k k1 k2) (by omega)
              rw [y1, bind_sm]
              refine ⟨best', came', known', q', rfl, y2.weakE ?_, by rw [y4 _ hk hd2]; exact heq, fun k k1 k2 => by rw [y4 k k1 k2]; exact hmax k k1 k2, y3⟩
              rintro k p b l hkd he ⟨rfl, hx⟩
              rw [y4 _ hk hd2, heq] at he
              rcases he with ⟨side, s1, s4, h5, h6, h7⟩ | ⟨h5, _, _, _, h6, h7⟩
              · exact ⟨rfl, side, s1, s4, h5, h6, h7⟩
              · exact absurd ⟨rfl, h5, h6, h7⟩ hx
          · have hb : (decide (r.spot.x = to.x) && decide (r.spot.y = to.y)) = false := by
              rw [Bool.eq_false_iff]; simpa using cx
            rw [hb, gd_false, bind_sm, Bool.false_and, cond_false]
            refine ⟨best, came, known, rest, rfl, hI2.weakE ?_, heq, hmax, by omega⟩
            rintro k p b l _ he rfl
            rw [heq] at he
            rcases he with ⟨side, s1, s4, h5, h6, h7⟩ | ⟨_, h5, h6, _⟩
            · exact ⟨rfl, side, s1, s4, h5, h6, h7⟩
            · exact absurd ⟨h5, h6⟩ cx
        obtain ⟨best2, came2, known2, qu2, z1, z2, z3⟩ := sides_eq hS (r3 := (r, rest)) (K := rest.length + 1) hk hd2 g1 (by
          obtain ⟨b0, b1, l0, l1⟩ := g4
          rw [hc]; simp only; omega) ⟨g4.b0, g4.l0⟩ (by omega) (by omega) f1 f2 f3 f4
        refine ⟨(best2, came2, known2, qu2, done.set (keyN s r.spot) true), ?_, ⟨best2, came2, known2, qu2, _, pos', rfl, z2, by rw [hc]; omega⟩, by simp only; rw [hc]; omega⟩
        cases hA : gd ((decide (r.spot.x = to.x)) && (decide (r.spot.y = to.y))) (route_back to.side) with
        | none => rw [hA] at f0; cases f0
        | some r5 =>
          rw [hA, bind_sm] at f0
          rw [bind_sm, f0, bind_sm]
          exact z1

/-- The search, whole. -/
theorem find_eq (hS : Sea s nx) (hf : InS s fr) (ht : InS s to) : ∃ e, route_search_find s fr to = some e ∧ Gives_ nx fr to e := by
  have hN := NN_le hS
  have hw := hS.w; have hh := hS.h
  have hNN : ((s.xs.length : Int) * (s.ys.length : Int)) * 4 = ((NN s : Nat) : Int) := by unfold NN; simp
  have hm : 0 ≤ (s.xs.length : Int) * (s.ys.length : Int) := Int.mul_nonneg (by omega) (by omega)
  unfold route_search_find
  simp only [bnd_eq]
  rw [Wk (n := (s.xs.length : Int) * (s.ys.length : Int)) (by omega) (by omega), hNN, Wk (n := ((NN s : Nat) : Int)) (by omega) (by omega)]
  simp only [Int.toNat_natCast, List.length_replicate]
  rw [need_of ⟨by omega, by omega, by omega⟩, need_of ⟨by omega, by omega, by omega⟩, need_of ⟨by omega, by omega, by omega⟩, need_of ⟨by omega, by omega, by omega⟩]
  have hk := keyN_lt hf
  have rep : ∀ (k : Nat), gx (List.replicate (NN s) false) (k : Int) = false := fun k => by
    unfold gx
    rw [Int.toNat_natCast, List.getElem?_replicate]
    split <;> rfl
  obtain ⟨_, v2⟩ := find1_val hS (r := ⟨fr, 0, 0⟩) hf (-1) (known := List.replicate (NN s) false) (best := List.replicate (NN s) (⟨(⟨(0 : Int), (0 : Int), (0 : Int)⟩ : Route_spot), (0 : Int), (0 : Int)⟩ : Route_reached)) (came := List.replicate (NN s) (0 : Int)) (qu := []) (by simp) (by simp) (by simp)
  obtain ⟨q', h1, h2, h3, h4⟩ := v2 (by rw [rep]; simp) (by simp) (fun k k0 kn => by simp at kn)
  rw [h1, bind_sm]
  simp only
  have atk : ∀ k : Nat, gx ((List.replicate (NN s) false).set (keyN s fr) true) (k : Int) = if k = keyN s fr then true else false := fun k => by
    rw [gx_setB2 (by simpa using hk), rep]
  have kno : ∀ k : Nat, gx ((List.replicate (NN s) false).set (keyN s fr) true) (k : Int) = true → k = keyN s fr := fun k h => by
    rw [atk] at h
    by_cases e : k = keyN s fr
    · exact e
    · rw [if_neg e] at h; cases h
  have atb : at_ ((List.replicate (NN s) (⟨(⟨(0 : Int), (0 : Int), (0 : Int)⟩ : Route_spot), (0 : Int), (0 : Int)⟩ : Route_reached)).set (keyN s fr) ⟨fr, 0, 0⟩) (keyN s fr) = ⟨fr, 0, 0⟩ := by
    unfold at_
    rw [gx_setH (by simpa using hk), if_pos rfl]
  have hbd : Bd (List.replicate (NN s) false) ⟨fr, 0, 0⟩ := ⟨by simp, by simp only; omega, by simp, by simp only; omega⟩
  have hI : Inv s nx fr to ((List.replicate (NN s) (⟨(⟨(0 : Int), (0 : Int), (0 : Int)⟩ : Route_spot), (0 : Int), (0 : Int)⟩ : Route_reached)).set (keyN s fr) ⟨fr, 0, 0⟩) ((List.replicate (NN s) (0 : Int)).set (keyN s fr) (-1)) ((List.replicate (NN s) false).set (keyN s fr) true) q' (List.replicate (NN s) false) (fun _ => 0) (fun _ _ _ _ => False) := by
    refine ⟨by simp, by simp, by simp, by simp, h2, fun r hr => ?_, fun k k1 k2 => ?_, fun k k1 k2 => ?_, fun k k1 k2 => ?_, fun k k1 k2 => ?_, fun k k1 k2 => ?_, fun k k1 k2 => ?_, hf, ?_, atb, ht⟩
    · have : r = ⟨fr, 0, 0⟩ := by simpa using (h4 r).1 hr
      subst this
      exact ⟨hf, by rw [atk, if_pos rfl], by rw [atb]; exact le2_refl _, hbd⟩
    · obtain rfl := kno k k2
      rw [atb]; exact ⟨hf, rfl, hbd⟩
    · obtain rfl := kno k k2
      rw [atb]; exact .inr ((h4 _).2 (.inr rfl))
    · obtain rfl := kno k k2
      exact .inl ⟨by rw [gx_setH (by simpa using hk), if_pos rfl], atb⟩
    · rw [rep] at k2; cases k2
    · rw [rep] at k2; cases k2
    · rw [rep] at k2; cases k2
    · rw [atk, if_pos rfl]
  obtain ⟨e, he, hc⟩ := find_loop hS hI (by rw [h3]; simp)
  rw [he]
  rcases hc with ⟨rfl, h⟩ | ⟨way, b, n, rfl, h⟩
  · exact ⟨_, rfl, .inl ⟨rfl, h⟩⟩
  · exact ⟨_, rfl, .inr ⟨way, b, n, rfl, h⟩⟩

end Go.DB
