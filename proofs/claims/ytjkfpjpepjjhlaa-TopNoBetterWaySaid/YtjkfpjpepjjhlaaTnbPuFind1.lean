/-
  A search for the best way, in plain words: what is known, and what is reached.
-/
import Derived.Test.YtjkfpjpepjjhlaaTnbPuHeap
set_option linter.unusedSimpArgs false
set_option linter.unusedVariables false
namespace Go.DB
open Go Go.RowKit

def backS (n : Int) : Int := (n + 1) % 4 + 1
structure InS (s : Route_search) (p : Route_spot) : Prop where
  x0 : 0 ≤ p.x
  x1 : p.x < s.xs.length
  y0 : 0 ≤ p.y
  y1 : p.y < s.ys.length
  s1 : 1 ≤ p.side
  s4 : p.side ≤ 4
def keyS (s : Route_search) (p : Route_spot) : Int := (p.y * (s.xs.length : Int) + p.x) * 4 + p.side - 1
def keyN (s : Route_search) (p : Route_spot) : Nat := (keyS s p).toNat
def NN (s : Route_search) : Nat := s.xs.length * s.ys.length * 4

/-- What a search looks at: which crossing lies to a side, and how far away. -/
structure Sea (s : Route_search) (nx : Route_spot → Int → Option (Route_spot × Int)) : Prop where
  w : s.xs.length ≤ 1000
  h : s.ys.length ≤ 1000
  next : ∀ p side, InS s p → 1 ≤ side → side ≤ 4 → ∃ r, route_search_next s p side = some r ∧ ((r.2.2 = true ∧ nx p side = some (r.1, r.2.1)) ∨ (r.2.2 = false ∧ nx p side = none))
  ok : ∀ p side q l, InS s p → 1 ≤ side → side ≤ 4 → nx p side = some (q, l) → InS s q ∧ q.side = side ∧ 0 < l ∧ l ≤ 2000000

variable {s : Route_search} {nx : Route_spot → Int → Option (Route_spot × Int)} {p q fr to : Route_spot}

theorem NN_le (h : Sea s nx) : NN s ≤ 4000000 := by
  have := Nat.mul_le_mul h.w h.h
  unfold NN; omega
theorem key_in (hp : InS s p) : 0 ≤ keyS s p ∧ keyS s p < NN s := by
  obtain ⟨x0, x1, y0, y1, s1, s4⟩ := hp
  have h1 : 0 ≤ p.y * (s.xs.length : Int) := Int.mul_nonneg y0 (by omega)
  have h2 : (p.y + 1) * (s.xs.length : Int) ≤ (s.ys.length : Int) * (s.xs.length : Int) := Int.mul_le_mul_of_nonneg_right (by omega) (by omega)
  rw [Int.add_mul] at h2
  have e : ((NN s : Nat) : Int) = (s.ys.length : Int) * (s.xs.length : Int) * 4 := by unfold NN; rw [Nat.mul_comm s.xs.length]; simp
  rw [e]
  unfold keyS
  omega
theorem keyN_lt (hp : InS s p) : keyN s p < NN s := by have := key_in hp; unfold keyN; omega
theorem keyN_key (hp : InS s p) : ((keyN s p : Nat) : Int) = keyS s p := by have := key_in hp; unfold keyN; omega
theorem key_inj (hp : InS s p) (hq : InS s q) (h : keyN s p = keyN s q) : p = q := by
  have h : keyS s p = keyS s q := by rw [← keyN_key hp, ← keyN_key hq, h]
  obtain ⟨x0, x1, y0, y1, s1, s4⟩ := hp
  obtain ⟨x0', x1', y0', y1', s1', s4'⟩ := hq
  unfold keyS at h
  have hs : p.side = q.side := by omega
  have ha : p.y * (s.xs.length : Int) + p.x = q.y * (s.xs.length : Int) + q.x := by omega
  have hy : p.y = q.y := by
    rcases Int.lt_trichotomy p.y q.y with c | c | c
    · have := Int.mul_le_mul_of_nonneg_right (a := p.y + 1) (b := q.y) (c := (s.xs.length : Int)) (by omega) (by omega)
      rw [Int.add_mul] at this; omega
    · exact c
    · have := Int.mul_le_mul_of_nonneg_right (a := q.y + 1) (b := p.y) (c := (s.xs.length : Int)) (by omega) (by omega)
      rw [Int.add_mul] at this; omega
  have hx : p.x = q.x := by rw [hy] at ha; omega
  cases p; cases q; simp_all
theorem key_eq (hS : Sea s nx) (hp : InS s p) : route_search_key s p = some ((keyN s p : Nat) : Int) := by
  rw [keyN_key hp]
  have hk := key_in hp
  have := NN_le hS
  obtain ⟨x0, x1, y0, y1, s1, s4⟩ := hp
  have h1 : 0 ≤ p.y * (s.xs.length : Int) := Int.mul_nonneg y0 (by omega)
  have h2 : p.y * (s.xs.length : Int) ≤ 1000 * 1000 := Int.mul_le_mul (by have := hS.h; omega) (by have := hS.w; omega) (by omega) (by omega)
  have := hS.w
  unfold route_search_key
  rw [Wk (n := p.y * (s.xs.length : Int)) (by omega) (by omega), Wk (n := p.y * (s.xs.length : Int) + p.x) (by omega) (by omega), Wk (n := (p.y * (s.xs.length : Int) + p.x) * 4) (by omega) (by omega),
    Wk (n := (p.y * (s.xs.length : Int) + p.x) * 4 + p.side) (by omega) (by omega), Wk (n := (p.y * (s.xs.length : Int) + p.x) * 4 + p.side - 1) (by omega) (by omega)]
  rfl
theorem back_eq {n : Int} (h1 : 1 ≤ n) (h2 : n ≤ 4) : route_back n = some (backS n) := by
  unfold route_back backS
  rw [Wk (n := n + 1) (by omega) (by omega), Int.tmod_eq_emod_of_nonneg (by omega), Wk (by omega) (by omega)]

/-- A step of a way: to the next crossing, or a last bend. -/
def Edge (nx : Route_spot → Int → Option (Route_spot × Int)) (to p q : Route_spot) (b l : Int) : Prop :=
  (∃ side, 1 ≤ side ∧ side ≤ 4 ∧ side ≠ backS p.side ∧ nx p side = some (q, l) ∧ b = if side = p.side then 0 else 1) ∨ (q = to ∧ p.x = to.x ∧ p.y = to.y ∧ p.side ≠ backS to.side ∧ b = 1 ∧ l = 0)
theorem edge_bd (hS : Sea s nx) (hp : InS s p) {b l : Int} (h : Edge nx to p q b l) : 0 ≤ b ∧ b ≤ 1 ∧ 0 ≤ l ∧ l ≤ 2000000 := by
  rcases h with ⟨side, h1, h2, _, h3, h4⟩ | ⟨_, _, _, _, h1, h2⟩
  · obtain ⟨_, _, h5, h6⟩ := hS.ok p side q l hp h1 h2 h3
    split at h4 <;> omega
  · omega
theorem edge_in (hS : Sea s nx) (hp : InS s p) (ht : InS s to) {b l : Int} (h : Edge nx to p q b l) : InS s q := by
  rcases h with ⟨side, h1, h2, _, h3, h4⟩ | ⟨h, _⟩
  · exact (hS.ok p side q l hp h1 h2 h3).1
  · rw [h]; exact ht

/-- A way through spots, its bends and its length. -/
inductive Tr (nx : Route_spot → Int → Option (Route_spot × Int)) (fr to : Route_spot) : List Route_spot → Route_spot → Int → Int → Prop
  | one : Tr nx fr to [fr] fr 0 0
  | snoc {l p b n q b' n'} : Tr nx fr to l p b n → p ≠ to → Edge nx to p q b' n' → Tr nx fr to (l ++ [q]) q (b + b') (n + n')

/-- How many are done. -/
def cnt (done : List Bool) : Nat := done.count true
theorem cnt_le (done : List Bool) : cnt done ≤ done.length := List.count_le_length
theorem cnt_set : ∀ {done : List Bool} {k : Nat}, k < done.length → gx done (k : Int) = false → cnt (done.set k true) = cnt done + 1
  | [], k, h, _ => by simp at h
  | b :: done, 0, h, hf => by
    have : b = false := by simpa [gx] using hf
    subst this
    simp [cnt]
  | b :: done, k + 1, h, hf => by
    have ih := cnt_set (done := done) (k := k) (by simpa using h) (by
      unfold gx at hf ⊢
      simpa using hf)
    simp only [cnt, List.set_cons_succ, List.count_cons] at ih ⊢
    omega

structure Came (s : Route_search) (nx : Route_spot → Int → Option (Route_spot × Int)) (to : Route_spot) (best : RL) (came : List Int) (done : List Bool) (pos : Nat → Nat) (k c : Nat) : Prop where
  lt : c < NN s
  at_ : gx came (k : Int) = (c : Int)
  dn : gx done (c : Int) = true
  ps : gx done (k : Int) = true → pos c < pos k
  ne : (Go.DB.at_ best c).spot ≠ to
  edge : ∃ b l, Edge nx to (Go.DB.at_ best c).spot (Go.DB.at_ best k).spot b l ∧ (Go.DB.at_ best k).bends = (Go.DB.at_ best c).bends + b ∧ (Go.DB.at_ best k).long = (Go.DB.at_ best c).long + l

structure Bd (done : List Bool) (r : Route_reached) : Prop where
  b0 : 0 ≤ r.bends
  b1 : r.bends ≤ (cnt done : Int)
  l0 : 0 ≤ r.long
  l1 : r.long ≤ (cnt done : Int) * 2000000

/-- What a search knows. X: steps that were not looked at yet. -/
structure Inv (s : Route_search) (nx : Route_spot → Int → Option (Route_spot × Int)) (fr to : Route_spot) (best : RL) (came : List Int) (known : List Bool) (q : RL) (done : List Bool) (pos : Nat → Nat) (X : Nat → Route_spot → Int → Int → Prop) : Prop where
  lb : best.length = NN s
  lc : came.length = NN s
  lk : known.length = NN s
  ld : done.length = NN s
  heap : Heap q.length q
  qok : ∀ r ∈ q, InS s r.spot ∧ gx known ((keyN s r.spot : Nat) : Int) = true ∧ le2 (at_ best (keyN s r.spot)) r ∧ Bd done r
  kin : ∀ k, k < NN s → gx known (k : Int) = true → InS s (at_ best k).spot ∧ keyN s (at_ best k).spot = k ∧ Bd done (at_ best k)
  kq : ∀ k, k < NN s → gx known (k : Int) = true → gx done (k : Int) = true ∨ at_ best k ∈ q
  kc : ∀ k, k < NN s → gx known (k : Int) = true → (gx came (k : Int) = -1 ∧ at_ best k = ⟨fr, 0, 0⟩) ∨ ∃ c, Came s nx to best came done pos k c
  dk : ∀ k, k < NN s → gx done (k : Int) = true → gx known (k : Int) = true ∧ pos k < cnt done ∧ (at_ best k).spot ≠ to
  dq : ∀ k, k < NN s → gx done (k : Int) = true → ∀ r ∈ q, le2 (at_ best k) r
  de : ∀ k, k < NN s → gx done (k : Int) = true → ∀ p b l, Edge nx to (at_ best k).spot p b l → ¬ X k p b l → gx known ((keyN s p : Nat) : Int) = true ∧ le2 (at_ best (keyN s p)) ⟨p, (at_ best k).bends + b, (at_ best k).long + l⟩
  fi : InS s fr
  fk : gx known ((keyN s fr : Nat) : Int) = true
  fb : at_ best (keyN s fr) = ⟨fr, 0, 0⟩
  ti : InS s to

theorem gx_setB2 {l : List Bool} {k : Nat} {v : Bool} (hk : k < l.length) (t : Nat) : gx (l.set k v) (t : Int) = if t = k then v else gx l (t : Int) := gx_setH hk t

/-- Something is reached: it is not better than what is known, or it is kept. -/
theorem find1_val (hS : Sea s nx) {r : Route_reached} (hr : InS s r.spot) (by_ : Int) {known : List Bool} {best : RL} {came : List Int} {qu : RL} (lb : best.length = NN s) (lc : came.length = NN s) (lk : known.length = NN s) :
    (gx known ((keyN s r.spot : Nat) : Int) = true ∧ le2 (at_ best (keyN s r.spot)) r → route_search_find_1 r by_ (some s) known best came qu = some (known, best, came, qu)) ∧
    (¬ (gx known ((keyN s r.spot : Nat) : Int) = true ∧ le2 (at_ best (keyN s r.spot)) r) → qu.length < 1073741824 → Heap qu.length qu → ∃ q', route_search_find_1 r by_ (some s) known best came qu = some (known.set (keyN s r.spot) true, best.set (keyN s r.spot) r, came.set (keyN s r.spot) by_, q') ∧
      Heap q'.length q' ∧ q'.length = qu.length + 1 ∧ ∀ y, y ∈ q' ↔ y ∈ qu ∨ y = r) := by
  have hk := keyN_lt hr
  have hcond : ((gx known ((keyN s r.spot : Nat) : Int)) && ((decide (((gx best ((keyN s r.spot : Nat) : Int)).bends) < r.bends)) || ((decide (((gx best ((keyN s r.spot : Nat) : Int)).bends) = r.bends)) && (decide (((gx best ((keyN s r.spot : Nat) : Int)).long) ≤ r.long))))) = decide (gx known ((keyN s r.spot : Nat) : Int) = true ∧ le2 (at_ best (keyN s r.spot)) r) := by
    rw [Bool.eq_iff_iff, decide_eq_true_eq]
    unfold le2 at_
    simp
  have ik : inR known ((keyN s r.spot : Nat) : Int) := ⟨by omega, by omega⟩
  have ib : inR best ((keyN s r.spot : Nat) : Int) := ⟨by omega, by omega⟩
  have ic : inR came ((keyN s r.spot : Nat) : Int) := ⟨by omega, by omega⟩
  have start : ∀ {β : Type} (k : Int → Option β), (Option.bind (some s) fun p1 => Option.bind (route_search_key p1 r.spot) k) = k ((keyN s r.spot : Nat) : Int) := fun k => by
    rw [bind_sm, key_eq hS hr, bind_sm]
  constructor
  · intro h
    unfold route_search_find_1
    rw [start, need_of ik, need_of (fun _ => ib), need_of (fun _ _ => ib), need_of (fun _ _ _ => ib), hcond, decide_eq_true h]
    rfl
  · intro h hq hh
    obtain ⟨q', h1, h2, h3, h4⟩ := Push_eq r hq hh
    refine ⟨q', ?_, h2, h3, h4⟩
    unfold route_search_find_1
    rw [start, need_of ik, need_of (fun _ => ib), need_of (fun _ _ => ib), need_of (fun _ _ _ => ib), hcond, decide_eq_false h]
    simp only [cond_false, bnd_eq]
    rw [need_of ib, need_of ic, need_of ik, h1]
    simp only [bind_sm, Int.toNat_natCast]

theorem reach_eq (hS : Sea s nx) {best : RL} {came : List Int} {known : List Bool} {qu : RL} {done : List Bool} {pos : Nat → Nat} {X : Nat → Route_spot → Int → Int → Prop} (hI : Inv s nx fr to best came known qu done pos X)
    {r : Route_reached} {kp : Nat} {b l : Int} (hkp : kp < NN s) (hd : gx done (kp : Int) = true) (hE : Edge nx to (at_ best kp).spot r.spot b l) (hb : r.bends = (at_ best kp).bends + b) (hl : r.long = (at_ best kp).long + l)
    (hbd : Bd done r) (hmax : ∀ k, k < NN s → gx done (k : Int) = true → le2 (at_ best k) (at_ best kp)) (hq : qu.length < 1073741824) :
    ∃ known' best' came' q', route_search_find_1 r (kp : Int) (some s) known best came qu = some (known', best', came', q') ∧ Inv s nx fr to best' came' known' q' done pos (fun k p b' l' => X k p b' l' ∧ ¬ (k = kp ∧ p = r.spot ∧ b' = b ∧ l' = l)) ∧
      q'.length ≤ qu.length + 1 ∧ ∀ k, k < NN s → gx done (k : Int) = true → at_ best' k = at_ best k := by
  have hpin := (hI.kin kp hkp (hI.dk kp hkp hd).1).1
  have hr : InS s r.spot := edge_in hS hpin hI.ti hE
  have hebd := edge_bd hS hpin hE
  obtain ⟨v1, v2⟩ := find1_val hS hr (kp : Int) (qu := qu) hI.lb hI.lc hI.lk
  have hk := keyN_lt hr
  have hle : ∀ k, k < NN s → gx done (k : Int) = true → le2 (at_ best k) r := fun k k1 k2 => by
    have := hmax k k1 k2
    unfold le2 at this ⊢; omega
  by_cases c : gx known ((keyN s r.spot : Nat) : Int) = true ∧ le2 (at_ best (keyN s r.spot)) r
  · refine ⟨known, best, came, qu, v1 c, ?_, by omega, fun _ _ _ => rfl⟩
    refine { hI with de := fun k k1 k2 p b' l' he hx => ?_ }
    by_cases cc : k = kp ∧ p = r.spot ∧ b' = b ∧ l' = l
    · obtain ⟨rfl, rfl, rfl, rfl⟩ := cc
      refine ⟨c.1, ?_⟩
      have := c.2
      unfold le2 at this ⊢
      simp only; omega
    · exact hI.de k k1 k2 p b' l' he (fun hX => hx ⟨hX, cc⟩)
  · obtain ⟨q', h1, h2, h3, h4⟩ := v2 c hq hI.heap
    have nd : gx done ((keyN s r.spot : Nat) : Int) ≠ true := fun hd' => c ⟨(hI.dk _ hk hd').1, hle _ hk hd'⟩
    have atb : ∀ k, at_ (best.set (keyN s r.spot) r) k = if k = keyN s r.spot then r else at_ best k := fun k => gx_setH (by rw [hI.lb]; exact hk) k
    have atk : ∀ k : Nat, gx (known.set (keyN s r.spot) true) (k : Int) = if k = keyN s r.spot then true else gx known (k : Int) := fun k => gx_setB2 (by rw [hI.lk]; exact hk) k
    have atc : ∀ k : Nat, gx (came.set (keyN s r.spot) (kp : Int)) (k : Int) = if k = keyN s r.spot then (kp : Int) else gx came (k : Int) := fun k => gx_setH (by rw [hI.lc]; exact hk) k
    have keep : ∀ k : Nat, gx done (k : Int) = true → at_ (best.set (keyN s r.spot) r) k = at_ best k := fun k hd' => by
      have hne : k ≠ keyN s r.spot := fun e => nd (by rw [← e]; exact hd')
      rw [atb, if_neg hne]
    have lower : ∀ k : Nat, gx known (k : Int) = true → le2 (at_ (best.set (keyN s r.spot) r) k) (at_ best k) := fun k hk' => by
      rw [atb]
      by_cases e : k = keyN s r.spot
      · rw [if_pos e]
        subst e
        exact lt2_le (Classical.byContradiction fun hn => c ⟨hk', not_lt2.1 hn⟩)
      · rw [if_neg e]; exact le2_refl _
    have more : ∀ k : Nat, gx known (k : Int) = true → gx (known.set (keyN s r.spot) true) (k : Int) = true := fun k hk' => by
      rw [atk]; split
      · rfl
      · exact hk'
    refine ⟨_, _, _, q', h1, ?_, by omega, fun k _ hd' => keep k hd'⟩
    refine ⟨by rw [List.length_set]; exact hI.lb, by rw [List.length_set]; exact hI.lc, by rw [List.length_set]; exact hI.lk, hI.ld, h2, ?_, ?_, ?_, ?_, ?_, ?_, ?_, hI.fi, more _ hI.fk, ?_, hI.ti⟩
    · intro y hy
      rcases (h4 y).1 hy with hy | rfl
      · obtain ⟨a1, a2, a3, a4⟩ := hI.qok y hy
        exact ⟨a1, more _ a2, le2_trans (lower _ a2) a3, a4⟩
      · exact ⟨hr, by rw [atk, if_pos rfl], by rw [atb, if_pos rfl]; exact le2_refl _, hbd⟩
    · intro k k1 k2
      rw [atb]
      by_cases e : k = keyN s r.spot
      · rw [if_pos e]; exact ⟨hr, e.symm, hbd⟩
      · rw [if_neg e]
        rw [atk, if_neg e] at k2
        exact hI.kin k k1 k2
    · intro k k1 k2
      rw [atb]
      by_cases e : k = keyN s r.spot
      · rw [if_pos e]; exact .inr ((h4 r).2 (.inr rfl))
      · rw [if_neg e]
        rw [atk, if_neg e] at k2
        exact (hI.kq k k1 k2).imp id (fun h => (h4 _).2 (.inl h))
    · intro k k1 k2
      by_cases e : k = keyN s r.spot
      · right
        subst e
        refine ⟨kp, hkp, by rw [atc, if_pos rfl], hd, fun hd' => absurd hd' nd, ?_, b, l, ?_, ?_, ?_⟩
        · rw [keep kp hd]; exact (hI.dk kp hkp hd).2.2
        · rw [keep kp hd, atb, if_pos rfl]; exact hE
        · rw [keep kp hd, atb, if_pos rfl]; exact hb
        · rw [keep kp hd, atb, if_pos rfl]; exact hl
      · rw [atk, if_neg e] at k2
        rcases hI.kc k k1 k2 with ⟨g1, g2⟩ | ⟨c', g⟩
        · exact .inl ⟨by rw [atc, if_neg e]; exact g1, by rw [atb, if_neg e]; exact g2⟩
        · refine .inr ⟨c', g.lt, by rw [atc, if_neg e]; exact g.at_, g.dn, g.ps, by rw [keep _ g.dn]; exact g.ne, ?_⟩
          rw [keep _ g.dn, atb, if_neg e]
          exact g.edge
    · intro k k1 k2
      obtain ⟨g1, g2, g3⟩ := hI.dk k k1 k2
      exact ⟨more _ g1, g2, by rw [keep k k2]; exact g3⟩
    · intro k k1 k2 y hy
      rw [keep k k2]
      rcases (h4 y).1 hy with hy | rfl
      · exact hI.dq k k1 k2 y hy
      · exact hle k k1 k2
    · intro k k1 k2 p b' l' he hx
      rw [keep k k2] at he ⊢
      by_cases cc : k = kp ∧ p = r.spot ∧ b' = b ∧ l' = l
      · obtain ⟨rfl, rfl, rfl, rfl⟩ := cc
        refine ⟨by rw [atk, if_pos rfl], ?_⟩
        rw [atb, if_pos rfl]
        unfold le2; simp only; omega
      · obtain ⟨g1, g2⟩ := hI.de k k1 k2 p b' l' he (fun hX => hx ⟨hX, cc⟩)
        exact ⟨more _ g1, le2_trans (lower _ g1) g2⟩
    · rw [atb]
      by_cases e : keyN s fr = keyN s r.spot
      · exfalso
        refine c ⟨e ▸ hI.fk, ?_⟩
        rw [← e, hI.fb]
        have := hbd.b0; have := hbd.l0
        unfold le2; simp only; omega
      · rw [if_neg e]; exact hI.fb

end Go.DB
