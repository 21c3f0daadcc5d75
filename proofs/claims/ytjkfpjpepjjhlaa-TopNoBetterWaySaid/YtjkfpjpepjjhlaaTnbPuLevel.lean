/-
  Ways on a net of crossings: the least number of bends is bounded by the number of corners.
-/
set_option linter.unusedSimpArgs false
set_option linter.unusedVariables false
namespace Go.DB.Lev

inductive Dir
  | no | ea | so | we
  deriving DecidableEq
abbrev Pos := Int × Int
def dx : Dir → Int
  | .ea => 1
  | .we => -1
  | _ => 0
def dy : Dir → Int
  | .no => -1
  | .so => 1
  | _ => 0
def opp : Dir → Dir
  | .no => .so
  | .so => .no
  | .we => .ea
  | .ea => .we
def perp (a b : Dir) : Prop := a ≠ b ∧ a ≠ opp b
def mv (p : Pos) (d : Dir) (k : Int) : Pos := (p.1 + k * dx d, p.2 + k * dy d)
theorem opp_opp (d : Dir) : opp (opp d) = d := by cases d <;> rfl
theorem perp_symm {a b : Dir} (h : perp a b) : perp b a := by
  revert h; unfold perp; cases a <;> cases b <;> decide
theorem perp_opp {a b : Dir} (h : perp a b) : perp (opp a) b := by
  revert h; unfold perp; cases a <;> cases b <;> decide
theorem perp_opp' {a b : Dir} (h : perp a b) : perp a (opp b) := by
  revert h; unfold perp; cases a <;> cases b <;> decide
theorem perp_two {a b c : Dir} (h : perp a b) (h' : perp a c) : b = c ∨ b = opp c := by
  revert h h'; unfold perp; cases a <;> cases b <;> cases c <;> decide
theorem mv_mv (p : Pos) (d : Dir) (a b : Int) : mv (mv p d a) d b = mv p d (a + b) := by
  unfold mv; cases d <;> simp [dx, dy] <;> omega
theorem mv_opp (p : Pos) (d : Dir) (k : Int) : mv p (opp d) k = mv p d (-k) := by
  unfold mv; cases d <;> simp [dx, dy, opp]
theorem mv_zero (p : Pos) (d : Dir) : mv p d 0 = p := by
  unfold mv; simp
theorem mv_comm (p : Pos) (d e : Dir) (a b : Int) : mv (mv p d a) e b = mv (mv p e b) d a := by
  unfold mv; simp only [Prod.mk.injEq]; omega
theorem mv_back {p q : Pos} {d : Dir} {k : Int} (h : q = mv p d k) : p = mv q (opp d) k := by
  rw [h, mv_opp, mv_mv]
  rw [show k + -k = 0 by omega, mv_zero]

/-- A net of crossings with stretches that are free, corners, a start and its heading. -/
structure Net where
  fr : Pos → Dir → Prop
  sym : ∀ p d, fr p d → fr (mv p d 1) (opp d)
  cor : Pos → Dir → Dir → Prop
  cell : ∀ u a e, perp a e → fr u a → fr u e → cor u a e ∨ (fr (mv u a 1) e ∧ fr (mv u e 1) a)
  s : Pos
  g : Dir
/-- A crossing can be reached in a direction with at most so many bends. -/
inductive Net.R (N : Net) : Nat → Pos → Dir → Prop
  | ini (n : Nat) : Net.R N n N.s N.g
  | go {n : Nat} {p : Pos} {d : Dir} : Net.R N n p d → N.fr p d → Net.R N n (mv p d 1) d
  | tn {n : Nat} {p : Pos} {d e : Dir} : Net.R N n p d → perp d e → N.fr p e → Net.R N (n + 1) (mv p e 1) e
theorem Net.R.mono {N : Net} {n : Nat} {p : Pos} {d : Dir} (h : N.R n p d) : ∀ {m : Nat}, n ≤ m → N.R m p d := by
  induction h with
  | ini n => exact fun _ => .ini _
  | go _ f ih => exact fun h => .go (ih h) f
  | tn _ p f ih =>
    intro m h
    obtain ⟨k, rfl⟩ : ∃ k, m = k + 1 := ⟨m - 1, by omega⟩
    exact .tn (ih (by omega)) p f
def Net.Fr (N : Net) (p : Pos) (d : Dir) (k : Nat) : Prop := ∀ t : Nat, t < k → N.fr (mv p d t) d
theorem Net.Fr.one {N : Net} {p : Pos} {d : Dir} {k : Nat} (h : N.Fr p d k) (hk : 0 < k) : N.fr p d := by
  have := h 0 hk
  rwa [show ((0 : Nat) : Int) = 0 from rfl, mv_zero] at this
theorem Net.Fr.sub {N : Net} {p : Pos} {d : Dir} {k : Nat} (h : N.Fr p d k) (a : Nat) {b : Nat} (hb : a + b ≤ k) : N.Fr (mv p d a) d b := fun t ht => by
  rw [mv_mv]
  have := h (a + t) (by omega)
  rwa [show ((a + t : Nat) : Int) = (a : Int) + t by omega] at this
theorem Net.Fr.back {N : Net} {p q : Pos} {d : Dir} {k : Nat} (h : N.Fr p d k) (hq : q = mv p d k) : N.Fr q (opp d) k := fun t ht => by
  have h1 := N.sym _ _ (h (k - 1 - t) (by omega))
  rw [mv_mv] at h1
  rw [hq, mv_opp, mv_mv, show (k : Int) + -(t : Int) = ((k - 1 - t : Nat) : Int) + 1 by omega]
  exact h1
theorem Net.R.run {N : Net} {n : Nat} {p : Pos} {d : Dir} (h : N.R n p d) : ∀ {k : Nat}, N.Fr p d k → N.R n (mv p d k) d
  | 0, _ => by rw [show ((0 : Nat) : Int) = 0 from rfl, mv_zero]; exact h
  | k + 1, f => by
    have h1 := Net.R.run h (k := k) (fun t ht => f t (by omega))
    have h2 := Net.R.go h1 (f k (by omega))
    rwa [mv_mv] at h2
theorem Net.R.turn {N : Net} {n : Nat} {p : Pos} {d e : Dir} (h : N.R n p d) (hp : perp d e) {k : Nat} (hk : 0 < k) (f : N.Fr p e k) : N.R (n + 1) (mv p e k) e := by
  have h1 := Net.R.tn h hp (f.one hk)
  have h2 := h1.run (f.sub 1 (b := k - 1) (by omega))
  rw [mv_mv, show (1 : Int) + ((k - 1 : Nat) : Int) = (k : Int) by omega] at h2
  exact h2
/-- Where the last stretch began. -/
theorem Net.R.entry {N : Net} {n : Nat} {q : Pos} {d : Dir} (h : N.R n q d) :
    (d = N.g ∧ ∃ k : Nat, q = mv N.s d k ∧ N.Fr N.s d k) ∨ ∃ (m : Nat) (r : Pos) (e : Dir) (k : Nat), n = m + 1 ∧ N.R m r e ∧ perp e d ∧ 0 < k ∧ q = mv r d k ∧ N.Fr r d k := by
  induction h with
  | ini n => exact .inl ⟨rfl, 0, by rw [show ((0 : Nat) : Int) = 0 from rfl, mv_zero], fun t ht => by omega⟩
  | go _ f ih =>
    rcases ih with ⟨e, k, h1, h2⟩ | ⟨m, r, e, k, h0, h1, h2, h3, h4, h5⟩
    · refine .inl ⟨e, k + 1, by rw [h1, mv_mv]; rfl, fun t ht => ?_⟩
      by_cases c : t = k
      · subst c; rw [← h1]; exact f
      · exact h2 t (by omega)
    · refine .inr ⟨m, r, e, k + 1, h0, h1, h2, by omega, by rw [h4, mv_mv]; rfl, fun t ht => ?_⟩
      by_cases c : t = k
      · subst c; rw [← h4]; exact f
      · exact h5 t (by omega)
  | tn h0 hp f _ => exact .inr ⟨_, _, _, 1, rfl, h0, hp, by omega, rfl, fun t ht => by
      obtain rfl : t = 0 := by omega
      rw [show ((0 : Nat) : Int) = 0 from rfl, mv_zero]; exact f⟩
/-- The last step. -/
theorem Net.R.prior {N : Net} {n : Nat} {q : Pos} {d : Dir} (h : N.R n q d) :
    (q = N.s ∧ d = N.g) ∨ (∃ p : Pos, q = mv p d 1 ∧ N.fr p d ∧ N.R n p d) ∨ ∃ (m : Nat) (p : Pos) (e : Dir), n = m + 1 ∧ q = mv p d 1 ∧ N.fr p d ∧ N.R m p e ∧ perp e d := by
  cases h with
  | ini n => exact .inl ⟨rfl, rfl⟩
  | go h f => exact .inr (.inl ⟨_, rfl, f, h⟩)
  | tn h p f => exact .inr (.inr ⟨_, _, _, rfl, rfl, f, h, p⟩)

/-- Exactly so many bends. -/
def Net.Ex (N : Net) (n : Nat) (p : Pos) (d : Dir) : Prop := N.R n p d ∧ ∀ m, m < n → ¬ N.R m p d
theorem Net.Ex.uniq {N : Net} {n m : Nat} {p : Pos} {d : Dir} (h : N.Ex n p d) (h' : N.Ex m p d) : n = m := by
  rcases Nat.lt_trichotomy n m with c | c | c
  · exact absurd h.1 (h'.2 n c)
  · exact c
  · exact absurd h'.1 (h.2 m c)
theorem Net.least {N : Net} {n : Nat} {p : Pos} {d : Dir} (h : N.R n p d) : ∃ m, m ≤ n ∧ N.Ex m p d := by
  induction n using Nat.strongRecOn with
  | _ n ih =>
    by_cases c : ∃ m, m < n ∧ N.R m p d
    · obtain ⟨m, h1, h2⟩ := c
      obtain ⟨k, k1, k2⟩ := ih m h1 h2
      exact ⟨k, by omega, k2⟩
    · exact ⟨n, Nat.le_refl _, h, fun m hm hr => c ⟨m, hm, hr⟩⟩
/-- A best way: its bends, and the directions of its stretches. -/
structure Net.Chain (N : Net) (K : Nat) (q : Nat → Pos) (d : Nat → Dir) : Prop where
  ex : ∀ j, j ≤ K → N.Ex j (q j) (d j)
  st : ∀ j, j < K → ∃ k : Nat, 0 < k ∧ q (j + 1) = mv (q j) (d (j + 1)) k ∧ N.Fr (q j) (d (j + 1)) k
  pp : ∀ j, j < K → perp (d j) (d (j + 1))
theorem Net.chain (N : Net) : ∀ (K : Nat) (p : Pos) (e : Dir), N.Ex K p e → ∃ q d, N.Chain K q d ∧ q K = p ∧ d K = e
  | 0, p, e, h => by
    refine ⟨fun _ => p, fun _ => e, ⟨fun j hj => ?_, fun j hj => by omega, fun j hj => by omega⟩, rfl, rfl⟩
    obtain rfl : j = 0 := by omega
    exact h
  | K + 1, p, e, h => by
    rcases h.1.entry with ⟨h0, k, h1, h2⟩ | ⟨m, r, f, k, h0, h1, h2, h3, h4, h5⟩
    · exact absurd (by rw [h1, h0]; exact (Net.R.ini 0).run (by rw [← h0]; exact h2)) (h.2 0 (by omega))
    · obtain rfl : m = K := by omega
      have hx : N.Ex m r f := ⟨h1, fun j hj hr => h.2 (j + 1) (by omega) (by rw [h4]; exact hr.turn h2 h3 h5)⟩
      obtain ⟨q, d, hc, hq, hd⟩ := Net.chain N m r f hx
      refine ⟨fun j => if j = m + 1 then p else q j, fun j => if j = m + 1 then e else d j, ⟨fun j hj => ?_, fun j hj => ?_, fun j hj => ?_⟩, if_pos rfl, if_pos rfl⟩
      · by_cases c : j = m + 1
        · subst c; simp only [if_pos]; exact h
        · simp only [if_neg c]; exact hc.ex j (by omega)
      · by_cases c : j = m
        · subst c
          simp only [if_pos, if_neg (show ¬ j = j + 1 by omega)]
          rw [hq]
          exact ⟨k, h3, h4, h5⟩
        · simp only [if_neg (show ¬ j = m + 1 by omega), if_neg (show ¬ j + 1 = m + 1 by omega)]
          exact hc.st j (by omega)
      · by_cases c : j = m
        · subst c
          simp only [if_pos, if_neg (show ¬ j = j + 1 by omega)]
          rw [hd]; exact h2
        · simp only [if_neg (show ¬ j = m + 1 by omega), if_neg (show ¬ j + 1 = m + 1 by omega)]
          exact hc.pp j (by omega)

/-! Going back. -/

theorem dir_cases {a b c : Dir} (h : perp a b) (h' : perp c b) : a = c ∨ a = opp c := perp_two (perp_symm h) (perp_symm h')
/-- The least number of bends to go the other way where the best way goes on. -/
def Net.X (N : Net) (q : Nat → Pos) (d : Nat → Dir) (j m : Nat) : Prop := N.Ex m (q j) (opp (d (j + 1)))
variable {N : Net} {K : Nat} {q : Nat → Pos} {d : Nat → Dir}
theorem Net.Chain.no (hc : N.Chain K q d) {j m : Nat} (hj : j ≤ K) (h : N.R m (q j) (d j)) (hm : m < j) : False := (hc.ex j hj).2 m hm h
theorem Net.Chain.back (hc : N.Chain K q d) {j m : Nat} (hX : N.X q d j (m + 1)) (hm : m + 1 < j) (hj : j + 2 ≤ K) : N.X q d (j + 1) m := by
  obtain ⟨k', hk', hq', hf'⟩ := hc.st j (by omega)
  obtain ⟨k2, hk2, hq2, hf2⟩ := hc.st (j + 1) (by omega)
  have hp2 := hc.pp (j + 1) (by omega)
  rcases hX.1.entry with ⟨h0, k, h1, h2⟩ | ⟨n, r, e, k, h0, h1, h2, h3, h4, h5⟩
  · exfalso
    refine hX.2 0 (by omega) ?_
    rw [h1, h0]
    exact (Net.R.ini 0).run (by rw [← h0]; exact h2)
  · obtain rfl : n = m := by omega
    have hr : r = mv (q j) (d (j + 1)) k := by
      have := mv_back h4
      rwa [opp_opp] at this
    have hf5 := h5.back h4
    rw [opp_opp] at hf5
    rcases Nat.lt_trichotomy k' k with c | c | c
    · -- the bend comes first
      exfalso
      have e1 : q (j + 1) = mv r (opp (d (j + 1))) ((k - k' : Nat) : Int) := by
        rw [hr, hq', mv_opp, mv_mv]; congr 1; omega
      have h6 : N.R (n + 1) (q (j + 1)) (opp (d (j + 1))) := by
        rw [e1]; exact h1.turn h2 (by omega) (fun t ht => h5 t (by omega))
      have h7 := h6.turn (perp_opp hp2) hk2 hf2
      rw [← hq2] at h7
      exact hc.no (by omega) h7 (by omega)
    · have e1 : r = q (j + 1) := by rw [hr, hq', c]
      subst e1
      rcases dir_cases (b := opp (d (j + 1))) h2 (perp_symm (perp_opp hp2)) with e | e
      · exfalso
        subst e
        have h7 := h1.run hf2
        rw [← hq2] at h7
        exact hc.no (by omega) h7 (by omega)
      · subst e
        refine ⟨h1, fun m' hm' hr' => hX.2 (m' + 1) (by omega) ?_⟩
        rw [h4]; exact hr'.turn h2 h3 h5
    · exfalso
      have e1 : q (j + 1) = mv r (d (j + 1)) ((k' - k : Nat) : Int) := by
        rw [hr, hq', mv_mv]; congr 1; omega
      have h6 : N.R (n + 1) (q (j + 1)) (d (j + 1)) := by
        rw [e1]
        refine h1.turn (by have := perp_opp' h2; rwa [opp_opp] at this) (by omega) ?_
        rw [hr]; exact hf'.sub k (by omega)
      exact hc.no (by omega) h6 (by omega)
theorem Net.Chain.ends (hc : N.Chain K q d) {j : Nat} (hX : N.X q d j 0) (hj : j + 2 ≤ K) : N.Ex (j + 1) (mv N.s (opp N.g) 1) (opp N.g) := by
  obtain ⟨k', hk', hq', hf'⟩ := hc.st j (by omega)
  obtain ⟨k2, hk2, hq2, hf2⟩ := hc.st (j + 1) (by omega)
  have hp2 := hc.pp (j + 1) (by omega)
  rcases hX.1.entry with ⟨h0, k, h1, h2⟩ | ⟨n, r, e, k, h0, _⟩
  · rw [h0] at h1 h2
    have hd : d (j + 1) = opp N.g := by rw [← h0, opp_opp]
    have hqs : N.s = mv (q j) (d (j + 1)) k := by rw [hd]; exact mv_back h1
    by_cases c : k' ≤ k
    · exfalso
      have e1 : q (j + 1) = mv N.s N.g ((k - k' : Nat) : Int) := by
        rw [hq', hd, mv_opp, h1, mv_mv]; congr 1; omega
      have h6 : N.R 0 (q (j + 1)) N.g := by
        rw [e1]; exact (Net.R.ini 0).run (fun t ht => h2 t (by omega))
      have h7 := h6.turn (by have := perp_opp hp2; rwa [h0] at this) hk2 hf2
      rw [← hq2] at h7
      exact hc.no (by omega) h7 (by omega)
    · have e2 : mv N.s (opp N.g) 1 = mv (q j) (d (j + 1)) ((k + 1 : Nat) : Int) := by
        rw [hqs, hd, mv_mv]; rfl
      refine ⟨?_, fun m hm hr => ?_⟩
      · rw [e2]
        have := (hc.ex j (by omega)).1.turn (hc.pp j (by omega)) (k := k + 1) (by omega) (fun t ht => hf' t (by omega))
        rwa [hd] at this ⊢
      · have h6 := Net.R.run (k := k' - (k + 1)) hr (by rw [e2, ← hd]; exact hf'.sub (k + 1) (by omega))
        rw [e2, ← hd, mv_mv, show ((k + 1 : Nat) : Int) + ((k' - (k + 1) : Nat) : Int) = k' by omega, ← hq'] at h6
        exact hc.no (by omega) h6 (by omega)
  · omega
theorem Net.Chain.ends_one (hc : N.Chain K q d) {j i : Nat} (hj : N.X q d j 0) (hi : N.X q d i 0) (hjK : j + 2 ≤ K) (hiK : i + 2 ≤ K) : j = i := by
  have := (hc.ends hj hjK).uniq (hc.ends hi hiK)
  omega
theorem Net.Chain.backs (hc : N.Chain K q d) {j m : Nat} (hX : N.X q d j m) (hm : m < j) : ∀ t : Nat, t ≤ m → j + t + 1 ≤ K → N.X q d (j + t) (m - t)
  | 0, _, _ => hX
  | t + 1, h1, h2 => by
    have h3 := Net.Chain.backs hc hX hm t (by omega) (by omega)
    rw [show m - t = (m - (t + 1)) + 1 by omega] at h3
    exact hc.back (j := j + t) h3 (by omega) (by omega)
/-- Where one can turn, one need not have gone on. -/
theorem Net.Chain.turns (hc : N.Chain K q d) {j m : Nat} (hX : N.X q d j m) (h4 : 4 ≤ m) (hm : m + 4 ≤ j) (hj : j + 2 ≤ K) (hB : N.fr (mv (q j) (opp (d j)) 1) (d (j + 1))) (hD : N.fr (mv (q j) (d (j + 1)) 1) (opp (d j))) (hA : N.fr (q j) (opp (d j))) : False := by
  obtain ⟨k', hk', hq', hf'⟩ := hc.st j (by omega)
  obtain ⟨k2, hk2, hq2, hf2⟩ := hc.st (j + 1) (by omega)
  have hp1 := hc.pp j (by omega)
  have hp2 := hc.pp (j + 1) (by omega)
  have hAD := hf'.one hk'
  have hX1 := hc.back (m := m - 1) (by rw [show m - 1 + 1 = m by omega]; exact hX) (by omega) hj
  unfold Net.X at hX hX1
  have exj := hc.ex j (by omega)
  have ex1 := hc.ex (j + 1) (by omega)
  have ex2 := hc.ex (j + 2) (by omega)
  generalize d (j + 2) = e2 at *
  generalize q (j + 2) = q2 at *
  generalize hA' : q j = A at *
  generalize hdj : d j = b at *
  generalize hde : d (j + 1) = e at *
  -- the four crossings
  have hBC : mv (mv A (opp b) 1) e 1 = mv (mv A e 1) (opp b) 1 := mv_comm _ _ _ _ _
  have frBA : N.fr (mv A (opp b) 1) b := by have := N.sym _ _ hA; rwa [opp_opp] at this
  have frCB : N.fr (mv (mv A e 1) (opp b) 1) (opp e) := by have := N.sym _ _ hB; rwa [hBC] at this
  have frCD : N.fr (mv (mv A e 1) (opp b) 1) b := by have := N.sym _ _ hD; rwa [opp_opp] at this
  have mBA : mv (mv A (opp b) 1) b 1 = A := by rw [mv_opp, mv_mv]; exact mv_zero _ _
  have mCD : mv (mv (mv A e 1) (opp b) 1) b 1 = mv A e 1 := by rw [mv_opp _ b, mv_mv]; exact mv_zero _ _
  have mCB : mv (mv (mv A e 1) (opp b) 1) (opp e) 1 = mv A (opp b) 1 := by rw [← hBC, mv_opp _ e, mv_mv]; exact mv_zero _ _
  have atA : ∀ n, n < j → ¬ N.R n A b := exj.2
  have atD : ∀ n, n < j + 1 → ¬ N.R n (mv A e 1) e := fun n hn hr => by
    have h1 := Net.R.run (k := k' - 1) hr (hf'.sub 1 (by omega))
    rw [mv_mv, show (1 : Int) + ((k' - 1 : Nat) : Int) = k' by omega, ← hq'] at h1
    exact ex1.2 n hn h1
  -- around the cell
  have r1 : N.R (m + 1) (mv A (opp b) 1) (opp b) := hX.1.tn (perp_symm (perp_opp (perp_opp' hp1))) hA
  have r2 : N.R (m + 2) (mv (mv A e 1) (opp b) 1) e := by have := r1.tn (perp_opp hp1) hB; rwa [hBC] at this
  have r3 : N.R (m + 3) (mv A e 1) b := by have := r2.tn (perp_symm hp1) frCD; rwa [mCD] at this
  by_cases c : 1 < k'
  · have h1 := r3.turn (perp_symm (perp_symm hp1)) (k := k' - 1) (by omega) (hf'.sub 1 (by omega))
    rw [mv_mv, show (1 : Int) + ((k' - 1 : Nat) : Int) = k' by omega, ← hq'] at h1
    exact ex1.2 (m + 4) (by omega) h1
  · obtain rfl : k' = 1 := by omega
    have hq1 : q (j + 1) = mv A e 1 := hq'
    rcases perp_two hp2 (perp_symm hp1) with h | h
    · subst h
      rw [hq1] at hf2 hq2
      have h1 := r3.run hf2
      rw [← hq2] at h1
      exact ex2.2 (m + 3) (by omega) h1
    · subst h
      rw [opp_opp, hq1] at hX1
      -- from the crossing before
      have upB : ∀ n, n + 1 < j → ¬ N.R n (mv A (opp b) 1) (opp e) := fun n hn hr => by
        have := hr.tn (perp_opp (perp_symm hp1)) frBA
        rw [mBA] at this
        exact atA _ hn this
      have upC : ∀ n, n + 1 < j → ¬ N.R n (mv (mv A e 1) (opp b) 1) (opp e) := fun n hn hr => by
        have := hr.go frCB
        rw [mCB] at this
        exact upB n hn this
      rcases hX1.1.prior with ⟨h1, h2⟩ | ⟨p, h1, h2, h3⟩ | ⟨n, p, f, h0, h1, h2, h3, h5⟩
      · exact hX1.2 0 (by omega) (by rw [h1, h2]; exact .ini 0)
      · obtain rfl : p = mv (mv A e 1) (opp b) 1 := mv_back h1
        have := h3.tn (perp_opp' (perp_symm (perp_symm hp1))) frCB
        rw [mCB] at this
        exact upB _ (by omega) this
      · obtain rfl : p = mv (mv A e 1) (opp b) 1 := mv_back h1
        rcases dir_cases h5 (perp_symm hp1) with h | h
        · subst h
          rcases h3.prior with ⟨h6, h7⟩ | ⟨p, h6, h7, h8⟩ | ⟨n2, p, f2, h60, h6, h7, h8, h9⟩
          · have := (Net.R.ini (N := N) 0)
            rw [← h6, ← h7] at this
            have := this.tn (perp_symm hp1) frCD
            rw [mCD] at this
            exact hX1.2 1 (by omega) this
          · obtain rfl : p = mv A (opp b) 1 := by
              have := mv_back h6
              rw [mCB] at this; exact this
            have := h8.tn (perp_symm hp1) frBA
            rw [mBA] at this
            exact atA _ (by omega) this
          · obtain rfl : p = mv A (opp b) 1 := by
              have := mv_back h6
              rw [mCB] at this; exact this
            rcases dir_cases h9 hp1 with h | h
            · subst h
              have := h8.go frBA
              rw [mBA] at this
              exact atA _ (by omega) this
            · subst h
              rcases h8.prior with ⟨i1, i2⟩ | ⟨p, i1, i2, i3⟩ | ⟨n3, p, f3, i0, i1, i2, i3, i4⟩
              · have := (Net.R.ini (N := N) 0)
                rw [← i1, ← i2] at this
                have := this.tn (perp_opp hp1) hB
                rw [hBC] at this
                have := this.tn (perp_symm hp1) frCD
                rw [mCD] at this
                exact hX1.2 2 (by omega) this
              · obtain rfl : p = A := by
                  have := mv_back i1
                  rw [opp_opp, mBA] at this; exact this
                exact atD _ (by omega) (i3.tn (perp_opp hp1) hAD)
              · obtain rfl : p = A := by
                  have := mv_back i1
                  rw [opp_opp, mBA] at this; exact this
                rcases dir_cases i4 (perp_opp' (perp_symm hp1)) with h | h
                · subst h
                  exact atD _ (by omega) (i3.go hAD)
                · subst h
                  exact hX.2 _ (by omega) i3
        · subst h
          exact upC _ (by omega) h3

/-! Corners. -/

/-- The best way goes back where it came from. -/
def Net.RR (N : Net) (q : Nat → Pos) (d : Nat → Dir) (j : Nat) : Prop := ∃ m, m < j ∧ N.R m (q j) (opp (d (j + 1)))
/-- The cells beside a stretch are free, where there is no corner. -/
theorem Net.strip {a e : Dir} (hae : perp a e) {p : Pos} {n : Nat} (hf : N.Fr p a n) (h0 : N.fr p e) (hno : ∀ t : Nat, t < n → ¬ N.cor (mv p a t) a e) :
    ∀ t : Nat, t ≤ n → N.fr (mv p a t) e ∧ (∀ s : Nat, s < t → N.fr (mv (mv p a s) e 1) a)
  | 0, _ => ⟨by rw [show ((0 : Nat) : Int) = 0 from rfl, mv_zero]; exact h0, fun s hs => by omega⟩
  | t + 1, ht => by
    obtain ⟨h1, h2⟩ := Net.strip hae hf h0 hno t (by omega)
    have h3 := (N.cell _ a e hae (hf t (by omega)) h1).resolve_left (hno t (by omega))
    rw [mv_mv] at h3
    refine ⟨h3.1, fun s hs => ?_⟩
    by_cases c : s = t
    · subst c; exact h3.2
    · exact h2 s (by omega)
/-- One row further. -/
theorem Net.Chain.row (hc : N.Chain K q d) {i : Nat} (h3 : 3 ≤ i) (hi : i + 2 ≤ K) (hno : ∀ u, N.Ex i u (d i) → ¬ N.cor u (opp (d i)) (d (i + 1)))
    {n k : Nat} (hq : q (i + 1) = mv (q i) (d (i + 1)) n) (hf : N.Fr (q i) (d (i + 1)) n) (hk : k < n) (hR : N.R i (mv (q i) (d (i + 1)) k) (d i)) :
    (N.fr (mv (q i) (d (i + 1)) k) (opp (d i)) ∧ N.fr (mv (mv (q i) (d (i + 1)) k) (opp (d i)) 1) (d (i + 1)) ∧ N.fr (mv (mv (q i) (d (i + 1)) k) (d (i + 1)) 1) (opp (d i))) ∧
    (N.R i (mv (q i) (d (i + 1)) ((k + 1 : Nat) : Int)) (d i) ∨ N.RR q d i ∨ N.RR q d (i + 1)) := by
  have hp1 := hc.pp i (by omega)
  have hp2 := hc.pp (i + 1) (by omega)
  obtain ⟨k2, hk2, hq2, hf2⟩ := hc.st (i + 1) (by omega)
  have ex1 := hc.ex (i + 1) (by omega)
  have ex2 := hc.ex (i + 2) (by omega)
  unfold Net.RR
  have hRi := fun m (hm : m < i) (hr : N.R m (q i) (opp (d (i + 1)))) => (⟨m, hm, hr⟩ : ∃ m, m < i ∧ N.R m (q i) (opp (d (i + 1))))
  generalize hA : q i = A at *
  generalize hb : d i = b at *
  generalize he : d (i + 1) = e at *
  -- the row is exact
  have hex : ∀ m, m < i → ¬ N.R m (mv A e k) b := fun m hm hr => by
    have h1 := hr.turn hp1 (k := n - k) (by omega) (hf.sub k (by omega))
    rw [mv_mv, show (k : Int) + ((n - k : Nat) : Int) = n by omega, ← hq] at h1
    exact ex1.2 (m + 1) (by omega) h1
  rcases hR.entry with ⟨g0, t, g1, g2⟩ | ⟨m, r, e', w, m0, hr, hpe, hw, hpk, hfw⟩
  · exact absurd (by rw [g1, g0]; exact (Net.R.ini 0).run (by rw [← g0]; exact g2)) (hex 0 (by omega))
  obtain rfl : i = m + 1 := m0
  have hfb : N.Fr (mv A e k) (opp b) w := hfw.back hpk
  have hrr : r = mv (mv A e k) (opp b) w := mv_back hpk
  have hst := Net.strip (perp_opp hp1) hfb (hf k hk) (fun t ht hcor => by
    refine hno _ ⟨?_, fun m' hm' hr' => ?_⟩ hcor
    · have h1 := hr.turn (k := w - t) hpe (by omega) (fun s hs => hfw s (by omega))
      have : mv r b ((w - t : Nat) : Int) = mv (mv A e k) (opp b) t := by
        rw [hrr, mv_opp, mv_opp, mv_mv]; congr 1; omega
      rwa [this] at h1
    · have h1 := hr'.run (k := t) (by
        have := (hfb.sub 0 (b := t) (by omega)).back rfl
        rw [opp_opp] at this
        have e0 : mv (mv A e k) (opp b) ((0 : Nat) : Int) = mv A e k := mv_zero _ _
        rw [e0] at this
        exact this)
      rw [mv_opp, mv_mv, show -(t : Int) + t = 0 by omega, mv_zero] at h1
      exact hex m' hm' h1)
  obtain ⟨hre, hrow⟩ := hst w (Nat.le_refl _)
  rw [← hrr] at hre
  have hcell : N.fr (mv A e k) (opp b) ∧ N.fr (mv (mv A e k) (opp b) 1) e ∧ N.fr (mv (mv A e k) e 1) (opp b) := by
    refine ⟨hfb.one hw, (hst 1 hw).1, ?_⟩
    have := hrow 0 hw
    rwa [show ((0 : Nat) : Int) = 0 from rfl, mv_zero] at this
  refine ⟨hcell, ?_⟩
  -- the next row
  have hP : mv (mv A e k) e 1 = mv A e ((k + 1 : Nat) : Int) := by rw [mv_mv]; rfl
  generalize hPd : mv A e ((k + 1 : Nat) : Int) = P at *
  have hrowF : N.Fr P (opp b) w := fun t ht => by
    have := hrow t ht
    rwa [mv_comm, hP] at this
  have hwP : mv r e 1 = mv P (opp b) w := by rw [hrr, mv_comm, hP]
  have hPw : P = mv (mv r e 1) b w := by
    have := mv_back hwP
    rwa [opp_opp] at this
  have hrowB : N.Fr (mv r e 1) b w := by
    have := hrowF.back hwP
    rwa [opp_opp] at this
  have hexr : ∀ m', m' < m → ¬ N.R m' r e' := fun m' hm' hr' => by
    have h1 := hr'.turn hpe hw hfw
    rw [← hpk] at h1
    exact hex (m' + 1) (by omega) h1
  rcases dir_cases hpe (perp_symm hp1) with h | h
  · subst h
    have h1 := (hr.go hre).turn hpe hw hrowB
    rw [← hPw] at h1
    exact .inl h1
  · subst h
    have hfwe : N.fr (mv r e 1) (opp e) := N.sym _ _ hre
    have hrw : r = mv (mv r e 1) (opp e) 1 := by rw [mv_opp, mv_mv]; exact (mv_zero _ _).symm
    rcases hr.prior with ⟨i1, i2⟩ | ⟨p, i1, i2, i3⟩ | ⟨n2, p, f, n0, i1, i2, i3, i4⟩
    · have h1 : N.R 0 r (opp e) := by rw [i1, i2]; exact .ini 0
      exact absurd h1 (hexr 0 (by omega))
    · obtain rfl : p = mv r e 1 := by
        have := mv_back i1
        rwa [opp_opp] at this
      have h1 := i3.turn hpe hw hrowB
      rw [← hPw] at h1
      exact .inl h1
    · obtain rfl : p = mv r e 1 := by
        have := mv_back i1
        rwa [opp_opp] at this
      obtain rfl : m = n2 + 1 := n0
      rcases dir_cases i4 (perp_opp' hp1) with h | h
      · subst h
        have h1 := i3.run hrowB
        rw [← hPw] at h1
        exact .inl (h1.mono (by omega))
      · subst h
        rcases i3.entry with ⟨g0, t, g1, g2⟩ | ⟨n3, r2, f2, w2, n30, j1, j2, j3, j4, j5⟩
        · have h1 : N.R 0 (mv r e 1) (opp b) := by
            rw [g1, g0]; exact (Net.R.ini 0).run (by rw [← g0]; exact g2)
          have h2 := h1.tn i4 hfwe
          rw [← hrw] at h2
          exact absurd h2 (hexr 1 (by omega))
        · obtain rfl : n2 = n3 + 1 := n30
          have hr2 : r2 = mv (mv r e 1) b w2 := by
            have := mv_back j4
            rwa [opp_opp] at this
          rcases Nat.lt_trichotomy w2 w with c | c | c
          · have h1 := j1.turn (e := b) (by have := perp_opp' j2; rwa [opp_opp] at this) (k := w - w2) (by omega) (by rw [hr2]; exact hrowB.sub w2 (by omega))
            rw [hr2, mv_mv, show (w2 : Int) + ((w - w2 : Nat) : Int) = w by omega, ← hPw] at h1
            exact .inl (h1.mono (by omega))
          · have e1 : r2 = P := by rw [hr2, hPw, c]
            subst e1
            rcases dir_cases j2 (perp_symm (perp_opp hp1)) with h | h
            · subst h
              have h1 := j1.run (k := n - (k + 1)) (by rw [← hPd]; exact hf.sub (k + 1) (by omega))
              rw [← hPd, mv_mv, show ((k + 1 : Nat) : Int) + ((n - (k + 1) : Nat) : Int) = n by omega, ← hq] at h1
              exact absurd h1 (ex1.2 _ (by omega))
            · subst h
              refine .inr (.inl (hRi n3 (by omega) ?_))
              have h1 := j1.run (k := k + 1) (by
                have := (hf.sub 0 (b := k + 1) (by omega)).back (q := r2) (by
                  rw [show ((0 : Nat) : Int) = 0 from rfl, mv_zero]; exact hPd.symm)
                exact this)
              rw [← hPd, mv_opp, mv_mv, show ((k + 1 : Nat) : Int) + -((k + 1 : Nat) : Int) = 0 by omega, mv_zero] at h1
              exact h1
          · have h1 := j1.turn j2 (k := w2 - w) (by omega) (fun t ht => j5 t (by omega))
            have e1 : mv r2 (opp b) ((w2 - w : Nat) : Int) = P := by
              rw [hr2, hPw, mv_opp, mv_mv]; congr 1; omega
            rw [e1] at h1
            by_cases c2 : k + 1 = n
            · have e2 : P = q (n3 + 1 + 1 + 1 + 1) := by rw [hq, ← hPd, c2]
              rcases perp_two hp2 (perp_symm hp1) with h | h
              · refine .inr (.inr ⟨n3 + 1, by omega, ?_⟩)
                rw [h, ← e2]; exact h1
              · exfalso
                have h2 := h1.run (k := k2) (by rw [e2, ← h]; exact hf2)
                rw [e2, ← h, ← hq2] at h2
                exact ex2.2 (n3 + 1) (by omega) h2
            · have h2 := h1.turn (perp_opp hp1) (k := n - (k + 1)) (by omega) (by rw [← hPd]; exact hf.sub (k + 1) (by omega))
              rw [← hPd, mv_mv, show ((k + 1 : Nat) : Int) + ((n - (k + 1) : Nat) : Int) = n by omega, ← hq] at h2
              exact absurd h2 (ex1.2 _ (by omega))

/-- Where a level has no corner, the way goes back where it came from, and a cell is free. -/
theorem Net.Chain.plain (hc : N.Chain K q d) {i : Nat} (h3 : 3 ≤ i) (hi : i + 2 ≤ K) (hno : ∀ u, N.Ex i u (d i) → ¬ N.cor u (opp (d i)) (d (i + 1))) :
    (N.fr (q i) (opp (d i)) ∧ N.fr (mv (q i) (opp (d i)) 1) (d (i + 1)) ∧ N.fr (mv (q i) (d (i + 1)) 1) (opp (d i))) ∧ (N.RR q d i ∨ N.RR q d (i + 1)) := by
  obtain ⟨n, hn, hq, hf⟩ := hc.st i (by omega)
  have e0 : mv (q i) (d (i + 1)) ((0 : Nat) : Int) = q i := mv_zero _ _
  have h0 := hc.row h3 hi hno hq hf (k := 0) hn (by rw [e0]; exact (hc.ex i (by omega)).1)
  rw [e0] at h0
  refine ⟨h0.1, ?_⟩
  have key : ∀ k : Nat, k ≤ n → N.R i (mv (q i) (d (i + 1)) k) (d i) ∨ N.RR q d i ∨ N.RR q d (i + 1) := by
    intro k
    induction k with
    | zero => intro _; rw [e0]; exact .inl (hc.ex i (by omega)).1
    | succ k ih =>
      intro hk
      rcases ih (by omega) with h | h
      · exact (hc.row h3 hi hno hq hf (by omega) h).2
      · exact .inr h
  rcases key n (Nat.le_refl _) with h | h
  · rw [← hq] at h
    obtain ⟨k2, hk2, hq2, hf2⟩ := hc.st (i + 1) (by omega)
    rcases perp_two (hc.pp (i + 1) (by omega)) (perp_symm (hc.pp i (by omega))) with e | e
    · exfalso
      have h1 := h.run (by rw [← e]; exact hf2)
      rw [← e, ← hq2] at h1
      exact (hc.ex (i + 2) (by omega)).2 i (by omega) h1
    · exact .inr ⟨i, by omega, by rw [e, opp_opp]; exact h⟩
  · exact h

/-! How many levels have none. -/

theorem least_of {P : Nat → Prop} {n : Nat} (h : P n) : ∃ m, P m ∧ ∀ k, P k → m ≤ k := by
  induction n using Nat.strongRecOn with
  | _ n ih =>
    by_cases c : ∃ m, m < n ∧ P m
    · obtain ⟨m, h1, h2⟩ := c
      exact ih m h1 h2
    · exact ⟨n, h, fun k hk => Nat.le_of_not_lt fun hlt => c ⟨k, hlt, hk⟩⟩
theorem windows (P : Nat → Prop) : ∃ w1 w2 w3 : Nat, ∀ i, P i → (w1 ≤ i ∧ i < w1 + 4) ∨ (w2 ≤ i ∧ i < w2 + 4) ∨ (w3 ≤ i ∧ i < w3 + 4) ∨ ∃ a b c, P a ∧ P b ∧ P c ∧ a + 4 ≤ b ∧ b + 4 ≤ c ∧ c + 4 ≤ i := by
  by_cases h1 : ∃ n, P n
  · obtain ⟨_, h1⟩ := h1
    obtain ⟨w1, a1, a2⟩ := least_of h1
    by_cases h2 : ∃ n, P n ∧ w1 + 4 ≤ n
    · obtain ⟨_, h2⟩ := h2
      obtain ⟨w2, b1, b2⟩ := least_of (P := fun n => P n ∧ w1 + 4 ≤ n) h2
      by_cases h3 : ∃ n, P n ∧ w2 + 4 ≤ n
      · obtain ⟨_, h3⟩ := h3
        obtain ⟨w3, c1, c2⟩ := least_of (P := fun n => P n ∧ w2 + 4 ≤ n) h3
        refine ⟨w1, w2, w3, fun i hi => ?_⟩
        have e1 := a2 i hi
        by_cases q1 : i < w1 + 4
        · exact .inl ⟨e1, q1⟩
        · have e2 := b2 i ⟨hi, by omega⟩
          by_cases q2 : i < w2 + 4
          · exact .inr (.inl ⟨e2, q2⟩)
          · have e3 := c2 i ⟨hi, by omega⟩
            by_cases q3 : i < w3 + 4
            · exact .inr (.inr (.inl ⟨e3, q3⟩))
            · exact .inr (.inr (.inr ⟨w1, w2, w3, a1, b1.1, c1.1, b1.2, c1.2, by omega⟩))
      · refine ⟨w1, w2, 0, fun i hi => ?_⟩
        have e1 := a2 i hi
        by_cases q1 : i < w1 + 4
        · exact .inl ⟨e1, q1⟩
        · have e2 := b2 i ⟨hi, by omega⟩
          by_cases q2 : i < w2 + 4
          · exact .inr (.inl ⟨e2, q2⟩)
          · exact absurd ⟨i, hi, by omega⟩ h3
    · refine ⟨w1, 0, 0, fun i hi => ?_⟩
      have e1 := a2 i hi
      by_cases q1 : i < w1 + 4
      · exact .inl ⟨e1, q1⟩
      · exact absurd ⟨i, hi, by omega⟩ h2
  · exact ⟨0, 0, 0, fun i hi => absurd ⟨i, hi⟩ h1⟩
theorem php : ∀ (n N : Nat) (f : Nat → Nat), (∀ i, i < n → f i < N) → (∀ i j, i < n → j < n → f i = f j → i = j) → n ≤ N
  | 0, _, _, _, _ => Nat.zero_le _
  | n + 1, 0, f, h, _ => by have := h 0 (by omega); omega
  | n + 1, N + 1, f, h, hi => by
    have := php n N (fun i => if f i = N then f n else f i) (fun i hin => by
      have h1 := h i (by omega)
      have h2 := h n (by omega)
      have h3 : f i ≠ f n := fun e => by have := hi i n (by omega) (by omega) e; omega
      show (if f i = N then f n else f i) < N
      split <;> omega) (fun i j hin hjn e => by
      have hin' : f i ≠ f n := fun e => by have := hi i n (by omega) (by omega) e; omega
      have hjn' : f j ≠ f n := fun e => by have := hi j n (by omega) (by omega) e; omega
      have e : (if f i = N then f n else f i) = (if f j = N then f n else f j) := e
      refine hi i j (by omega) (by omega) ?_
      split at e <;> split at e <;> omega)
    omega
/-- Two levels without corners that are apart. -/
theorem Net.Chain.two (hc : N.Chain K q d) {i i' : Nat} (h3 : 3 ≤ i) (hii : i + 4 ≤ i') (hi : i' + 6 ≤ K) (hno : ∀ u, N.Ex i u (d i) → ¬ N.cor u (opp (d i)) (d (i + 1))) (hno' : ∀ u, N.Ex i' u (d i') → ¬ N.cor u (opp (d i')) (d (i' + 1))) :
    ∃ z, i ≤ z ∧ z ≤ i' + 3 ∧ N.X q d z 0 := by
  obtain ⟨_, h1⟩ := hc.plain h3 (by omega) hno
  obtain ⟨⟨c1, c2, c3⟩, _⟩ := hc.plain (by omega) (by omega) hno'
  obtain ⟨j, m, hj1, hj2, hm, hX⟩ : ∃ j m, i ≤ j ∧ j ≤ i + 1 ∧ m < j ∧ N.X q d j m := by
    rcases h1 with ⟨m, h1, h2⟩ | ⟨m, h1, h2⟩
    · obtain ⟨m', hm', hX⟩ := Net.least h2
      exact ⟨i, m', Nat.le_refl _, by omega, by omega, hX⟩
    · obtain ⟨m', hm', hX⟩ := Net.least h2
      exact ⟨i + 1, m', by omega, Nat.le_refl _, by omega, hX⟩
  by_cases c : i' - j + 4 ≤ m
  · exfalso
    have h2 := hc.backs hX hm (i' - j) (by omega) (by omega)
    rw [show j + (i' - j) = i' by omega] at h2
    exact hc.turns h2 (by omega) (by omega) (by omega) c2 c3 c1
  · have h2 := hc.backs hX hm m (Nat.le_refl _) (by omega)
    rw [Nat.sub_self] at h2
    exact ⟨j + m, by omega, by omega, h2⟩
/-- The least number of bends. -/
theorem Net.bound (N : Net) (T : Nat) (tag : Pos → Dir → Dir → Nat) (ht : ∀ u a e, N.cor u a e → tag u a e < T) (hi : ∀ u a e u' a' e', N.cor u a e → N.cor u' a' e' → tag u a e = tag u' a' e' → u = u' ∧ a = a')
    {n : Nat} {p : Pos} {e : Dir} (h : N.R n p e) : ∃ m, m ≤ n ∧ m ≤ T + 20 ∧ N.Ex m p e := by
  classical
  obtain ⟨K, hK, hx⟩ := Net.least h
  refine ⟨K, hK, ?_, hx⟩
  obtain ⟨q, d, hc, _, _⟩ := N.chain K p e hx
  let B : Nat → Prop := fun i => 3 ≤ i ∧ i + 6 ≤ K ∧ ∀ u, N.Ex i u (d i) → ¬ N.cor u (opp (d i)) (d (i + 1))
  obtain ⟨w1, w2, w3, hw⟩ := windows B
  have hw' : ∀ i, B i → (w1 ≤ i ∧ i < w1 + 4) ∨ (w2 ≤ i ∧ i < w2 + 4) ∨ (w3 ≤ i ∧ i < w3 + 4) := fun i hb => by
    rcases hw i hb with h | h | h | ⟨a, b, c, ha, hb', hcc, h1, h2, h3⟩
    · exact .inl h
    · exact .inr (.inl h)
    · exact .inr (.inr h)
    · exfalso
      obtain ⟨z, z1, z2, z3⟩ := hc.two ha.1 h1 hb'.2.1 ha.2.2 hb'.2.2
      obtain ⟨y, y1, y2, y3⟩ := hc.two hcc.1 h3 hb.2.1 hcc.2.2 hb.2.2
      have := hb'.2.1
      have := hb.2.1
      have := hc.ends_one z3 y3 (by omega) (by omega)
      omega
  have hcor : ∀ i, 3 ≤ i → i + 6 ≤ K → ¬ B i → ∃ u, N.Ex i u (d i) ∧ N.cor u (opp (d i)) (d (i + 1)) := fun i h1 h2 h3 => by
    refine Classical.byContradiction fun hh => h3 ⟨h1, h2, fun u hu hcc => hh ⟨u, hu, hcc⟩⟩
  let U : Nat → Pos := fun i => if hh : ∃ u, N.Ex i u (d i) ∧ N.cor u (opp (d i)) (d (i + 1)) then Classical.choose hh else (0, 0)
  have hU : ∀ i, 3 ≤ i → i + 6 ≤ K → ¬ B i → N.Ex i (U i) (d i) ∧ N.cor (U i) (opp (d i)) (d (i + 1)) := fun i h1 h2 h3 => by
    have hh := hcor i h1 h2 h3
    show N.Ex i (if hh : _ then _ else _) (d i) ∧ N.cor (if hh : _ then _ else _) _ _
    rw [dif_pos hh]; exact Classical.choose_spec hh
  let f : Nat → Nat := fun x => if B (x + 3) then (if w1 ≤ x + 3 ∧ x + 3 < w1 + 4 then T + (x + 3 - w1) else if w2 ≤ x + 3 ∧ x + 3 < w2 + 4 then T + 4 + (x + 3 - w2) else T + 8 + (x + 3 - w3)) else tag (U (x + 3)) (opp (d (x + 3))) (d (x + 3 + 1))
  by_cases hK9 : K ≤ 8
  · omega
  have hf := php (K - 8) (T + 12) f (fun x hx => by
    show (if B (x + 3) then _ else _) < _
    by_cases hb : B (x + 3)
    · rw [if_pos hb]
      have := hw' _ hb
      split
      · omega
      · split
        · omega
        · omega
    · rw [if_neg hb]
      have := ht _ _ _ (hU (x + 3) (by omega) (by omega) hb).2
      omega) (fun x y hx hy e => by
    have e : (if B (x + 3) then _ else _) = (if B (y + 3) then _ else _) := e
    by_cases hb : B (x + 3)
    · by_cases hb' : B (y + 3)
      · rw [if_pos hb, if_pos hb'] at e
        have := hw' _ hb
        have := hw' _ hb'
        split at e <;> split at e <;> (try split at e) <;> (try split at e) <;> omega
      · rw [if_pos hb, if_neg hb'] at e
        have := ht _ _ _ (hU (y + 3) (by omega) (by omega) hb').2
        split at e <;> (try split at e) <;> omega
    · by_cases hb' : B (y + 3)
      · rw [if_neg hb, if_pos hb'] at e
        have := ht _ _ _ (hU (x + 3) (by omega) (by omega) hb).2
        split at e <;> (try split at e) <;> omega
      · rw [if_neg hb, if_neg hb'] at e
        obtain ⟨a1, a2⟩ := hU (x + 3) (by omega) (by omega) hb
        obtain ⟨b1, b2⟩ := hU (y + 3) (by omega) (by omega) hb'
        obtain ⟨e1, e2⟩ := hi _ _ _ _ _ _ a2 b2 e
        have e3 : d (x + 3) = d (y + 3) := by rw [← opp_opp (d (x + 3)), e2, opp_opp]
        rw [e1, e3] at a1
        have := a1.uniq b1
        omega)
  omega
end Go.DB.Lev
