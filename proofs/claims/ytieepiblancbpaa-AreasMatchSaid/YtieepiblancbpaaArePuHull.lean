/-
  The least convex ring: two chains, and the road round the points, lead to the same corners; every point is inside.
-/
import Derived.Test.YtieepiblancbpaaArePuRef
set_option linter.unusedSimpArgs false
set_option linter.unusedVariables false
namespace Go.DB.Hull
open Go Go.RowKit Go.DB

def cr (a b c : Point) : Int := (b.X - a.X) * (c.Y - a.Y) - (b.Y - a.Y) * (c.X - a.X)
def Ps (x y : Int) : Prop := 0 < x ∨ x = 0 ∧ 0 < y
/-- b lies behind a: rising for s = 1, falling for s = -1 -/
def lx (s : Int) (a b : Point) : Prop := Ps (s * (b.X - a.X)) (s * (b.Y - a.Y))
def On (a b p : Point) : Prop := (a.X ≤ p.X ∧ p.X ≤ b.X ∨ b.X ≤ p.X ∧ p.X ≤ a.X) ∧ (a.Y ≤ p.Y ∧ p.Y ≤ b.Y ∨ b.Y ≤ p.Y ∧ p.Y ≤ a.Y)

theorem tr0 {ux uy vx vy wx wy : Int} (hu : Ps ux uy) (hv : Ps vx vy) (hw : Ps wx wy) (h1 : 0 ≤ ux * vy - uy * vx) (h2 : 0 ≤ vx * wy - vy * wx) : 0 ≤ ux * wy - uy * wx := by
  have e1 : (ux * wy - uy * wx) * vx = (vx * wy - vy * wx) * ux + (ux * vy - uy * vx) * wx := by grind
  have ux0 : 0 ≤ ux := by rcases hu with h | h <;> omega
  have wx0 : 0 ≤ wx := by rcases hw with h | h <;> omega
  have p1 := Int.mul_nonneg h2 ux0
  have p2 := Int.mul_nonneg h1 wx0
  rcases hv with hv | ⟨hv, hv2⟩
  · rcases Int.lt_or_le (ux * wy - uy * wx) 0 with h | h
    · have := Int.mul_neg_of_neg_of_pos h hv; omega
    · exact h
  · subst hv
    have w0 : wx = 0 := by
      rcases Int.lt_or_le 0 wx with h | h
      · have := Int.mul_pos hv2 h; omega
      · omega
    subst w0
    rcases hw with hw | ⟨_, hw⟩
    · omega
    · have := Int.mul_nonneg ux0 (Int.le_of_lt hw); omega
theorem tr1 {ux uy vx vy wx wy : Int} (hu : Ps ux uy) (hv : Ps vx vy) (hw : Ps wx wy) (h1 : 0 < ux * vy - uy * vx) (h2 : 0 ≤ vx * wy - vy * wx) : 0 < ux * wy - uy * wx := by
  have e1 : (ux * wy - uy * wx) * vx = (vx * wy - vy * wx) * ux + (ux * vy - uy * vx) * wx := by grind
  have ux0 : 0 ≤ ux := by rcases hu with h | h <;> omega
  have wx0 : 0 ≤ wx := by rcases hw with h | h <;> omega
  have vx0 : 0 ≤ vx := by rcases hv with h | h <;> omega
  have p1 := Int.mul_nonneg h2 ux0
  have p2 := Int.mul_nonneg (Int.le_of_lt h1) wx0
  have hux : 0 < ux := by
    rcases hu with h | ⟨h, h'⟩
    · exact h
    · subst h; have := Int.mul_nonneg (Int.le_of_lt h') vx0; omega
  rcases hv with hv | ⟨hv, hv2⟩
  · rcases Int.lt_or_le 0 (ux * wy - uy * wx) with h | h
    · exact h
    · have h3 : (ux * wy - uy * wx) * vx ≤ 0 := Int.mul_nonpos_of_nonpos_of_nonneg h vx0
      rcases hw with hw | ⟨hw, hw2⟩
      · have := Int.mul_pos h1 hw; omega
      · subst hw
        have q : 0 < vx * wy - vy * 0 := by have := Int.mul_pos hv hw2; omega
        have := Int.mul_pos q hux; omega
  · subst hv
    have w0 : wx = 0 := by
      rcases Int.lt_or_le 0 wx with h | h
      · have := Int.mul_pos hv2 h; omega
      · omega
    subst w0
    rcases hw with hw | ⟨_, hw⟩
    · omega
    · have := Int.mul_pos hux hw; omega
theorem tr2 {ux uy vx vy wx wy : Int} (hu : Ps ux uy) (hv : Ps vx vy) (hw : Ps wx wy) (h1 : 0 ≤ ux * vy - uy * vx) (h2 : 0 < vx * wy - vy * wx) : 0 < ux * wy - uy * wx := by
  have e1 : (ux * wy - uy * wx) * vx = (vx * wy - vy * wx) * ux + (ux * vy - uy * vx) * wx := by grind
  have ux0 : 0 ≤ ux := by rcases hu with h | h <;> omega
  have wx0 : 0 ≤ wx := by rcases hw with h | h <;> omega
  have vx0 : 0 ≤ vx := by rcases hv with h | h <;> omega
  have p1 := Int.mul_nonneg (Int.le_of_lt h2) ux0
  have p2 := Int.mul_nonneg h1 wx0
  have hvx : 0 < vx := by
    rcases hv with h | ⟨h, h'⟩
    · exact h
    · subst h; have := Int.mul_nonneg (Int.le_of_lt h') wx0; omega
  have hux : 0 < ux := by
    rcases hu with h | ⟨h, h'⟩
    · exact h
    · subst h; have := Int.mul_pos h' hvx; omega
  have := Int.mul_pos h2 hux
  rcases Int.lt_or_le 0 (ux * wy - uy * wx) with h | h
  · exact h
  · have h3 : (ux * wy - uy * wx) * vx ≤ 0 := Int.mul_nonpos_of_nonpos_of_nonneg h vx0
    omega

theorem cr_s {s : Int} (hs : s = 1 ∨ s = -1) (a b c : Point) : cr a b c = (s * (b.X - a.X)) * (s * (c.Y - a.Y)) - (s * (b.Y - a.Y)) * (s * (c.X - a.X)) := by
  unfold cr; rcases hs with rfl | rfl <;> grind
theorem Ps_add {a b c d : Int} (h : Ps a b) (h' : Ps c d) : Ps (a + c) (b + d) := by unfold Ps at *; omega
theorem lx_trans {s : Int} {a b c : Point} (h : lx s a b) (h' : lx s b c) : lx s a c := by
  have := Ps_add h h'
  unfold lx
  have e1 : s * (c.X - a.X) = s * (b.X - a.X) + s * (c.X - b.X) := by grind
  have e2 : s * (c.Y - a.Y) = s * (b.Y - a.Y) + s * (c.Y - b.Y) := by grind
  rw [e1, e2]; exact this
theorem lx_irr {s : Int} {a : Point} (h : lx s a a) : False := by
  unfold lx Ps at h
  simp at h
theorem lx_asymm {s : Int} {a b : Point} (h : lx s a b) (h' : lx s b a) : False := lx_irr (lx_trans h h')
theorem lx_ne {s : Int} {a b : Point} (h : lx s a b) : a ≠ b := fun e => lx_irr (e ▸ h)
theorem lx_tri {s : Int} (hs : s = 1 ∨ s = -1) (a b : Point) : a = b ∨ lx s a b ∨ lx s b a := by
  obtain ⟨ax, ay⟩ := a
  obtain ⟨bx, by_⟩ := b
  unfold lx Ps
  simp only [Point.mk.injEq]
  rcases hs with rfl | rfl <;> omega

/-- From one corner: q, b, p behind a. -/
theorem fan {s : Int} (hs : s = 1 ∨ s = -1) {a q b p : Point} (hq : lx s a q) (hb : lx s a b) (hp : lx s a p) (h1 : cr a b q ≤ 0) (h2 : 0 ≤ cr a b p) : 0 ≤ cr a q p := by
  rw [cr_s hs] at *
  refine tr0 hq hb hp ?_ h2
  have : s * (q.X - a.X) * (s * (b.Y - a.Y)) - s * (q.Y - a.Y) * (s * (b.X - a.X)) = -(s * (b.X - a.X) * (s * (q.Y - a.Y)) - s * (b.Y - a.Y) * (s * (q.X - a.X))) := by grind
  omega
/-- Along the chain. -/
theorem along {s : Int} (hs : s = 1 ∨ s = -1) {c a b q : Point} (h1 : lx s c a) (h2 : lx s a b) (h3 : lx s a q) (h4 : 0 < cr c a b) (h5 : 0 < cr a b q) : 0 < cr c a q := by
  have e1 : cr c a b = (s * (a.X - c.X)) * (s * (b.Y - a.Y)) - (s * (a.Y - c.Y)) * (s * (b.X - a.X)) := by rw [cr_s hs]; grind
  have e2 : cr c a q = (s * (a.X - c.X)) * (s * (q.Y - a.Y)) - (s * (a.Y - c.Y)) * (s * (q.X - a.X)) := by rw [cr_s hs]; grind
  rw [e1] at h4
  rw [e2]
  rw [cr_s hs] at h5
  exact tr1 h1 h2 h3 h4 (Int.le_of_lt h5)
/-- What lies ahead of t is to the left of the way from t on. -/
theorem before {s : Int} (hs : s = 1 ∨ s = -1) {a t q p : Point} (h1 : lx s a t) (h2 : lx s t q) (h3 : lx s p t) (h4 : 0 ≤ cr a t p) (h5 : 0 < cr a t q) : 0 < cr t q p := by
  have e1 : cr a t q = (s * (t.X - a.X)) * (s * (q.Y - t.Y)) - (s * (t.Y - a.Y)) * (s * (q.X - t.X)) := by rw [cr_s hs]; grind
  have e2 : cr a t p = (s * (t.X - p.X)) * (s * (t.Y - a.Y)) - (s * (t.Y - p.Y)) * (s * (t.X - a.X)) := by rw [cr_s hs]; grind
  have e3 : cr t q p = (s * (t.X - p.X)) * (s * (q.Y - t.Y)) - (s * (t.Y - p.Y)) * (s * (q.X - t.X)) := by rw [cr_s hs]; grind
  rw [e1] at h5; rw [e2] at h4; rw [e3]
  exact tr2 h3 h1 h2 h4 h5
/-- Points of a stretch, in the order. -/
def bt (s : Int) (a b p : Point) : Prop := (p = a ∨ lx s a p) ∧ (p = b ∨ lx s p b)
/-- a way with everything to its left -/
def sup (s : Int) (P : List Point) (a b : Point) : Prop := lx s a b ∧ ∀ p ∈ P, 0 ≤ cr a b p ∧ (cr a b p = 0 → bt s a b p)
/-- A chain, the last one first. -/
def Chn (s : Int) (P : List Point) : List Point → Prop
  | [] => True
  | [a] => ∀ p ∈ P, p = a ∨ lx s a p
  | b :: a :: r => sup s P a b ∧ (∀ c r', r = c :: r' → 0 < cr c a b) ∧ Chn s P (a :: r)
def pop (q : Point) : List Point → List Point
  | b :: a :: r => if cr a b q ≤ 0 then pop q (a :: r) else b :: a :: r
  | [a] => [a]
  | [] => []
theorem pop_mem {q x : Point} {st : List Point} (h : x ∈ pop q st) : x ∈ st := by
  induction st with
  | nil => exact h
  | cons b st ih =>
    cases st with
    | nil => exact h
    | cons a r =>
      unfold pop at h
      split at h
      · exact List.mem_cons_of_mem _ (ih h)
      · exact h
/-- What the way to q may pass by. -/
def K (s : Int) (P : List Point) (q t : Point) : Prop := ∀ p ∈ P, p = t ∨ lx s p t ∨ lx s t p ∧ 0 ≤ cr t q p
theorem pop_ok {s : Int} (hs : s = 1 ∨ s = -1) {P : List Point} {q : Point} (hq : ∀ p ∈ P, lx s p q) : ∀ {st : List Point} {t : Point} {r : List Point}, st = t :: r → (∀ x ∈ st, x ∈ P) → Chn s P st → K s P q t →
    ∃ t' r', pop q st = t' :: r' ∧ Chn s P (t' :: r') ∧ K s P q t' ∧ ∀ a r'', r' = a :: r'' → 0 < cr a t' q
  | [], t, r, e, _, _, _ => by cases e
  | [a], t, r, e, _, hc, hk => by
    cases e
    exact ⟨a, [], rfl, hc, hk, fun _ _ h => by cases h⟩
  | b :: a :: r0, t, r, e, hm, hc, hk => by
    cases e
    unfold pop
    by_cases h : cr a b q ≤ 0
    · rw [if_pos h]
      refine pop_ok hs hq rfl (fun x hx => hm x (List.mem_cons_of_mem _ hx)) hc.2.2 ?_
      intro p hp
      rcases lx_tri hs p a with h1 | h1 | h1
      · exact .inl h1
      · exact .inr (.inl h1)
      · exact .inr (.inr ⟨h1, fan hs (hq a (hm a (by simp))) hc.1.1 h1 h (hc.1.2 p hp).1⟩)
    · rw [if_neg h]
      exact ⟨b, a :: r0, rfl, hc, hk, fun a' r'' e' => by cases e'; omega⟩
theorem chn_more {s : Int} (hs : s = 1 ∨ s = -1) {P : List Point} {q : Point} (hq : ∀ p ∈ P, lx s p q) : ∀ {st : List Point}, (∀ x ∈ st, x ∈ P) → Chn s P st → (∀ t a r, st = t :: a :: r → 0 < cr a t q) → Chn s (P ++ [q]) st
  | [], _, _, _ => trivial
  | [a], hm, hc, _ => by
    intro p hp
    rcases List.mem_append.1 hp with h | h
    · exact hc p h
    · rw [List.mem_singleton.1 h]; exact .inr (hq a (hm a (by simp)))
  | b :: a :: r, hm, hc, ht => by
    have h0 := ht b a r rfl
    refine ⟨⟨hc.1.1, ?_⟩, hc.2.1, chn_more hs hq (fun x hx => hm x (List.mem_cons_of_mem _ hx)) hc.2.2 ?_⟩
    · intro p hp
      rcases List.mem_append.1 hp with h | h
      · exact hc.1.2 p h
      · rw [List.mem_singleton.1 h]; exact ⟨Int.le_of_lt h0, fun e => by omega⟩
    · intro t c r' e
      cases e
      have hca : lx s c a := by
        have := hc.2.2
        exact this.1.1
      exact along hs hca hc.1.1 (hq a (hm a (by simp))) (hc.2.1 c r' rfl) h0
theorem cr_self1 (a b : Point) : cr a b a = 0 := by unfold cr; grind
theorem cr_self2 (a b : Point) : cr a b b = 0 := by unfold cr; grind
/-- One more point. -/
theorem chn_push {s : Int} (hs : s = 1 ∨ s = -1) {P : List Point} {q t : Point} {r : List Point} (hq : ∀ p ∈ P, lx s p q) (hm : ∀ x ∈ t :: r, x ∈ P) (hc : Chn s P (t :: r)) (ht : ∀ p ∈ P, p = t ∨ lx s p t) :
    Chn s (P ++ [q]) (q :: pop q (t :: r)) ∧ (∀ x ∈ q :: pop q (t :: r), x ∈ P ++ [q]) := by
  refine ⟨?_, ?_⟩
  · obtain ⟨t', r', h1, h2, h3, h4⟩ := pop_ok hs hq rfl hm hc (fun p hp => (ht p hp).elim .inl (fun h => .inr (.inl h)))
    have hm' : ∀ x ∈ t' :: r', x ∈ P := fun x hx => hm x (pop_mem (by rw [h1]; exact hx))
    have hc' := chn_more hs hq hm' h2 (fun t a r e => by cases e; exact h4 _ _ rfl)
    rw [h1]
    have htq := hq t' (hm' t' (by simp))
    refine ⟨⟨htq, ?_⟩, fun c r'' e => h4 c r'' e, hc'⟩
    intro p hp
    rcases List.mem_append.1 hp with h | h
    · rcases h3 p h with h5 | h5 | ⟨h5, h6⟩
      · subst h5; exact ⟨by rw [cr_self1]; exact Int.le_refl _, fun _ => ⟨.inl rfl, .inr htq⟩⟩
      · cases r' with
        | nil =>
          rcases h2 p h with h7 | h7
          · subst h7; exact (lx_irr h5).elim
          · exact (lx_asymm h5 h7).elim
        | cons a r'' =>
          have := before hs h2.1.1 htq h5 (h2.1.2 p h).1 (h4 a r'' rfl)
          exact ⟨Int.le_of_lt this, fun e => by omega⟩
      · exact ⟨h6, fun _ => ⟨.inr h5, .inr (hq p h)⟩⟩
    · rw [List.mem_singleton.1 h]
      exact ⟨by rw [cr_self2]; exact Int.le_refl _, fun _ => ⟨.inr htq, .inl rfl⟩⟩
  · intro x hx
    rcases List.mem_cons.1 hx with h | h
    · simp [h]
    · exact List.mem_append.2 (.inl (hm x (pop_mem h)))
def half (l : List Point) : List Point := l.foldl (fun st p => p :: pop p st) []
/-- The list rises (falls). -/
def Ris (s : Int) (l : List Point) : Prop := l.Pairwise (lx s)
theorem half_ok {s : Int} (hs : s = 1 ∨ s = -1) {l : List Point} (h : Ris s l) : ∀ P st : List Point, Ris s (P ++ l) → (P = [] → st = []) → (P ≠ [] → ∃ t r, st = t :: r ∧ Chn s P st ∧ (∀ x ∈ st, x ∈ P) ∧ P.getLast? = some t ∧ st.getLast? = P.head?) →
    ∃ st', l.foldl (fun st p => p :: pop p st) st = st' ∧ ((P ++ l) ≠ [] → ∃ t r, st' = t :: r ∧ Chn s (P ++ l) st' ∧ (∀ x ∈ st', x ∈ P ++ l) ∧ (P ++ l).getLast? = some t ∧ st'.getLast? = (P ++ l).head?) := by
  clear h
  induction l with
  | nil => intro P st _ _ h2; exact ⟨st, rfl, by simpa using h2⟩
  | cons q l ih =>
    intro P st hr h1 h2
    have e : P ++ q :: l = (P ++ [q]) ++ l := by simp
    rw [e] at hr ⊢
    rw [List.foldl_cons]
    refine ih (P ++ [q]) (q :: pop q st) hr (by simp) (fun _ => ?_)
    have hrP : Ris s (P ++ [q]) := (List.pairwise_append.1 hr).1
    have hq : ∀ p ∈ P, lx s p q := fun p hp => (List.pairwise_append.1 hrP).2.2 p hp q (by simp)
    by_cases hP : P = []
    · subst hP
      rw [h1 rfl]
      refine ⟨q, [], rfl, ?_, by simp [pop], by simp, by simp [pop]⟩
      intro p hp
      exact .inl (by simpa using hp)
    · obtain ⟨t, r, rfl, hc, hm, hl, hf⟩ := h2 hP
      have ht : ∀ p ∈ P, p = t ∨ lx s p t := by
        intro p hp
        obtain ⟨P', rfl⟩ : ∃ P', P = P' ++ [t] := by
          obtain ⟨P', x, rfl⟩ := List.eq_nil_or_concat P |>.resolve_left hP
          refine ⟨P', ?_⟩
          simp at hl; subst hl; simp
        rcases List.mem_append.1 hp with h | h
        · have := (List.pairwise_append.1 hrP).1
          exact .inr ((List.pairwise_append.1 this).2.2 p h t (by simp))
        · exact .inl (by simpa using h)
      have := chn_push hs hq hm hc ht
      refine ⟨q, _, rfl, this.1, this.2, by simp, ?_⟩
      have hfl : ∀ (st : List Point), st ≠ [] → (pop q st).getLast? = st.getLast? ∧ pop q st ≠ [] := by
        intro st
        induction st with
        | nil => intro h; exact (h rfl).elim
        | cons b st ih =>
          intro _
          cases st with
          | nil => exact ⟨rfl, by simp [pop]⟩
          | cons a r =>
            unfold pop
            split
            · obtain ⟨i1, i2⟩ := ih (by simp)
              exact ⟨by rw [i1]; simp, i2⟩
            · exact ⟨rfl, by simp⟩
      obtain ⟨f1, f2⟩ := hfl (t :: r) (by simp)
      rw [List.getLast?_cons, f1, hf]
      cases P with
      | nil => exact (hP rfl).elim
      | cons x P => simp

/-! Ways round. -/
def Cons (R : Point → Point → Prop) : List Point → Prop
  | a :: b :: r => R a b ∧ Cons R (b :: r)
  | [_] => True
  | [] => True
theorem Cons.join {R : Point → Point → Prop} {a : Point} {l2 : List Point} : ∀ {l1 : List Point}, Cons R (l1 ++ [a]) → Cons R (a :: l2) → Cons R (l1 ++ a :: l2)
  | [], _, h => h
  | [x], h1, h2 => ⟨h1.1, h2⟩
  | x :: y :: r, h1, h2 => ⟨h1.1, Cons.join (l1 := y :: r) h1.2 h2⟩
theorem Cons.mono {R S : Point → Point → Prop} (hRS : ∀ a b, R a b → S a b) : ∀ {l : List Point}, Cons R l → Cons S l
  | [], _ => trivial
  | [_], _ => trivial
  | a :: b :: r, h => ⟨hRS a b h.1, Cons.mono hRS (l := b :: r) h.2⟩
theorem Cons.pairwise {R : Point → Point → Prop} (tr : ∀ {a b c : Point}, R a b → R b c → R a c) : ∀ {l : List Point}, Cons R l → l.Pairwise R
  | [], _ => .nil
  | [_], _ => by simp
  | a :: b :: r, h => by
    have ih := Cons.pairwise @tr (l := b :: r) h.2
    refine List.pairwise_cons.2 ⟨fun x hx => ?_, ih⟩
    rcases List.mem_cons.1 hx with rfl | hx
    · exact h.1
    · exact tr h.1 ((List.pairwise_cons.1 ih).1 x hx)
theorem chn_cons {s : Int} {P : List Point} : ∀ {st : List Point}, Chn s P st → Cons (sup s P) st.reverse
  | [], _ => trivial
  | [_], _ => trivial
  | b :: a :: r, h => by
    have ih := chn_cons (st := a :: r) h.2.2
    simp only [List.reverse_cons, List.append_assoc, List.cons_append, List.nil_append] at ih ⊢
    exact Cons.join ih ⟨h.1, trivial⟩
theorem lx_neg {s : Int} {a b : Point} : lx (-s) a b ↔ lx s b a := by
  unfold lx
  have e1 : -s * (b.X - a.X) = s * (a.X - b.X) := by grind
  have e2 : -s * (b.Y - a.Y) = s * (a.Y - b.Y) := by grind
  rw [e1, e2]
theorem ris_rev {l : List Point} (h : Ris 1 l) : Ris (-1) l.reverse := by
  unfold Ris at *
  rw [List.pairwise_reverse]
  exact h.imp (fun h => lx_neg.2 h)
/-- The way there, and the way back. -/
def there (l : List Point) : List Point := (half l).reverse
def hull (l : List Point) : List Point := (there l).dropLast ++ (there l.reverse).dropLast
def E (L : List Point) (a b : Point) : Prop := sup 1 L a b ∨ sup (-1) L a b
theorem there_ok {s : Int} (hs : s = 1 ∨ s = -1) {l : List Point} (h : Ris s l) (hl : 2 ≤ l.length) : ∃ m M w, there l = m :: (w ++ [M]) ∧ l.head? = some m ∧ l.getLast? = some M ∧ Cons (sup s l) (there l) ∧ ∀ x ∈ there l, x ∈ l := by
  obtain ⟨st', h1, h2⟩ := half_ok hs h [] [] h (fun _ => rfl) (fun h => (h rfl).elim)
  have hne : l ≠ [] := by intro e; subst e; simp at hl
  obtain ⟨t, r, rfl, hc, hm, hL, hf⟩ := h2 hne
  have e : half l = t :: r := h1
  simp only [List.nil_append] at hc hm hL hf
  have hcc := chn_cons hc
  have hth : there l = (t :: r).reverse := by unfold there; rw [e]
  cases hr : r.reverse with
  | nil =>
    have : r = [] := by simpa using hr
    subst this
    simp at hf
    obtain ⟨x, y, r', rfl⟩ : ∃ x y r', l = x :: y :: r' := by
      match l, hl with
      | x :: y :: r', _ => exact ⟨x, y, r', rfl⟩
    simp at hf
    subst hf
    have h3 : t ∈ y :: r' := by
      rw [List.getLast?_cons] at hL
      have : (y :: r').getLast? = some t := by
        cases hq : (y :: r').getLast? with
        | none => simp at hq
        | some z => rw [hq] at hL; simpa using hL
      exact List.mem_of_getLast? this
    exact (lx_irr ((List.pairwise_cons.1 h).1 t h3)).elim
  | cons m w =>
    refine ⟨m, t, w, ?_, ?_, hL, ?_, ?_⟩
    · rw [hth, List.reverse_cons, hr]; rfl
    · rw [← hf, List.getLast?_eq_head?_reverse, List.reverse_cons, hr]; rfl
    · rw [hth]; exact hcc
    · intro x hx
      rw [hth] at hx
      exact hm x (List.mem_reverse.1 hx)
theorem sup_mem {s : Int} {P Q : List Point} {a b : Point} (h : sup s P a b) (hPQ : ∀ x, x ∈ Q → x ∈ P) : sup s Q a b := ⟨h.1, fun p hp => h.2 p (hPQ p hp)⟩
/-- The corners, one after the other, and back to the first one. -/
theorem hull_ok {L : List Point} (h : Ris 1 L) (hl : 2 ≤ L.length) : ∃ m M v w, hull L = m :: (v ++ M :: w) ∧ L.head? = some m ∧
    Cons (sup 1 L) (m :: (v ++ [M])) ∧ Cons (sup (-1) L) (M :: (w ++ [m])) ∧ (∀ x ∈ hull L, x ∈ L) := by
  obtain ⟨m, M, v, h1, h2, h3, h4, h5⟩ := there_ok (.inl rfl) h hl
  obtain ⟨M', m', w, k1, k2, k3, k4, k5⟩ := there_ok (.inr rfl) (ris_rev h) (by simpa using hl)
  simp only [List.head?_reverse, List.getLast?_reverse] at k2 k3
  rw [h2] at k3; rw [h3] at k2
  cases k2; cases k3
  refine ⟨m, M, v, w, ?_, h2, ?_, ?_, ?_⟩
  · unfold hull; rw [h1, k1]
    rw [← List.cons_append, ← List.cons_append, List.dropLast_concat, List.dropLast_concat]; simp
  · rw [← h1]; exact h4
  · rw [← k1]; exact k4.mono (fun a b h => sup_mem h (fun x hx => List.mem_reverse.2 hx))
  · intro x hx
    unfold hull at hx
    rcases List.mem_append.1 hx with hx | hx
    · exact h5 x (List.dropLast_subset _ hx)
    · exact List.mem_reverse.1 (k5 x (List.dropLast_subset _ hx))

theorem inner {d t v w : Int} (hd : 0 < d) (h0 : 0 ≤ t) (h1 : t ≤ d) (e : d * v = w * t) : 0 ≤ v ∧ v ≤ w ∨ w ≤ v ∧ v ≤ 0 := by
  rcases Int.lt_or_le w 0 with hw | hw
  · refine .inr ⟨?_, ?_⟩
    · rcases Int.lt_or_le v w with h | h
      · have a1 : d * v < d * w := Int.mul_lt_mul_of_pos_left h hd
        have a2 : w * t ≥ w * d := Int.mul_le_mul_of_nonpos_left (Int.le_of_lt hw) h1
        have a3 : w * d = d * w := Int.mul_comm _ _
        omega
      · exact h
    · rcases Int.lt_or_le 0 v with h | h
      · have a1 : 0 < d * v := Int.mul_pos hd h
        have a2 : w * t ≤ 0 := Int.mul_nonpos_of_nonpos_of_nonneg (Int.le_of_lt hw) h0
        omega
      · exact h
  · refine .inl ⟨?_, ?_⟩
    · rcases Int.lt_or_le v 0 with h | h
      · have a1 : d * v < 0 := Int.mul_neg_of_pos_of_neg hd h
        have a2 : 0 ≤ w * t := Int.mul_nonneg hw h0
        omega
      · exact h
    · rcases Int.lt_or_le w v with h | h
      · have a1 : d * w < d * v := Int.mul_lt_mul_of_pos_left h hd
        have a2 : w * t ≤ w * d := Int.mul_le_mul_of_nonneg_left h1 hw
        have a3 : w * d = d * w := Int.mul_comm _ _
        omega
      · exact h
theorem bt_on {s : Int} (hs : s = 1 ∨ s = -1) {a b p : Point} (hab : lx s a b) (h : bt s a b p) (hc : cr a b p = 0) : On a b p := by
  obtain ⟨h1, h2⟩ := h
  rcases h1 with rfl | h1
  · unfold On; omega
  rcases h2 with rfl | h2
  · unfold On; omega
  unfold lx Ps at hab h1 h2
  have e : (s * (b.X - a.X)) * (p.Y - a.Y) = (b.Y - a.Y) * (s * (p.X - a.X)) := by
    have : s * cr a b p = 0 := by rw [hc]; exact Int.mul_zero _
    unfold cr at this; grind
  rcases hab with hd | ⟨hd, hy⟩
  · have := inner (t := s * (p.X - a.X)) hd (by rcases h1 with h | h <;> omega) (by
      have : s * (b.X - a.X) = s * (p.X - a.X) + s * (b.X - p.X) := by grind
      rcases h2 with h | h <;> omega) e
    unfold On
    rcases hs with rfl | rfl <;> omega
  · unfold On
    rcases hs with rfl | rfl <;> omega
def far (a b : Point) : Int := max (a.X - b.X) (-(a.X - b.X)) + max (a.Y - b.Y) (-(a.Y - b.Y))
theorem on_far {a b p : Point} (h : On a b p) : far a p ≤ far a b ∧ (far a p = far a b → p = b) := by
  obtain ⟨ax, ay⟩ := a
  obtain ⟨bx, by_⟩ := b
  obtain ⟨px, py⟩ := p
  unfold On at h
  unfold far
  simp only [Point.mk.injEq] at *
  omega
theorem cr_flip (a b c : Point) : cr a b c = - cr a c b := by unfold cr; grind
theorem E_ne {L : List Point} {a b : Point} (h : E L a b) : a ≠ b := by rcases h with h | h <;> exact lx_ne h.1
theorem E_left {L : List Point} {a b p : Point} (h : E L a b) (hp : p ∈ L) : 0 ≤ cr a b p ∧ (cr a b p = 0 → On a b p) := by
  rcases h with h | h
  · exact ⟨(h.2 p hp).1, fun e => bt_on (.inl rfl) h.1 ((h.2 p hp).2 e) e⟩
  · exact ⟨(h.2 p hp).1, fun e => bt_on (.inr rfl) h.1 ((h.2 p hp).2 e) e⟩
/-- One look of the other road: which point comes next. -/
def jstep (a : Point) (s : Point × Bool) (p : Point) : Point × Bool :=
  if p = a then s else if s.2 = false then (p, true) else if cr a s.1 p < 0 ∨ cr a s.1 p = 0 ∧ far a s.1 < far a p then (p, true) else s
theorem jfold {L : List Point} {a b : Point} (hE : E L a b) : ∀ (l pre : List Point) (s : Point × Bool), (∀ x ∈ pre ++ l, x ∈ L) →
    (s.2 = false → s.1 = a ∧ ∀ x ∈ pre, x = a) → (s.2 = true → s.1 ∈ L ∧ s.1 ≠ a) → (b ∈ pre → s = (b, true)) → b ∈ pre ++ l → l.foldl (jstep a) s = (b, true) := by
  intro l
  induction l with
  | nil => intro pre s _ _ _ h4 h5; exact h4 (by simpa using h5)
  | cons p l ih =>
    intro pre s h1 h2 h3 h4 h5
    have e : pre ++ p :: l = (pre ++ [p]) ++ l := by simp
    rw [e] at h1 h5
    have hp : p ∈ L := h1 p (by simp)
    rw [List.foldl_cons]
    have hab := E_ne hE
    refine ih (pre ++ [p]) _ h1 ?_ ?_ ?_ h5
    · unfold jstep
      split
      · intro h
        refine ⟨(h2 h).1, fun x hx => ?_⟩
        rcases List.mem_append.1 hx with hx | hx
        · exact (h2 h).2 x hx
        · rw [List.mem_singleton.1 hx]; assumption
      · split
        · intro h; cases h
        · split
          · intro h; cases h
          · intro h; contradiction
    · unfold jstep
      split
      · exact h3
      · split
        · intro _; exact ⟨hp, by assumption⟩
        · split
          · intro _; exact ⟨hp, by assumption⟩
          · exact h3
    · intro hb
      unfold jstep
      by_cases hpa : p = a
      · rw [if_pos hpa]
        rcases List.mem_append.1 hb with hb | hb
        · exact h4 hb
        · rw [← List.mem_singleton.1 hb] at hpa; exact (hab hpa.symm).elim
      rw [if_neg hpa]
      by_cases hf : s.2 = false
      · rw [if_pos hf]
        rcases List.mem_append.1 hb with hb | hb
        · exact (hab ((h2 hf).2 b hb).symm).elim
        · rw [List.mem_singleton.1 hb]
      rw [if_neg hf]
      have hf' : s.2 = true := by simpa using hf
      by_cases hpb : p = b
      · subst hpb
        split
        · rfl
        · rename_i hn
          have hl := E_left hE (h3 hf').1
          rw [cr_flip] at hl
          have hz : cr a s.1 p = 0 := by omega
          have := on_far (hl.2 (by omega))
          have h6 : s.1 = p := this.2 (by omega)
          rw [← h6, ← hf']
      · have hbp : b ∈ pre := by
          rcases List.mem_append.1 hb with hb | hb
          · exact hb
          · exact (hpb (List.mem_singleton.1 hb).symm).elim
        rw [h4 hbp]
        have hl := E_left hE hp
        rw [if_neg]
        simp only
        intro hor
        rcases hor with h | ⟨h, h'⟩
        · omega
        · have := on_far (hl.2 h); omega
theorem jnext {L : List Point} {a b : Point} (hE : E L a b) (hb : b ∈ L) : L.foldl (jstep a) (a, false) = (b, true) :=
  jfold hE L [] (a, false) (fun _ h => by simpa using h) (fun _ => ⟨rfl, fun _ h => by cases h⟩) (fun h => by cases h) (fun h => by cases h) (by simpa using hb)

/-! What is inside. -/
def edg : List Point → List (Point × Point)
  | a :: b :: r => (a, b) :: edg (b :: r)
  | [_] => []
  | [] => []
theorem edg_join {a : Point} {l2 : List Point} : ∀ {l1 : List Point}, edg (l1 ++ a :: l2) = edg (l1 ++ [a]) ++ edg (a :: l2)
  | [] => rfl
  | [x] => rfl
  | x :: y :: r => by
    have := edg_join (a := a) (l2 := l2) (l1 := y :: r)
    simp only [List.cons_append, edg] at this ⊢
    rw [this]
theorem edg_cons {R : Point → Point → Prop} : ∀ {l : List Point}, Cons R l → ∀ e ∈ edg l, R e.1 e.2
  | [], _, e, he => by cases he
  | [_], _, e, he => by cases he
  | a :: b :: r, h, e, he => by
    rcases List.mem_cons.1 he with rfl | he
    · exact h.1
    · exact edg_cons h.2 e he
theorem edg_fst : ∀ {l : List Point}, (edg l).map Prod.fst = l.dropLast
  | [] => rfl
  | [_] => rfl
  | a :: b :: r => by simp only [edg, List.map_cons, List.dropLast_cons_cons, edg_fst (l := b :: r)]
theorem edg_len : ∀ {l : List Point}, (edg l).length = l.length - 1
  | [] => rfl
  | [_] => rfl
  | a :: b :: r => by simp only [edg, List.length_cons, edg_len (l := b :: r)]; omega
theorem edg_get : ∀ {l : List Point} {i : Nat} (h : i < (edg l).length), (edg l)[i] = (l[i]'(by rw [edg_len] at h; omega), l[i + 1]'(by rw [edg_len] at h; omega))
  | [], i, h => by simp [edg] at h
  | [_], i, h => by simp [edg] at h
  | a :: b :: r, 0, h => rfl
  | a :: b :: r, i + 1, h => by
    have := edg_get (l := b :: r) (i := i) (by simpa [edg] using h)
    simpa [edg] using this
def up (p : Point) (e : Point × Point) : Bool := decide (e.1.Y ≤ p.Y) && decide (p.Y < e.2.Y)
/-- Two ways that go up past p, each with the other one to its left, are one. -/
theorem up_one {a b c d p : Point} (h1 : a.Y ≤ p.Y) (h2 : p.Y < b.Y) (h3 : c.Y ≤ p.Y) (h4 : p.Y < d.Y)
    (k1 : 0 ≤ cr a b c ∧ (cr a b c = 0 → On a b c)) (k2 : 0 ≤ cr a b d ∧ (cr a b d = 0 → On a b d)) (k3 : 0 ≤ cr c d a ∧ (cr c d a = 0 → On c d a)) (k4 : 0 ≤ cr c d b ∧ (cr c d b = 0 → On c d b)) : a = c ∧ b = d := by
  have e : (2 * d.Y - (2 * p.Y + 1)) * cr a b c + ((2 * p.Y + 1) - 2 * c.Y) * cr a b d + (2 * b.Y - (2 * p.Y + 1)) * cr c d a + ((2 * p.Y + 1) - 2 * a.Y) * cr c d b = 0 := by unfold cr; grind
  have z : ∀ {w x : Int}, 0 < w → 0 ≤ x → 0 ≤ w * x ∧ (w * x = 0 → x = 0) := fun hw hx => ⟨Int.mul_nonneg (Int.le_of_lt hw) hx, fun h => by
    rcases Int.mul_eq_zero.1 h with h | h
    · omega
    · exact h⟩
  have z1 := z (w := 2 * d.Y - (2 * p.Y + 1)) (by omega) k1.1
  have z2 := z (w := (2 * p.Y + 1) - 2 * c.Y) (by omega) k2.1
  have z3 := z (w := 2 * b.Y - (2 * p.Y + 1)) (by omega) k3.1
  have z4 := z (w := (2 * p.Y + 1) - 2 * a.Y) (by omega) k4.1
  have q1 := z1.2 (by omega)
  have q2 := z2.2 (by omega)
  have q3 := z3.2 (by omega)
  have q4 := z4.2 (by omega)
  have o1 := k1.2 q1
  have o2 := k2.2 q2
  have o3 := k3.2 q3
  have o4 := k4.2 q4
  unfold On at o1 o2 o3 o4
  have y1 : a.Y = c.Y := by omega
  have y2 : b.Y = d.Y := by omega
  have x1 : (b.Y - a.Y) * (c.X - a.X) = 0 := by unfold cr at q1; rw [y1] at q1 ⊢; grind
  have x2 : (b.Y - a.Y) * (d.X - b.X) = 0 := by unfold cr at q2; rw [← y2] at q2; grind
  have x3 : c.X - a.X = 0 := (Int.mul_eq_zero.1 x1).resolve_left (by omega)
  have x4 : d.X - b.X = 0 := (Int.mul_eq_zero.1 x2).resolve_left (by omega)
  obtain ⟨ax, ay⟩ := a
  obtain ⟨bx, by_⟩ := b
  obtain ⟨cx, cy⟩ := c
  obtain ⟨dx, dy⟩ := d
  simp only [Point.mk.injEq] at *
  omega
/-- Some stretch of a rising way is over (under) p. -/
theorem cover {s : Int} (hs : s = 1 ∨ s = -1) {p : Point} : ∀ {a : Point} {l : List Point}, Cons (lx s) (a :: l) → l ≠ [] → (p = a ∨ lx s a p) → (∀ M, (a :: l).getLast? = some M → p = M ∨ lx s p M) → ∃ e ∈ edg (a :: l), bt s e.1 e.2 p
  | a, [], _, h, _, _ => (h rfl).elim
  | a, [b], hc, _, h1, h2 => ⟨(a, b), by simp [edg], h1, h2 b rfl⟩
  | a, b :: c :: r, hc, _, h1, h2 => by
    rcases lx_tri hs p b with h | h | h
    · exact ⟨(a, b), by simp [edg], h1, .inl h⟩
    · exact ⟨(a, b), by simp [edg], h1, .inr h⟩
    · obtain ⟨e, he, h3⟩ := cover hs (p := p) (a := b) (l := c :: r) hc.2 (by simp) (.inr h) (fun M hM => h2 M (by rw [List.getLast?_cons_cons]; exact hM))
      exact ⟨e, by simp only [edg] at he ⊢; exact List.mem_cons_of_mem _ he, h3⟩
theorem over {a b p : Point} (h : bt 1 a b p) (hc : 0 < cr a b p) : a.Y < p.Y ∨ b.Y < p.Y := by
  obtain ⟨h1, h2⟩ := h
  rcases Int.lt_or_le a.Y p.Y with h3 | h3
  · exact .inl h3
  rcases Int.lt_or_le b.Y p.Y with h4 | h4
  · exact .inr h4
  have t0 : 0 ≤ p.X - a.X := by rcases h1 with rfl | h; · omega
                                · unfold lx Ps at h; omega
  have t1 : 0 ≤ b.X - p.X := by rcases h2 with rfl | h; · omega
                                · unfold lx Ps at h; omega
  have e : cr a b p = -((b.X - p.X) * (a.Y - p.Y)) - (p.X - a.X) * (b.Y - p.Y) := by unfold cr; grind
  have := Int.mul_nonneg t1 (show 0 ≤ a.Y - p.Y by omega)
  have := Int.mul_nonneg t0 (show 0 ≤ b.Y - p.Y by omega)
  omega
theorem under {a b p : Point} (h : bt (-1) a b p) (hc : 0 < cr a b p) : p.Y < a.Y ∨ p.Y < b.Y := by
  obtain ⟨h1, h2⟩ := h
  rcases Int.lt_or_le p.Y a.Y with h3 | h3
  · exact .inl h3
  rcases Int.lt_or_le p.Y b.Y with h4 | h4
  · exact .inr h4
  have t0 : 0 ≤ a.X - p.X := by rcases h1 with rfl | h; · omega
                                · unfold lx Ps at h; omega
  have t1 : 0 ≤ p.X - b.X := by rcases h2 with rfl | h; · omega
                                · unfold lx Ps at h; omega
  have e : cr a b p = -((p.X - b.X) * (p.Y - a.Y)) - (a.X - p.X) * (p.Y - b.Y) := by unfold cr; grind
  have := Int.mul_nonneg t1 (show 0 ≤ p.Y - a.Y by omega)
  have := Int.mul_nonneg t0 (show 0 ≤ p.Y - b.Y by omega)
  omega
/-- With no way up, what is not above p stays so. -/
theorem no_up {p : Point} : ∀ {l : List Point}, (∀ e ∈ edg l, up p e = false) → ∀ {i : Nat} (hi : i < l.length), (l[i]).Y ≤ p.Y → ∀ M, l.getLast? = some M → M.Y ≤ p.Y
  | [], _, i, hi, _, M, h => by cases h
  | [a], _, 0, hi, h, M, hM => by simp at hM; subst hM; exact h
  | [a], _, i + 1, hi, h, M, hM => by simp at hi
  | a :: b :: r, hu, 0, hi, h, M, hM => by
    have := hu (a, b) (by simp [edg])
    unfold up at this
    simp only [List.getElem_cons_zero] at h
    have hb : b.Y ≤ p.Y := by
      rcases Int.lt_or_le p.Y b.Y with h' | h'
      · simp [h, h'] at this
      · exact h'
    exact no_up (l := b :: r) (fun e he => hu e (by simp only [edg]; exact List.mem_cons_of_mem _ he)) (i := 0) (by simp) hb M (by rw [List.getLast?_cons_cons] at hM; exact hM)
  | a :: b :: r, hu, i + 1, hi, h, M, hM =>
    no_up (l := b :: r) (fun e he => hu e (by simp only [edg]; exact List.mem_cons_of_mem _ he)) (i := i) (by simpa using hi) (by simpa using h) M (by rw [List.getLast?_cons_cons] at hM; exact hM)
theorem edg_mem : ∀ {l : List Point} {e : Point × Point}, e ∈ edg l → e.1 ∈ l ∧ e.2 ∈ l
  | [], e, h => by cases h
  | [_], e, h => by cases h
  | a :: b :: r, e, h => by
    rcases List.mem_cons.1 h with rfl | h
    · simp
    · have := edg_mem (l := b :: r) h
      exact ⟨List.mem_cons_of_mem _ this.1, List.mem_cons_of_mem _ this.2⟩
/-- Just one way goes up past a point that is inside. -/
theorem ups_one {L : List Point} (h : Ris 1 L) (hl : 2 ≤ L.length) {m : Point} (hm : L.head? = some m) {p : Point} (hp : p ∈ L) (hs : ∀ e ∈ edg (hull L ++ [m]), 0 < cr e.1 e.2 p) : ((edg (hull L ++ [m])).filter (up p)).length = 1 := by
  obtain ⟨m', M, v, w, h1, h2, h3, h4, h5⟩ := hull_ok h hl
  rw [hm] at h2; cases h2
  have e0 : hull L ++ [m] = (m :: v) ++ M :: (w ++ [m]) := by rw [h1]; simp
  have e1 : edg (hull L ++ [m]) = edg (m :: (v ++ [M])) ++ edg (M :: (w ++ [m])) := by rw [e0, edg_join]; simp
  have c3 := h3.mono (S := lx 1) (fun _ _ h => h.1)
  have c4 := h4.mono (S := lx (-1)) (fun _ _ h => h.1)
  have hin : ∀ x ∈ hull L ++ [m], x ∈ L := by
    intro x hx
    rcases List.mem_append.1 hx with hx | hx
    · exact h5 x hx
    · rw [List.mem_singleton.1 hx]; exact h5 m (by rw [h1]; simp)
  have hE : ∀ e ∈ edg (hull L ++ [m]), E L e.1 e.2 := by
    intro e he
    rw [e1] at he
    rcases List.mem_append.1 he with he | he
    · exact .inl (edg_cons h3 e he)
    · exact .inr (edg_cons h4 e he)
  have same : ∀ e ∈ edg (hull L ++ [m]), ∀ f ∈ edg (hull L ++ [m]), up p e = true → up p f = true → e = f := by
    intro e he f hf he' hf'
    simp only [up, Bool.and_eq_true, decide_eq_true_eq] at he' hf'
    have me := edg_mem he
    have mf := edg_mem hf
    have := up_one he'.1 he'.2 hf'.1 hf'.2 (E_left (hE e he) (hin _ mf.1)) (E_left (hE e he) (hin _ mf.2)) (E_left (hE f hf) (hin _ me.1)) (E_left (hE f hf) (hin _ me.2))
    exact Prod.ext this.1 this.2
  have pw : (edg (hull L ++ [m])).Pairwise (fun e f => e ≠ f) := by
    rw [e1]
    have one : ∀ {s : Int} {l : List Point}, Cons (lx s) l → (edg l).Pairwise (fun e f => e ≠ f) := by
      intro s l hc
      have := hc.pairwise (@lx_trans _)
      have h6 : (l.dropLast).Pairwise (lx s) := this.sublist (List.dropLast_sublist _)
      rw [← edg_fst, List.pairwise_map] at h6
      exact h6.imp (fun {e f} h (q : e = f) => lx_ne h (by rw [q]))
    refine List.pairwise_append.2 ⟨one c3, one c4, ?_⟩
    intro e he f hf ef
    subst ef
    have a1 := edg_cons c3 e he
    have a2 := lx_neg.1 (edg_cons c4 e hf)
    exact lx_asymm a1 a2
  have le : ((edg (hull L ++ [m])).filter (up p)).length ≤ 1 := by
    have hf := pw.filter (up p)
    match hq : (edg (hull L ++ [m])).filter (up p), hf with
    | [], _ => simp
    | [_], _ => simp
    | e :: f :: r, hf =>
      have me : e ∈ (edg (hull L ++ [m])).filter (up p) := by rw [hq]; simp
      have mf : f ∈ (edg (hull L ++ [m])).filter (up p) := by rw [hq]; simp
      have me' := List.mem_filter.1 me
      have mf' := List.mem_filter.1 mf
      exact ((List.pairwise_cons.1 hf).1 f (by simp) (same e me'.1 f mf'.1 me'.2 mf'.2)).elim
  have ge : ((edg (hull L ++ [m])).filter (up p)).length ≠ 0 := by
    intro h0
    have hn : ∀ e ∈ edg (hull L ++ [m]), up p e = false := by
      intro e he
      have := List.filter_eq_nil_iff.1 (List.length_eq_zero_iff.1 h0) e he
      simpa using this
    have hlast : (hull L ++ [m]).getLast? = some m := by simp
    -- some corner is not above p
    have hmin : ∀ q ∈ L, q = m ∨ lx 1 m q := by
      cases L with
      | nil => cases hm
      | cons x r =>
        cases hm
        intro q hq
        rcases List.mem_cons.1 hq with rfl | hq
        · exact .inl rfl
        · exact .inr ((List.pairwise_cons.1 h).1 q hq)
    have c3p := c3.pairwise (@lx_trans _)
    have c4p := c4.pairwise (@lx_trans _)
    have hmax : p = M ∨ lx 1 p M := by
      -- M is the greatest one: from the first way
      rcases lx_tri (s := 1) (.inl rfl) p M with h6 | h6 | h6
      · exact .inl h6
      · exact .inr h6
      · -- p behind M: then p is not to the left of both ways at M
        exfalso
        obtain ⟨a, ha⟩ : ∃ a, (a, M) ∈ edg (m :: (v ++ [M])) := by
          rcases List.eq_nil_or_concat (m :: v) with h7 | ⟨z, y, h7⟩
          · cases h7
          · refine ⟨y, ?_⟩
            have : m :: (v ++ [M]) = z ++ y :: [M] := by rw [← List.cons_append, h7]; simp
            rw [this, edg_join]; simp [edg]
        obtain ⟨b, hb⟩ : ∃ b, (M, b) ∈ edg (M :: (w ++ [m])) := by
          cases w with
          | nil => exact ⟨m, by simp [edg]⟩
          | cons y z => exact ⟨y, by simp [edg]⟩
        have s1 := edg_cons h3 _ ha
        have s2 := edg_cons h4 _ hb
        have l1 := hs (a, M) (by rw [e1]; exact List.mem_append.2 (.inl ha))
        have l2 := hs (M, b) (by rw [e1]; exact List.mem_append.2 (.inr hb))
        have ab : 0 ≤ cr a M b := (s1.2 b (hin b (edg_mem (l := hull L ++ [m]) (by rw [e1]; exact List.mem_append.2 (.inr hb))).2)).1
        have hba : lx 1 b M := lx_neg.1 s2.1
        -- at M: a and b lie ahead, p behind
        have g1 := tr1 (ux := p.X - M.X) (uy := p.Y - M.Y) (vx := M.X - b.X) (vy := M.Y - b.Y) (wx := M.X - a.X) (wy := M.Y - a.Y) (by unfold lx at h6; simpa using h6) (by unfold lx at hba; simpa using hba) (by have := s1.1; unfold lx at this; simpa using this)
          (by simp only at l2; unfold cr at l2; grind) (by unfold cr at ab; grind)
        simp only at l1
        unfold cr at l1
        have : (p.X - M.X) * (M.Y - a.Y) - (p.Y - M.Y) * (M.X - a.X) = -((M.X - a.X) * (p.Y - a.Y) - (M.Y - a.Y) * (p.X - a.X)) := by grind
        omega
    have la1 : (m :: (v ++ [M])).getLast? = some M := by rw [← List.cons_append, List.getLast?_concat]
    have la2 : (M :: (w ++ [m])).getLast? = some m := by rw [← List.cons_append, List.getLast?_concat]
    obtain ⟨e, he, hbt⟩ := cover (.inl rfl) (p := p) c3 (by simp) (hmin p hp) (fun M' hM' => by rw [la1] at hM'; cases hM'; exact hmax)
    obtain ⟨f, hf, hbf⟩ := cover (.inr rfl) (p := p) c4 (by simp) (hmax.imp id (fun h => lx_neg.2 h)) (fun m' hm' => by rw [la2] at hm'; cases hm'; exact (hmin p hp).imp id (fun h => lx_neg.2 h))
    have he' : e ∈ edg (hull L ++ [m]) := by rw [e1]; exact List.mem_append.2 (.inl he)
    have hf' : f ∈ edg (hull L ++ [m]) := by rw [e1]; exact List.mem_append.2 (.inr hf)
    have o1 := over hbt (hs e he')
    have o2 := under hbf (hs f hf')
    have low : ∀ {x : Point}, x ∈ hull L ++ [m] → x.Y ≤ p.Y → m.Y ≤ p.Y := by
      intro x hx hxy
      obtain ⟨i, hi, rfl⟩ := List.getElem_of_mem hx
      exact no_up hn hi hxy m hlast
    have hmY : m.Y ≤ p.Y := by
      rcases o1 with o | o
      · exact low (edg_mem he').1 (Int.le_of_lt o)
      · exact low (edg_mem he').2 (Int.le_of_lt o)
    -- then all corners are not above p
    have all : ∀ (k : Nat) (hk : k < (hull L ++ [m]).length), ((hull L ++ [m])[k]).Y ≤ p.Y := by
      intro k
      induction k with
      | zero => intro hk; rw [List.getElem_append_left (by rw [h1]; simp)]; simp [h1, hmY]
      | succ k ih =>
        intro hk
        have hke : k < (edg (hull L ++ [m])).length := by rw [edg_len]; omega
        have := hn _ (List.getElem_mem hke)
        rw [edg_get hke] at this
        have i0 := ih (by omega)
        unfold up at this
        rcases Int.lt_or_le p.Y ((hull L ++ [m])[k + 1]).Y with h' | h'
        · simp [i0, h'] at this
        · exact h'
    have high : ∀ {x : Point}, x ∈ hull L ++ [m] → x.Y ≤ p.Y := by
      intro x hx
      obtain ⟨i, hi, rfl⟩ := List.getElem_of_mem hx
      exact all i hi
    rcases o2 with o | o
    · have := high (edg_mem hf').1; omega
    · have := high (edg_mem hf').2; omega
  omega
end Go.DB.Hull
