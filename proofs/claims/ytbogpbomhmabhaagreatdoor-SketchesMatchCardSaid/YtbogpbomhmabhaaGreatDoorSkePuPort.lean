/-
  Ports: the code and the reference agree.
-/
import Derived.Test.YtbogpbomhmabhaaGreatDoorSkePuHas
set_option linter.unusedSimpArgs false
set_option linter.unusedVariables false
namespace Go.DB
open Go Go.RowKit

/-- The first number from lo on for which p holds, if there is one up to hi. -/
def FirstUp (p : Int → Bool) (lo hi : Int) (o : Option Int) : Prop := match o with
  | some k => lo ≤ k ∧ k ≤ hi ∧ p k = true ∧ ∀ j, lo ≤ j → j < k → p j = false
  | none => ∀ j, lo ≤ j → j ≤ hi → p j = false
def FirstDn (p : Int → Bool) (lo hi : Int) (o : Option Int) : Prop := match o with
  | some k => lo ≤ k ∧ k ≤ hi ∧ p k = true ∧ ∀ j, k < j → j ≤ hi → p j = false
  | none => ∀ j, lo ≤ j → j ≤ hi → p j = false
theorem FirstUp.one {p : Int → Bool} {lo hi : Int} {a b : Option Int} (ha : FirstUp p lo hi a) (hb : FirstUp p lo hi b) : a = b := by
  cases a with
  | none =>
    cases b with
    | none => rfl
    | some k => obtain ⟨h1, h2, h3, _⟩ := hb; rw [ha k h1 h2] at h3; cases h3
  | some j =>
    obtain ⟨g1, g2, g3, g4⟩ := ha
    cases b with
    | none => rw [hb j g1 g2] at g3; cases g3
    | some k =>
      obtain ⟨h1, h2, h3, h4⟩ := hb
      rcases Int.lt_trichotomy j k with h | h | h
      · rw [h4 j g1 h] at g3; cases g3
      · rw [h]
      · rw [g4 k h1 h] at h3; cases h3
theorem FirstDn.one {p : Int → Bool} {lo hi : Int} {a b : Option Int} (ha : FirstDn p lo hi a) (hb : FirstDn p lo hi b) : a = b := by
  cases a with
  | none =>
    cases b with
    | none => rfl
    | some k => obtain ⟨h1, h2, h3, _⟩ := hb; rw [ha k h1 h2] at h3; cases h3
  | some j =>
    obtain ⟨g1, g2, g3, g4⟩ := ha
    cases b with
    | none => rw [hb j g1 g2] at g3; cases g3
    | some k =>
      obtain ⟨h1, h2, h3, h4⟩ := hb
      rcases Int.lt_trichotomy j k with h | h | h
      · rw [g4 k h h2] at h3; cases h3
      · rw [h]
      · rw [h4 j h g2] at g3; cases g3
def res2 : Option Int → Int × Bool
  | some k => (k, true)
  | none => (0, false)

theorem up_loop {ρ : Type} {p : Int → Bool} {lo hi : Int} {body : Int → Option (Step Int ρ)} (mk : Option Int → ρ) (hlh : lo ≤ hi)
    (hs : ∀ n, lo ≤ n → n ≤ hi → (p n = true → body n = some (.done (mk (some n)))) ∧ (p n = false → n < hi → body n = some (.again (n + 1))))
    (he : p hi = false → body hi = some (.done (mk none)) ∨ (body hi = some (.again (hi + 1)) ∧ body (hi + 1) = some (.done (mk none)))) : ∃ o, FirstUp p lo hi o ∧ loop body lo = some (mk o) := by
  obtain ⟨e, h1, o, h2, h3⟩ := loop_inv (body := body) (s0 := lo) (fun n => lo ≤ n ∧ n ≤ hi + 1 ∧ (n = hi + 1 → body (hi + 1) = some (.done (mk none))) ∧ ∀ j, lo ≤ j → j < n → p j = false) (fun n => (hi + 1 - n).toNat) (fun e => ∃ o, FirstUp p lo hi o ∧ e = mk o) ⟨by omega, by omega, fun e => by omega, fun j h1 h2 => by omega⟩ (fun n hI => by
    obtain ⟨i1, i2, i3, i4⟩ := hI
    by_cases c : n = hi + 1
    · right
      subst c
      exact ⟨_, i3 rfl, none, fun j h1 h2 => i4 j h1 (by omega), rfl⟩
    · obtain ⟨h1, h2⟩ := hs n i1 (by omega)
      cases hp : p n with
      | true => right; exact ⟨_, h1 hp, some n, ⟨i1, by omega, hp, i4⟩, rfl⟩
      | false =>
        have hall : ∀ j, lo ≤ j → j < n + 1 → p j = false := fun j j1 j2 => by
          by_cases cj : j < n
          · exact i4 j j1 cj
          · have : j = n := by omega
            rw [this, hp]
        by_cases c2 : n = hi
        · subst c2
          rcases he hp with q | ⟨q1, q2⟩
          · right; exact ⟨_, q, none, fun j j1 j2 => hall j j1 (by omega), rfl⟩
          · left; exact ⟨_, q1, ⟨by omega, by omega, fun _ => q2, hall⟩, by omega⟩
        · left; exact ⟨_, h2 hp (by omega), ⟨by omega, by omega, fun e => by omega, hall⟩, by omega⟩)
  exact ⟨o, h2, by rw [h1, h3]⟩
theorem dn_loop {ρ : Type} {p : Int → Bool} {lo hi : Int} {body : Int → Option (Step Int ρ)} (mk : Option Int → ρ) (hlh : lo ≤ hi)
    (hs : ∀ n, lo ≤ n → n ≤ hi → (p n = true → body n = some (.done (mk (some n)))) ∧ (p n = false → lo < n → body n = some (.again (n - 1))))
    (he : p lo = false → body lo = some (.done (mk none)) ∨ (body lo = some (.again (lo - 1)) ∧ body (lo - 1) = some (.done (mk none)))) : ∃ o, FirstDn p lo hi o ∧ loop body hi = some (mk o) := by
  obtain ⟨e, h1, o, h2, h3⟩ := loop_inv (body := body) (s0 := hi) (fun n => lo - 1 ≤ n ∧ n ≤ hi ∧ (n = lo - 1 → body (lo - 1) = some (.done (mk none))) ∧ ∀ j, n < j → j ≤ hi → p j = false) (fun n => (n - lo + 1).toNat) (fun e => ∃ o, FirstDn p lo hi o ∧ e = mk o) ⟨by omega, by omega, fun e => by omega, fun j h1 h2 => by omega⟩ (fun n hI => by
    obtain ⟨i1, i2, i3, i4⟩ := hI
    by_cases c : n = lo - 1
    · right
      subst c
      exact ⟨_, i3 rfl, none, fun j h1 h2 => i4 j (by omega) h2, rfl⟩
    · obtain ⟨h1, h2⟩ := hs n (by omega) i2
      cases hp : p n with
      | true => right; exact ⟨_, h1 hp, some n, ⟨by omega, i2, hp, i4⟩, rfl⟩
      | false =>
        have hall : ∀ j, n - 1 < j → j ≤ hi → p j = false := fun j j1 j2 => by
          by_cases cj : n < j
          · exact i4 j cj j2
          · have : j = n := by omega
            rw [this, hp]
        by_cases c2 : n = lo
        · subst c2
          rcases he hp with q | ⟨q1, q2⟩
          · right; exact ⟨_, q, none, fun j j1 j2 => hall j (by omega) j2, rfl⟩
          · left; exact ⟨_, q1, ⟨by omega, by omega, fun _ => q2, hall⟩, by omega⟩
        · left; exact ⟨_, h2 hp (by omega), ⟨by omega, by omega, fun e => by omega, hall⟩, by omega⟩)
  exact ⟨o, h2, by rw [h1, h3]⟩

theorem edge_up {p : Int → Bool} {f : Int → Option Bool} {lo hi : Int} (hlh : lo < hi) (b1 : -4000000 ≤ lo) (b2 : hi ≤ 4000000) (hf : ∀ n, lo ≤ n → n ≤ hi → f n = some (p n)) : ∃ o, FirstUp p lo hi o ∧ shape_edge lo hi f = some (res2 o) := by
  unfold shape_edge
  have e1 : decide (hi < lo) = false := by simp; omega
  simp only [e1, cond_false, bind_sm]
  have body : ∀ n, lo ≤ n → n ≤ hi → shape_edge_L1 1 hi f n = some (if p n = true then .done (n, true) else if n = hi then .done (0, false) else .again (n + 1)) := fun n h1 h2 => by
    unfold shape_edge_L1
    rw [hf n h1 h2]
    simp only [bind_sm]
    cases p n with
    | true => simp
    | false =>
      by_cases c : n = hi
      · simp [c]
      · rw [Wk (by omega) (by omega)]; simp [c, bnd_eq]
  refine up_loop (p := p) res2 (Int.le_of_lt hlh) (fun n h1 h2 => ⟨fun hp => ?_, fun hp hn => ?_⟩) (fun hp => .inl ?_)
  · rw [body n h1 h2, if_pos hp]; rfl
  · rw [body n h1 h2, hp]; simp; omega
  · rw [body hi (by omega) (Int.le_refl _), hp]; simp [res2]
theorem edge_dn {p : Int → Bool} {f : Int → Option Bool} {lo hi : Int} (hlh : lo < hi) (b1 : -4000000 ≤ lo) (b2 : hi ≤ 4000000) (hf : ∀ n, lo ≤ n → n ≤ hi → f n = some (p n)) : ∃ o, FirstDn p lo hi o ∧ shape_edge hi lo f = some (res2 o) := by
  unfold shape_edge
  have e1 : decide (lo < hi) = true := by simpa using hlh
  simp only [e1, cond_true, bind_sm]
  have body : ∀ n, lo ≤ n → n ≤ hi → shape_edge_L1 (-1) lo f n = some (if p n = true then .done (n, true) else if n = lo then .done (0, false) else .again (n - 1)) := fun n h1 h2 => by
    unfold shape_edge_L1
    rw [hf n h1 h2]
    simp only [bind_sm]
    cases p n with
    | true => simp
    | false =>
      by_cases c : n = lo
      · simp [c]
      · rw [Wk (by omega) (by omega)]; simp [c, bnd_eq]; omega
  refine dn_loop (p := p) res2 (Int.le_of_lt hlh) (fun n h1 h2 => ⟨fun hp => ?_, fun hp hn => ?_⟩) (fun hp => .inl ?_)
  · rw [body n h1 h2, if_pos hp]; rfl
  · rw [body n h1 h2, hp]; simp; omega
  · rw [body lo (Int.le_refl _) (by omega), hp]; simp [res2]

/-- Whether a point is in a shape. -/
noncomputable def inS (k : Int) (b : Box) (p : Point) : Bool := match shape_has k b p with
  | some r => decide (0 ≤ r)
  | none => false
section
variable {k : Int} {b : Box}
theorem inS_code (hb : okB b) {p : Point} (p1 : -3000000 ≤ p.X) (p2 : p.X ≤ 3000000) (p3 : -3000000 ≤ p.Y) (p4 : p.Y ≤ 3000000) : shape_Port_1 p k b = some (inS k b p) ∧ ∃ r, ref_HasOf k b p = some r ∧ decide (0 ≤ r) = inS k b p := by
  obtain ⟨r, h1, h2⟩ := has_both (k := k) hb p1 p2 p3 p4
  unfold shape_Port_1 inS
  rw [h1]
  exact ⟨rfl, r, h2, rfl⟩
def pres (mk : Int → Point) : Option Int → Res Unit Point
  | some k => .ab (mk k)
  | none => .nx ()
theorem L1_up (hb : okB b) {x : Int} (x1 : -3000000 ≤ x) (x2 : x ≤ 3000000) : ∃ o, FirstUp (fun n => inS k b ⟨x, n⟩) b.Y (b.Y + b.H) o ∧ loop (ref_PortOf_L1 b x k) b.Y = some (pres (fun n => ⟨x, n⟩) o) := by
  have hb' := hb
  unfold okB at hb'
  have body : ∀ n, b.Y ≤ n → n ≤ b.Y + b.H → ref_PortOf_L1 b x k n = some (if inS k b ⟨x, n⟩ = true then .done (.ab ⟨x, n⟩) else .again (n + 1)) := fun n h1 h2 => by
    unfold ref_PortOf_L1
    rw [Wk (n := b.Y + b.H) (by omega) (by omega), Wk (n := n + 1) (by omega) (by omega)]
    have e1 : decide (n ≤ b.Y + b.H) = true := by simpa using h2
    obtain ⟨_, r, q1, q2⟩ := inS_code (k := k) hb (p := ⟨x, n⟩) x1 x2 (by simp only; omega) (by simp only; omega)
    simp only [e1, cond_true, bnd_eq, q1, bind_sm, q2]
    cases inS k b ⟨x, n⟩ <;> simp
  refine up_loop (p := fun n => inS k b ⟨x, n⟩) (pres (fun n => ⟨x, n⟩)) (by omega) (fun n h1 h2 => ⟨fun hp => ?_, fun hp hn => ?_⟩) (fun hp => .inr ⟨?_, ?_⟩)
  · rw [body n h1 h2, if_pos hp]; rfl
  · rw [body n h1 h2, hp]; simp
  · rw [body _ (by omega) (Int.le_refl _), hp]; simp
  · unfold ref_PortOf_L1
    rw [Wk (n := b.Y + b.H) (by omega) (by omega)]
    have e1 : decide (b.Y + b.H + 1 ≤ b.Y + b.H) = false := by simp; omega
    rw [e1]; rfl
theorem L3_up (hb : okB b) {y : Int} (x1 : -3000000 ≤ y) (x2 : y ≤ 3000000) : ∃ o, FirstUp (fun n => inS k b ⟨n, y⟩) b.X (b.X + b.W_) o ∧ loop (ref_PortOf_L3 b y k) b.X = some (pres (fun n => ⟨n, y⟩) o) := by
  have hb' := hb
  unfold okB at hb'
  have body : ∀ n, b.X ≤ n → n ≤ b.X + b.W_ → ref_PortOf_L3 b y k n = some (if inS k b ⟨n, y⟩ = true then .done (.ab ⟨n, y⟩) else .again (n + 1)) := fun n h1 h2 => by
    unfold ref_PortOf_L3
    rw [Wk (n := b.X + b.W_) (by omega) (by omega), Wk (n := n + 1) (by omega) (by omega)]
    have e1 : decide (n ≤ b.X + b.W_) = true := by simpa using h2
    obtain ⟨_, r, q1, q2⟩ := inS_code (k := k) hb (p := ⟨n, y⟩) (by simp only; omega) (by simp only; omega) x1 x2
    simp only [e1, cond_true, bnd_eq, q1, bind_sm, q2]
    cases inS k b ⟨n, y⟩ <;> simp
  refine up_loop (p := fun n => inS k b ⟨n, y⟩) (pres (fun n => ⟨n, y⟩)) (by omega) (fun n h1 h2 => ⟨fun hp => ?_, fun hp hn => ?_⟩) (fun hp => .inr ⟨?_, ?_⟩)
  · rw [body n h1 h2, if_pos hp]; rfl
  · rw [body n h1 h2, hp]; simp
  · rw [body _ (by omega) (Int.le_refl _), hp]; simp
  · unfold ref_PortOf_L3
    rw [Wk (n := b.X + b.W_) (by omega) (by omega)]
    have e1 : decide (b.X + b.W_ + 1 ≤ b.X + b.W_) = false := by simp; omega
    rw [e1]; rfl
theorem L2_dn (hb : okB b) {x : Int} (x1 : -3000000 ≤ x) (x2 : x ≤ 3000000) : ∃ o, FirstDn (fun n => inS k b ⟨x, n⟩) b.Y (b.Y + b.H) o ∧ loop (ref_PortOf_L2 b x k) (b.Y + b.H) = some (pres (fun n => ⟨x, n⟩) o) := by
  have hb' := hb
  unfold okB at hb'
  have body : ∀ n, b.Y ≤ n → n ≤ b.Y + b.H → ref_PortOf_L2 b x k n = some (if inS k b ⟨x, n⟩ = true then .done (.ab ⟨x, n⟩) else .again (n - 1)) := fun n h1 h2 => by
    unfold ref_PortOf_L2
    rw [Wk (n := n - 1) (by omega) (by omega)]
    have e1 : decide (b.Y ≤ n) = true := by simpa using h1
    obtain ⟨_, r, q1, q2⟩ := inS_code (k := k) hb (p := ⟨x, n⟩) x1 x2 (by simp only; omega) (by simp only; omega)
    simp only [e1, cond_true, bnd_eq, q1, bind_sm, q2]
    cases inS k b ⟨x, n⟩ <;> simp
  refine dn_loop (p := fun n => inS k b ⟨x, n⟩) (pres (fun n => ⟨x, n⟩)) (by omega) (fun n h1 h2 => ⟨fun hp => ?_, fun hp hn => ?_⟩) (fun hp => .inr ⟨?_, ?_⟩)
  · rw [body n h1 h2, if_pos hp]; rfl
  · rw [body n h1 h2, hp]; simp
  · rw [body _ (Int.le_refl _) (by omega), hp]; simp
  · unfold ref_PortOf_L2
    have e1 : decide (b.Y ≤ b.Y - 1) = false := by simp; omega
    rw [e1]; rfl
theorem L4_dn (hb : okB b) {y : Int} (x1 : -3000000 ≤ y) (x2 : y ≤ 3000000) : ∃ o, FirstDn (fun n => inS k b ⟨n, y⟩) b.X (b.X + b.W_) o ∧ loop (ref_PortOf_L4 b y k) (b.X + b.W_) = some (pres (fun n => ⟨n, y⟩) o) := by
  have hb' := hb
  unfold okB at hb'
  have body : ∀ n, b.X ≤ n → n ≤ b.X + b.W_ → ref_PortOf_L4 b y k n = some (if inS k b ⟨n, y⟩ = true then .done (.ab ⟨n, y⟩) else .again (n - 1)) := fun n h1 h2 => by
    unfold ref_PortOf_L4
    rw [Wk (n := n - 1) (by omega) (by omega)]
    have e1 : decide (b.X ≤ n) = true := by simpa using h1
    obtain ⟨_, r, q1, q2⟩ := inS_code (k := k) hb (p := ⟨n, y⟩) (by simp only; omega) (by simp only; omega) x1 x2
    simp only [e1, cond_true, bnd_eq, q1, bind_sm, q2]
    cases inS k b ⟨n, y⟩ <;> simp
  refine dn_loop (p := fun n => inS k b ⟨n, y⟩) (pres (fun n => ⟨n, y⟩)) (by omega) (fun n h1 h2 => ⟨fun hp => ?_, fun hp hn => ?_⟩) (fun hp => .inr ⟨?_, ?_⟩)
  · rw [body n h1 h2, if_pos hp]; rfl
  · rw [body n h1 h2, hp]; simp
  · rw [body _ (Int.le_refl _) (by omega), hp]; simp
  · unfold ref_PortOf_L4
    have e1 : decide (b.X ≤ b.X - 1) = false := by simp; omega
    rw [e1]; rfl

/-- A port of a right shape. -/
theorem port_both (hb : okB b) {side at_ : Int} (hk : 1 ≤ k ∧ k ≤ 5) (s1 : 1 ≤ side) (s2 : side ≤ 4) (a1 : 0 ≤ at_) (a2 : at_ ≤ 1000) : ∃ p, shape_Port k b side at_ = some (p, 0) ∧ ref_PortOf k b side at_ = some p ∧ -1000000 ≤ p.X ∧ p.X ≤ 1020000 ∧ -1000000 ≤ p.Y ∧ p.Y ≤ 1020000 := by
  have hb' := hb
  unfold okB at hb'
  have m1 := mulb (show 0 ≤ b.W_ by omega) (show b.W_ ≤ 20000 by omega) a1 a2
  have m2 := mulb (show 0 ≤ b.H by omega) (show b.H ≤ 20000 by omega) a1 a2
  have m3 : b.W_ * at_ ≤ b.W_ * 1000 := Int.mul_le_mul_of_nonneg_left a2 (by omega)
  have m4 : b.H * at_ ≤ b.H * 1000 := Int.mul_le_mul_of_nonneg_left a2 (by omega)
  unfold shape_Port ref_PortOf shape_isKind
  simp only [bnd_eq, bind_sm, CheckBox_eq]
  have e1 : (decide (1 ≤ k) && decide (k ≤ 5)) = true := by simpa using hk
  have e2 : (((decide (side < 1) || decide (4 < side)) || decide (at_ < 0)) || decide (1000 < at_)) = false := by simp; omega
  simp only [e1, e2, boxErr_zero.2 hb, Bool.not_true, cond_false, decide_true]
  rw [Wk (n := b.W_ * at_) (by omega) (by omega), Wk (n := b.H * at_) (by omega) (by omega), Down_eq (by omega) (by omega) (by omega) (by omega), Down_eq (by omega) (by omega) (by omega) (by omega), Int.tdiv_eq_ediv_of_nonneg m1.1, Int.tdiv_eq_ediv_of_nonneg m2.1]
  simp only [bind_sm]
  generalize hqx : b.W_ * at_ / 1000 = qx
  generalize hqy : b.H * at_ / 1000 = qy
  have q1 : 0 ≤ qx ∧ qx ≤ b.W_ := by omega
  have q2 : 0 ≤ qy ∧ qy ≤ b.H := by omega
  rw [Wk (n := b.X + qx) (by omega) (by omega), Wk (n := b.Y + qy) (by omega) (by omega), Wk (n := b.Y + b.H) (by omega) (by omega), Wk (n := b.X + b.W_) (by omega) (by omega), Down_eq (by omega) (by omega) (by omega) (by omega), Down_eq (by omega) (by omega) (by omega) (by omega), Int.tdiv_eq_ediv_of_nonneg (show 0 ≤ b.H by omega), Int.tdiv_eq_ediv_of_nonneg (show 0 ≤ b.W_ by omega)]
  simp only [bind_sm]
  rw [Wk (n := b.Y + b.H / 2) (by omega) (by omega), Wk (n := b.X + b.W_ / 2) (by omega) (by omega)]
  have hY : ∀ n, b.Y ≤ n → n ≤ b.Y + b.H → shape_Port_2 n (fun x0 => shape_Port_1 x0 k b) ⟨b.X + qx, b.Y + qy⟩ = some (inS k b ⟨b.X + qx, n⟩) := fun n h1 h2 => by
    unfold shape_Port_2
    simp only
    rw [(inS_code (k := k) hb (p := ⟨b.X + qx, n⟩) (by simp only; omega) (by simp only; omega) (by simp only; omega) (by simp only; omega)).1]; rfl
  have hX : ∀ n, b.X ≤ n → n ≤ b.X + b.W_ → shape_Port_3 n (fun x0 => shape_Port_1 x0 k b) ⟨b.X + qx, b.Y + qy⟩ = some (inS k b ⟨n, b.Y + qy⟩) := fun n h1 h2 => by
    unfold shape_Port_3
    simp only
    rw [(inS_code (k := k) hb (p := ⟨n, b.Y + qy⟩) (by simp only; omega) (by simp only; omega) (by simp only; omega) (by simp only; omega)).1]; rfl
  have hsd : side = 1 ∨ side = 2 ∨ side = 3 ∨ side = 4 := by omega
  rcases hsd with rfl | rfl | rfl | rfl
  · obtain ⟨o, o1, o2⟩ := edge_up (lo := b.Y) (hi := b.Y + b.H) (by omega) (by omega) (by omega) hY
    obtain ⟨o', o3, o4⟩ := L1_up (k := k) hb (x := b.X + qx) (by omega) (by omega)
    obtain rfl := FirstUp.one o1 o3
    simp only [show decide ((1 : Int) = 1) = true from rfl, show decide ((1 : Int) = 3) = false from rfl, Bool.true_or, cond_true, cond_false, bind_sm]
    rw [o2, o4]
    cases o with
    | none => exact ⟨_, rfl, rfl, by simp only; omega, by simp only; omega, by simp only; omega, by simp only; omega⟩
    | some n =>
      obtain ⟨g1, g2, _⟩ := o1
      exact ⟨_, rfl, rfl, by simp only; omega, by simp only; omega, by simp only [res2]; omega, by simp only [res2]; omega⟩
  · obtain ⟨o, o1, o2⟩ := edge_dn (lo := b.X) (hi := b.X + b.W_) (by omega) (by omega) (by omega) hX
    obtain ⟨o', o3, o4⟩ := L4_dn (k := k) hb (y := b.Y + qy) (by omega) (by omega)
    obtain rfl := FirstDn.one o1 o3
    simp only [decide_true, show decide ((2 : Int) = 1) = false from rfl, show decide ((2 : Int) = 3) = false from rfl, show decide ((2 : Int) = 2) = true from rfl, show decide ((2 : Int) = 4) = false from rfl, Bool.or_self, cond_true, cond_false, bind_sm]
    rw [o2, o4]
    cases o with
    | none => exact ⟨_, rfl, rfl, by simp only; omega, by simp only; omega, by simp only; omega, by simp only; omega⟩
    | some n =>
      obtain ⟨g1, g2, _⟩ := o1
      exact ⟨_, rfl, rfl, by simp only [res2]; omega, by simp only [res2]; omega, by simp only; omega, by simp only; omega⟩
  · obtain ⟨o, o1, o2⟩ := edge_dn (lo := b.Y) (hi := b.Y + b.H) (by omega) (by omega) (by omega) hY
    obtain ⟨o', o3, o4⟩ := L2_dn (k := k) hb (x := b.X + qx) (by omega) (by omega)
    obtain rfl := FirstDn.one o1 o3
    simp only [decide_true, show decide ((3 : Int) = 1) = false from rfl, show decide ((3 : Int) = 3) = true from rfl, Bool.or_true, cond_true, cond_false, bind_sm]
    rw [o2, o4]
    cases o with
    | none => exact ⟨_, rfl, rfl, by simp only; omega, by simp only; omega, by simp only; omega, by simp only; omega⟩
    | some n =>
      obtain ⟨g1, g2, _⟩ := o1
      exact ⟨_, rfl, rfl, by simp only; omega, by simp only; omega, by simp only [res2]; omega, by simp only [res2]; omega⟩
  · obtain ⟨o, o1, o2⟩ := edge_up (lo := b.X) (hi := b.X + b.W_) (by omega) (by omega) (by omega) hX
    obtain ⟨o', o3, o4⟩ := L3_up (k := k) hb (y := b.Y + qy) (by omega) (by omega)
    obtain rfl := FirstUp.one o1 o3
    simp only [show decide ((4 : Int) = 1) = false from rfl, show decide ((4 : Int) = 3) = false from rfl, show decide ((4 : Int) = 2) = false from rfl, show decide ((4 : Int) = 4) = true from rfl, Bool.or_self, cond_true, cond_false, bind_sm]
    rw [o2, o4]
    cases o with
    | none => exact ⟨_, rfl, rfl, by simp only; omega, by simp only; omega, by simp only; omega, by simp only; omega⟩
    | some n =>
      obtain ⟨g1, g2, _⟩ := o1
      exact ⟨_, rfl, rfl, by simp only [res2]; omega, by simp only [res2]; omega, by simp only; omega, by simp only; omega⟩
end
end Go.DB
