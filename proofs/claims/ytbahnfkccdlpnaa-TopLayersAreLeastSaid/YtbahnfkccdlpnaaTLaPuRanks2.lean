/-
  Ranks that are raised, or a circle that gains.
-/
import Derived.Test.YtbahnfkccdlpnaaTLaPuRanks1
set_option linter.unusedSimpArgs false
set_option linter.unusedVariables false
namespace Go.DB
open Go Go.RowKit

/-! Going back again and again. -/
def it (f : Int → Int) : Nat → Int → Int
  | 0, v => v
  | k + 1, v => f (it f k v)
theorem it_add (f : Int → Int) (a : Nat) (v : Int) : ∀ b : Nat, it f (a + b) v = it f b (it f a v)
  | 0 => rfl
  | b + 1 => by
    show f (it f (a + b) v) = f (it f b (it f a v))
    rw [it_add f a v b]
theorem pigeon {n : Nat} (f : Nat → Int) (h : ∀ s, s ≤ n → 0 ≤ f s ∧ f s < n) : ∃ i j : Nat, i < j ∧ j ≤ n ∧ f i = f j := by
  by_cases c : ∃ i j : Nat, i < j ∧ j ≤ n ∧ f i = f j
  · exact c
  · exfalso
    have hn : ((List.range (n + 1)).map f).Nodup := by
      refine List.pairwise_map.2 ((List.pairwise_lt_range (n := n + 1)).imp_of_mem fun {a b} ha hb hab e => c ⟨a, b, hab, ?_, e⟩)
      have := List.mem_range.1 hb; omega
    have := nodup_few n _ hn (fun k hk => by
      obtain ⟨s, hs, rfl⟩ := List.mem_map.1 hk
      have := List.mem_range.1 hs
      exact h s (by omega))
    simp at this
    omega
theorem first_not {P : Nat → Prop} {n : Nat} (h : ¬ ∀ s, s ≤ n → P s) : ∃ k, k ≤ n ∧ (∀ s, s < k → P s) ∧ ¬ P k := by
  induction n with
  | zero =>
    refine ⟨0, Nat.le_refl _, fun s hs => by omega, fun hp => h fun s hs => ?_⟩
    have : s = 0 := by omega
    subst this; exact hp
  | succ n ih =>
    by_cases c : ∀ s, s ≤ n → P s
    · refine ⟨n + 1, Nat.le_refl _, fun s hs => c s (by omega), fun hp => h fun s hs => ?_⟩
      rcases Nat.lt_or_ge n s with h1 | h1
      · have : s = n + 1 := by omega
        subst this; exact hp
      · exact c s h1
    · obtain ⟨k, k1, k2, k3⟩ := ih c
      exact ⟨k, by omega, k2, k3⟩

structure ArcsOK (n : Nat) (A : List Layer_arc) : Prop where
  len : A.length ≤ 400
  arc : ∀ j, inR A j → (0 ≤ (gx A j).from_ ∧ (gx A j).from_ < n) ∧ (0 ≤ (gx A j).to_ ∧ (gx A j).to_ < n) ∧ (gx A j).from_ ≠ (gx A j).to_ ∧ ((gx A j).gain = 1 ∨ (gx A j).gain = -1)
structure Circ (n : Nat) (A circ : List Layer_arc) : Prop where
  ne : circ ≠ []
  len : circ.length ≤ 60
  mem : ∀ k : Nat, k < circ.length → ∃ j, inR A j ∧ gx circ (k : Int) = gx A j
  nd : ∀ a b : Nat, a < circ.length → b < circ.length → (gx circ (a : Int)).to_ = (gx circ (b : Int)).to_ → a = b
  tel : ∀ p : Int → Int, sm (fun k : Nat => p (gx circ (k : Int)).to_ - p (gx circ (k : Int)).from_) circ.length = 0
  gain : 1 ≤ sm (fun k : Nat => (gx circ (k : Int)).gain) circ.length

/-- Where the raising is: pass p, ahead of arc i. t tells when a node was raised, q in which pass. -/
structure Rz (n : Nat) (A : List Layer_arc) (p : Int) (i : Nat) (la : Int) (r by_ : List Int) (t q : Int → Int) (τ : Int) : Prop where
  rl : r.length = n
  bl : by_.length = n
  tb : 0 ≤ τ ∧ τ ≤ (p - 1) * 400 + i
  bd : ∀ v : Int, 0 ≤ v → v < n → (0 ≤ gx r v ∧ gx r v ≤ τ) ∧ (0 ≤ t v ∧ t v ≤ τ) ∧ (0 ≤ q v ∧ q v ≤ p)
  pre : ∀ v : Int, 0 ≤ v → v < n → 1 ≤ gx r v → inR A (gx by_ v) ∧ (gx A (gx by_ v)).to_ = v ∧ 1000000 * gx r v - t v < 1000000 * gx r (gx A (gx by_ v)).from_ - t (gx A (gx by_ v)).from_ + 1000000 * (gx A (gx by_ v)).gain ∧ q v - 1 ≤ q (gx A (gx by_ v)).from_
  qr : ∀ v : Int, 0 ≤ v → v < n → 1 ≤ q v → 1 ≤ gx r v
  kept : ∀ j, inR A j → (j < i → p ≤ q (gx A j).from_ ∨ gx r (gx A j).from_ + (gx A j).gain ≤ gx r (gx A j).to_) ∧ (i ≤ j → p - 1 ≤ q (gx A j).from_ ∨ gx r (gx A j).from_ + (gx A j).gain ≤ gx r (gx A j).to_)
  last : (la = -1 ∧ ∀ v : Int, 0 ≤ v → v < n → q v ≤ p - 1) ∨ (0 ≤ la ∧ la < n ∧ q la = p)

section
variable {n : Nat} {A : List Layer_arc}
theorem Rz.step (hA : ArcsOK n A) {p : Int} (hp : 1 ≤ p ∧ p ≤ 61) {i : Nat} (hi : (i : Int) < A.length) {la : Int} {r by_ : List Int} {t q : Int → Int} {τ : Int} (h : Rz n A p i la r by_ t q τ) :
    ∃ s', layer_raised_L2 A (i : Int) (la, r, by_) = some s' ∧ ∃ t q τ, Rz n A p (i + 1) s'.1 s'.2.1 s'.2.2 t q τ := by
  have hj : inR A (i : Int) := ⟨by omega, hi⟩
  obtain ⟨a, b, d, g⟩ := hA.arc _ hj
  have hal := hA.len
  have hrl := h.rl
  have hbl := h.bl
  have htb := h.tb
  have ba := h.bd _ a.1 a.2
  have bb := h.bd _ b.1 b.2
  have hpp : (p - 1) * 400 ≤ 24000 := by omega
  unfold layer_raised_L2
  simp only
  rw [need_of hj, bnd_eq, need_of ⟨a.1, by omega⟩, need_of ⟨b.1, by omega⟩, Wk (by omega) (by omega)]
  by_cases c : gx r (gx A (i : Int)).to_ < gx r (gx A (i : Int)).from_ + (gx A (i : Int)).gain
  · have hr : inR r (gx A (i : Int)).to_ := ⟨b.1, by omega⟩
    have hb : inR by_ (gx A (i : Int)).to_ := ⟨b.1, by omega⟩
    rw [decide_eq_true c, cond_true, need_of ⟨a.1, by omega⟩, bnd_eq, need_of hr, bnd_eq, need_of hb, bnd_eq]
    refine ⟨_, rfl, fun v => if v = (gx A (i : Int)).to_ then τ + 1 else t v, fun v => if v = (gx A (i : Int)).to_ then p else q v, τ + 1, ?_⟩
    have hk := ((h.kept _ hj).2 (by omega)).resolve_right (by omega)
    constructor
    · simp [hrl]
    · simp [hbl]
    · push_cast; omega
    · intro v v0 v1
      simp only
      have := h.bd v v0 v1
      rw [gx_setJ hr v0]
      by_cases y : v = (gx A (i : Int)).to_
      · simp only [if_pos y]; omega
      · simp only [if_neg y]; omega
    · intro v v0 v1
      simp only
      rw [gx_setJ hr v0, gx_setJ hb v0]
      by_cases y : v = (gx A (i : Int)).to_
      · simp only [if_pos y]
        intro _
        have e1 : ¬ (gx A (i : Int)).from_ = (gx A (i : Int)).to_ := d
        rw [gx_setJ hr a.1]
        simp only [if_neg e1]
        exact ⟨hj, y.symm, by omega, by omega⟩
      · simp only [if_neg y]
        intro h1
        obtain ⟨k1, k2, k3, k4⟩ := h.pre v v0 v1 h1
        obtain ⟨a', _, _, _⟩ := hA.arc _ k1
        rw [gx_setJ hr a'.1]
        refine ⟨k1, k2, ?_, ?_⟩
        · by_cases w : (gx A (gx by_ v)).from_ = (gx A (i : Int)).to_
          · simp only [if_pos w]
            rw [w] at k3
            omega
          · simp only [if_neg w]; exact k3
        · by_cases w : (gx A (gx by_ v)).from_ = (gx A (i : Int)).to_
          · simp only [if_pos w]
            have := h.bd v v0 v1
            omega
          · simp only [if_neg w]; exact k4
    · intro v v0 v1
      simp only
      rw [gx_setJ hr v0]
      by_cases y : v = (gx A (i : Int)).to_
      · simp only [if_pos y]; omega
      · simp only [if_neg y]; exact h.qr v v0 v1
    · intro j hj'
      obtain ⟨a', b', d', g'⟩ := hA.arc _ hj'
      have hkj := h.kept j hj'
      simp only
      rw [gx_setJ hr a'.1, gx_setJ hr b'.1]
      by_cases w : (gx A j).from_ = (gx A (i : Int)).to_
      · simp only [if_pos w]
        exact ⟨fun _ => .inl (Int.le_refl _), fun _ => .inl (by omega)⟩
      · simp only [if_neg w]
        have hmono : gx r (gx A j).from_ + (gx A j).gain ≤ gx r (gx A j).to_ → gx r (gx A j).from_ + (gx A j).gain ≤ (if (gx A j).to_ = (gx A (i : Int)).to_ then gx r (gx A (i : Int)).from_ + (gx A (i : Int)).gain else gx r (gx A j).to_) := fun hh => by
          by_cases y : (gx A j).to_ = (gx A (i : Int)).to_
          · rw [if_pos y]; rw [y] at hh; omega
          · rw [if_neg y]; exact hh
        refine ⟨fun hlt => ?_, fun hle => (hkj.2 (by push_cast at hle; omega)).imp id hmono⟩
        by_cases y : j = (i : Int)
        · subst y
          right; rw [if_pos rfl]; exact Int.le_refl _
        · exact (hkj.1 (by push_cast at hlt; omega)).imp id hmono
    · exact .inr ⟨b.1, b.2, by simp⟩
  · rw [decide_eq_false c, cond_false]
    refine ⟨_, rfl, t, q, τ, ⟨hrl, hbl, by push_cast; omega, h.bd, h.pre, h.qr, fun j hj' => ⟨fun hlt => ?_, fun hle => (h.kept j hj').2 (by push_cast at hle; omega)⟩, h.last⟩⟩
    by_cases y : j = (i : Int)
    · subst y; exact .inr (Int.not_lt.1 c)
    · exact (h.kept j hj').1 (by push_cast at hlt; omega)

theorem Rz.pass (hA : ArcsOK n A) {p : Int} (hp : 1 ≤ p ∧ p ≤ 61) {r by_ : List Int} {t q : Int → Int} {τ : Int} (h : Rz n A p 0 (-1) r by_ t q τ) :
    ∃ s', rfor (A.length : Int) (layer_raised_L2 A) ((-1), r, by_) = some s' ∧ ∃ t q τ, Rz n A p A.length s'.1 s'.2.1 s'.2.2 t q τ := by
  have hal := hA.len
  obtain ⟨s, e1, e2⟩ := rfor_inv (n := (A.length : Int)) (step := layer_raised_L2 A) (s0 := ((-1), r, by_)) (fun i s => ∃ t q τ, Rz n A p i s.1 s.2.1 s.2.2 t q τ) (by omega) ⟨t, q, τ, h⟩ (fun i s hi ⟨t, q, τ, hI⟩ => hI.step hA hp hi)
  exact ⟨s, e1, by simpa using e2⟩
theorem Rz.next {p : Int} (hA : ArcsOK n A) {la : Int} {r by_ : List Int} {t q : Int → Int} {τ : Int} (h : Rz n A p A.length la r by_ t q τ) : Rz n A (p + 1) 0 (-1) r by_ t q τ := by
  have hal := hA.len
  have htb := h.tb
  refine ⟨h.rl, h.bl, by push_cast; omega, fun v v0 v1 => by have := h.bd v v0 v1; omega, h.pre, h.qr, fun j hj => ⟨fun hlt => by have := hj.1; omega, fun _ => ((h.kept j hj).1 hj.2).imp (fun hh => by omega) id⟩, .inl ⟨rfl, fun v v0 v1 => by have := h.bd v v0 v1; omega⟩⟩

/-- Which node is ahead of a node. -/
def pred (A : List Layer_arc) (by_ : List Int) (v : Int) : Int := (gx A (gx by_ v)).from_
def gainOf (A : List Layer_arc) (by_ : List Int) (v : Int) : Int := (gx A (gx by_ v)).gain
theorem Rz.chain (hA : ArcsOK n A) {p : Int} {i : Nat} {la : Int} {r by_ : List Int} {t q : Int → Int} {τ : Int} (h : Rz n A p i la r by_ t q τ) {v : Int} (v0 : 0 ≤ v) (v1 : v < n) : ∀ k : Nat, (∀ s, s < k → 1 ≤ gx r (it (pred A by_) s v)) →
    (0 ≤ it (pred A by_) k v ∧ it (pred A by_) k v < n) ∧ (1000000 * gx r v - t v ≤ 1000000 * gx r (it (pred A by_) k v) - t (it (pred A by_) k v) + 1000000 * sm (fun s => gainOf A by_ (it (pred A by_) s v)) k) ∧
    (1 ≤ k → 1000000 * gx r v - t v < 1000000 * gx r (it (pred A by_) k v) - t (it (pred A by_) k v) + 1000000 * sm (fun s => gainOf A by_ (it (pred A by_) s v)) k)
  | 0, _ => ⟨⟨v0, v1⟩, by show _ ≤ 1000000 * gx r v - t v + 1000000 * 0; omega, fun h => by omega⟩
  | k + 1, hk => by
    obtain ⟨⟨i1, i2⟩, i3, i4⟩ := h.chain hA v0 v1 k (fun s hs => hk s (by omega))
    obtain ⟨k1, k2, k3, k4⟩ := h.pre _ i1 i2 (hk k (by omega))
    obtain ⟨a, _, _, _⟩ := hA.arc _ k1
    have e1 : it (pred A by_) (k + 1) v = (gx A (gx by_ (it (pred A by_) k v))).from_ := rfl
    have e2 : sm (fun s => gainOf A by_ (it (pred A by_) s v)) (k + 1) = sm (fun s => gainOf A by_ (it (pred A by_) s v)) k + (gx A (gx by_ (it (pred A by_) k v))).gain := rfl
    rw [e1, e2]
    exact ⟨a, by omega, fun _ => by omega⟩

/-- Where all arcs are kept, ranks are low. -/
theorem Rz.low (hA : ArcsOK n A) (hn : n ≤ 60) {p : Int} (hp : 1 ≤ p ∧ p ≤ 61) {i : Nat} (hi : i ≤ A.length) {la : Int} {r by_ : List Int} {t q : Int → Int} {τ : Int} (h : Rz n A p i la r by_ t q τ)
    (hk : ∀ j, inR A j → gx r (gx A j).from_ + (gx A j).gain ≤ gx r (gx A j).to_) {v : Int} (v0 : 0 ≤ v) (v1 : v < n) : 0 ≤ gx r v ∧ gx r v ≤ 60 := by
  have hal := hA.len
  have htb := h.tb
  have hpp : (p - 1) * 400 ≤ 24000 := by omega
  refine ⟨(h.bd v v0 v1).1.1, ?_⟩
  have tight : ∀ u : Int, 0 ≤ u → u < n → ∀ k : Nat, (∀ s, s < k → 1 ≤ gx r (it (pred A by_) s u)) → gx r u = gx r (it (pred A by_) k u) + sm (fun s => gainOf A by_ (it (pred A by_) s u)) k ∧ sm (fun s => gainOf A by_ (it (pred A by_) s u)) k ≤ k := fun u u0 u1 k => by
    induction k with
    | zero => intro _; exact ⟨by show _ = gx r u + 0; omega, by simp [sm]⟩
    | succ k ih =>
      intro hs
      obtain ⟨c1, c2⟩ := ih (fun s hs' => hs s (by omega))
      obtain ⟨⟨d1, d2⟩, _, _⟩ := h.chain hA u0 u1 k (fun s hs' => hs s (by omega))
      obtain ⟨k1, k2, k3, k4⟩ := h.pre _ d1 d2 (hs k (by omega))
      obtain ⟨a, b, d, g⟩ := hA.arc _ k1
      have hkk := hk _ k1
      rw [k2] at hkk
      have t1 := h.bd _ a.1 a.2
      have t2 := h.bd _ d1 d2
      have e1 : it (pred A by_) (k + 1) u = (gx A (gx by_ (it (pred A by_) k u))).from_ := rfl
      have e2 : sm (fun s => gainOf A by_ (it (pred A by_) s u)) (k + 1) = sm (fun s => gainOf A by_ (it (pred A by_) s u)) k + (gx A (gx by_ (it (pred A by_) k u))).gain := rfl
      rw [e1, e2]
      refine ⟨by omega, by push_cast; omega⟩
  by_cases c : ∀ s, s ≤ n → 1 ≤ gx r (it (pred A by_) s v)
  · exfalso
    obtain ⟨a, b, hab, hb, he⟩ := pigeon (n := n) (fun s => it (pred A by_) s v) (fun s hs => (h.chain hA v0 v1 s (fun s' hs' => c s' (by omega))).1)
    obtain ⟨w0, w1⟩ := (h.chain hA v0 v1 a (fun s' hs' => c s' (by omega))).1
    have hr : ∀ s, s < b - a → 1 ≤ gx r (it (pred A by_) s (it (pred A by_) a v)) := fun s hs => by
      rw [← it_add]; exact c _ (by omega)
    have hback : it (pred A by_) (b - a) (it (pred A by_) a v) = it (pred A by_) a v := by
      rw [← it_add, show a + (b - a) = b by omega]; exact he.symm
    obtain ⟨_, _, z3⟩ := h.chain hA w0 w1 (b - a) hr
    obtain ⟨z4, _⟩ := tight _ w0 w1 (b - a) hr
    have z5 := z3 (by omega)
    rw [hback] at z4 z5
    omega
  · obtain ⟨k, k1, k2, k3⟩ := first_not c
    obtain ⟨c1, c2⟩ := tight v v0 v1 k k2
    obtain ⟨⟨d1, d2⟩, _, _⟩ := h.chain hA v0 v1 k k2
    have := (h.bd _ d1 d2).1.1
    omega

/-- After too many passes there is a circle. -/
theorem circle_eq (hA : ArcsOK n A) (hn : n ≤ 60) {r by_ : List Int} {t q : Int → Int} {τ : Int} (h : Rz n A ((n : Int) + 2) 0 (-1) r by_ t q τ) {la : Int} (l0 : 0 ≤ la) (l1 : la < n) (hq : q la = (n : Int) + 1) :
    ∃ z, rfor (n : Int) (layer_raised_L3 A (la, r, by_)) la = some z ∧ ∃ e, loop (layer_raised_L4 A (la, r, by_) z) (([] : List Layer_arc), z) = some (([] : List Int), e) ∧ Circ n A e := by
  have hbl := h.bl
  have hal := hA.len
  have hch : ∀ s : Nat, s ≤ n → (0 ≤ it (pred A by_) s la ∧ it (pred A by_) s la < n) ∧ (n : Int) + 1 - s ≤ q (it (pred A by_) s la) := fun s => by
    induction s with
    | zero => intro _; exact ⟨⟨l0, l1⟩, by show _ ≤ q la; omega⟩
    | succ s ih =>
      intro hs
      obtain ⟨⟨d1, d2⟩, d3⟩ := ih (by omega)
      obtain ⟨k1, k2, k3, k4⟩ := h.pre _ d1 d2 (h.qr _ d1 d2 (by omega))
      obtain ⟨a, _, _, _⟩ := hA.arc _ k1
      have e1 : it (pred A by_) (s + 1) la = (gx A (gx by_ (it (pred A by_) s la))).from_ := rfl
      rw [e1]
      exact ⟨a, by push_cast; omega⟩
  have hrs : ∀ s : Nat, s ≤ n → 1 ≤ gx r (it (pred A by_) s la) := fun s hs => by
    obtain ⟨⟨d1, d2⟩, d3⟩ := hch s hs
    exact h.qr _ d1 d2 (by omega)
  obtain ⟨i, j, hij, hj, he⟩ := pigeon (n := n) (fun s => it (pred A by_) s la) (fun s hs => (hch s hs).1)
  have hall : ∀ t : Nat, ∃ s, s ≤ n ∧ it (pred A by_) t la = it (pred A by_) s la := fun t => by
    induction t using Nat.strongRecOn with
    | _ t ih =>
      rcases Nat.lt_or_ge n t with c | c
      · obtain ⟨s, s1, s2⟩ := ih (i + (t - j)) (by omega)
        refine ⟨s, s1, ?_⟩
        rw [← s2, it_add _ i, he, ← it_add, show j + (t - j) = t by omega]
      · exact ⟨t, c, rfl⟩
  have hok : ∀ t : Nat, (0 ≤ it (pred A by_) t la ∧ it (pred A by_) t la < n) ∧ 1 ≤ gx r (it (pred A by_) t la) := fun t => by
    obtain ⟨s, s1, s2⟩ := hall t
    rw [s2]; exact ⟨(hch s s1).1, hrs s s1⟩
  have hpr : ∀ t : Nat, inR by_ (it (pred A by_) t la) ∧ inR A (gx by_ (it (pred A by_) t la)) ∧ (gx A (gx by_ (it (pred A by_) t la))).to_ = it (pred A by_) t la := fun t => by
    obtain ⟨⟨d1, d2⟩, d3⟩ := hok t
    obtain ⟨k1, k2, _, _⟩ := h.pre _ d1 d2 d3
    exact ⟨⟨d1, by omega⟩, k1, k2⟩
  refine ⟨it (pred A by_) n la, ?_, ?_⟩
  · obtain ⟨z, e1, e2⟩ := rfor_inv (n := (n : Int)) (step := layer_raised_L3 A (la, r, by_)) (s0 := la) (fun s z => z = it (pred A by_) s la) (by omega) rfl (fun s z hs hz => by
      subst hz
      unfold layer_raised_L3
      simp only
      rw [need_of (hpr s).1, need_of (hpr s).2.1]
      exact ⟨_, rfl, rfl⟩)
    rw [e1, e2]; rfl
  · have hz : ∀ s : Nat, it (pred A by_) s (it (pred A by_) n la) = it (pred A by_) (n + s) la := fun s => (it_add _ n la s).symm
    have hper : it (pred A by_) (j - i) (it (pred A by_) n la) = it (pred A by_) n la := by
      rw [hz, show n + (j - i) = j + (n - i) by omega, it_add _ j, ← he, ← it_add, show i + (n - i) = n by omega]
    generalize hzz : it (pred A by_) n la = z at *
    have hok' : ∀ s : Nat, (0 ≤ it (pred A by_) s z ∧ it (pred A by_) s z < n) ∧ 1 ≤ gx r (it (pred A by_) s z) := fun s => by rw [hz]; exact hok _
    have hpr' : ∀ s : Nat, inR by_ (it (pred A by_) s z) ∧ inR A (gx by_ (it (pred A by_) s z)) ∧ (gx A (gx by_ (it (pred A by_) s z))).to_ = it (pred A by_) s z := fun s => by rw [hz]; exact hpr _
    let F : Nat → Layer_arc := fun s => gx A (gx by_ (it (pred A by_) s z))
    obtain ⟨e, f1, c, f2, f3, f4, f5⟩ := loop_inv (body := layer_raised_L4 A (la, r, by_) z) (s0 := (([] : List Layer_arc), z))
      (fun st => ∃ c : Nat, st.2 = it (pred A by_) c z ∧ st.1 = (List.range c).map F ∧ (∀ s, 1 ≤ s → s ≤ c → it (pred A by_) s z ≠ z) ∧ c < j - i) (fun st => j - i - st.1.length)
      (fun e => ∃ c : Nat, e = (([] : List Int), (List.range (c + 1)).map F) ∧ it (pred A by_) (c + 1) z = z ∧ (∀ s, 1 ≤ s → s ≤ c → it (pred A by_) s z ≠ z) ∧ c < j - i)
      ⟨0, rfl, rfl, fun s a b => by omega, by omega⟩ (fun st hI => by
        obtain ⟨c, i1, i2, i3, i4⟩ := hI
        obtain ⟨ci, k⟩ := st
        simp only at i1 i2
        subst i1 i2
        unfold layer_raised_L4
        simp only
        rw [need_of (hpr' c).1, need_of (hpr' c).2.1, bnd_eq, need_of (by rw [room_iff]; simp; omega), bnd_eq]
        have hl : (List.range c).map F ++ [gx A (gx by_ (it (pred A by_) c z))] = (List.range (c + 1)).map F := by
          rw [List.range_succ, List.map_append]; rfl
        rw [hl]
        by_cases y : (gx A (gx by_ (it (pred A by_) c z))).from_ = z
        · right
          rw [decide_eq_true y, cond_true, need_of (by simp)]
          exact ⟨_, rfl, c, rfl, y, i3, i4⟩
        · left
          rw [decide_eq_false y, cond_false]
          have hne : c + 1 ≠ j - i := fun hh => y (by
            have : it (pred A by_) (c + 1) z = z := by rw [hh]; exact hper
            exact this)
          refine ⟨_, rfl, ⟨c + 1, rfl, rfl, fun s a b => ?_, by omega⟩, by simp; omega⟩
          rcases Nat.lt_or_ge c s with w | w
          · have : s = c + 1 := by omega
            subst this; exact y
          · exact i3 s a w)
    subst f2
    refine ⟨_, f1, ?_⟩
    have hlen : ((List.range (c + 1)).map F).length = c + 1 := by simp
    have hget : ∀ s : Nat, s < c + 1 → gx ((List.range (c + 1)).map F) (s : Int) = F s := fun s hs => by rw [gx_nat (by simpa using hs)]; simp
    have htel : ∀ (p : Int → Int) (k : Nat), k ≤ c + 1 → sm (fun k : Nat => p (gx ((List.range (c + 1)).map F) (k : Int)).to_ - p (gx ((List.range (c + 1)).map F) (k : Int)).from_) k = p z - p (it (pred A by_) k z) := fun p k => by
      induction k with
      | zero => intro _; show (0 : Int) = p z - p z; omega
      | succ k ih =>
        intro hk
        have ih := ih (by omega)
        have e : sm (fun k : Nat => p (gx ((List.range (c + 1)).map F) (k : Int)).to_ - p (gx ((List.range (c + 1)).map F) (k : Int)).from_) (k + 1) = sm (fun k : Nat => p (gx ((List.range (c + 1)).map F) (k : Int)).to_ - p (gx ((List.range (c + 1)).map F) (k : Int)).from_) k + (p (gx ((List.range (c + 1)).map F) (k : Int)).to_ - p (gx ((List.range (c + 1)).map F) (k : Int)).from_) := rfl
        rw [e, ih, hget k (by omega)]
        have e1 : (F k).to_ = it (pred A by_) k z := (hpr' k).2.2
        have e2 : (F k).from_ = it (pred A by_) (k + 1) z := rfl
        rw [e1, e2]; omega
    refine ⟨by simp, by rw [hlen]; omega, fun k hk => ?_, fun a b ha hb hab => ?_, fun p => ?_, ?_⟩
    · rw [hlen] at hk
      rw [hget k hk]
      exact ⟨_, (hpr' k).2.1, rfl⟩
    · rw [hlen] at ha hb
      rw [hget a ha, hget b hb] at hab
      have e1 : (F a).to_ = it (pred A by_) a z := (hpr' a).2.2
      have e2 : (F b).to_ = it (pred A by_) b z := (hpr' b).2.2
      rw [e1, e2] at hab
      have key : ∀ a b : Nat, a < b → b < c + 1 → it (pred A by_) a z = it (pred A by_) b z → False := fun a b hab hb hh => by
        refine f4 (a + (c + 1 - b)) (by omega) (by omega) ?_
        rw [it_add, hh, ← it_add, show b + (c + 1 - b) = c + 1 by omega]; exact f3
      rcases Nat.lt_trichotomy a b with w | w | w
      · exact (key a b w hb hab).elim
      · exact w
      · exact (key b a w ha hab.symm).elim
    · rw [hlen, htel p (c + 1) (Nat.le_refl _), f3]; omega
    · rw [hlen]
      have hz0 := (hok' 0).1
      have hz0' : 0 ≤ z ∧ z < n := hz0
      obtain ⟨_, _, z3⟩ := h.chain hA hz0'.1 hz0'.2 (c + 1) (fun s hs => (hok' s).2)
      have z4 := z3 (by omega)
      rw [f3] at z4
      have e : sm (fun k : Nat => (gx ((List.range (c + 1)).map F) (k : Int)).gain) (c + 1) = sm (fun s => gainOf A by_ (it (pred A by_) s z)) (c + 1) := sm_congr fun s hs => by rw [hget s hs]; rfl
      rw [e]
      omega

theorem raised_eq (hA : ArcsOK n A) (hn : 1 ≤ n ∧ n ≤ 60) : ∃ e, layer_raised (n : Int) A = some e ∧
    ((e.2 = [] ∧ e.1.length = n ∧ (∀ v : Int, 0 ≤ v → v < n → 0 ≤ gx e.1 v ∧ gx e.1 v ≤ 60) ∧ ∀ j, inR A j → gx e.1 (gx A j).from_ + (gx A j).gain ≤ gx e.1 (gx A j).to_) ∨ Circ n A e.2) := by
  have hal := hA.len
  unfold layer_raised
  rw [need_of ⟨by omega, by omega, by omega⟩, bnd_eq, need_of ⟨by omega, by omega, by omega⟩, bnd_eq, Wk (by omega) (by omega)]
  have hz : ∀ v : Int, 0 ≤ v → v < n → gx (List.replicate (n : Int).toNat (0 : Int)) v = 0 := fun v v0 v1 => by
    obtain ⟨k, rfl⟩ : ∃ k : Nat, v = k := ⟨v.toNat, by omega⟩
    rw [gx_nat (by simp; omega)]; simp
  have h0 : Rz n A 1 0 (-1) (List.replicate (n : Int).toNat (0 : Int)) (List.replicate (n : Int).toNat (0 : Int)) (fun _ => 0) (fun _ => 0) 0 :=
    ⟨by simp, by simp, by omega, fun v v0 v1 => by rw [hz v v0 v1]; omega, fun v v0 v1 hh => by rw [hz v v0 v1] at hh; omega, fun v v0 v1 hh => by omega, fun j hj => ⟨fun hlt => by have := hj.1; omega, fun _ => .inl (by omega)⟩, .inl ⟨rfl, fun v v0 v1 => by omega⟩⟩
  obtain ⟨e, e1, e2⟩ := rforE_inv (n := ((n : Int) + 1)) (step := layer_raised_L1 A) (fin := fun s => (Res.nx s : Res (Int × List Int × List Int) (List Int × List Layer_arc))) (s0 := ((-1), List.replicate (n : Int).toNat (0 : Int), List.replicate (n : Int).toNat (0 : Int)))
    (fun k s => ∃ t q τ, Rz n A ((k : Int) + 1) 0 (-1) s.2.1 s.2.2 t q τ ∧ (1 ≤ k → 0 ≤ s.1 ∧ s.1 < n ∧ q s.1 = k))
    (fun o => (∃ r, o = Res.ab (r, []) ∧ r.length = n ∧ (∀ v : Int, 0 ≤ v → v < n → 0 ≤ gx r v ∧ gx r v ≤ 60) ∧ ∀ j, inR A j → gx r (gx A j).from_ + (gx A j).gain ≤ gx r (gx A j).to_) ∨ ∃ s t q τ, o = Res.nx s ∧ Rz n A ((n : Int) + 2) 0 (-1) s.2.1 s.2.2 t q τ ∧ 0 ≤ s.1 ∧ s.1 < n ∧ q s.1 = (n : Int) + 1)
    (by omega) ⟨_, _, _, h0, fun h => by omega⟩ (fun k s hk hI => by
      obtain ⟨t, q, τ, hI, _⟩ := hI
      obtain ⟨la, r, by_⟩ := s
      simp only at hI
      obtain ⟨s', g1, t', q', τ', g2⟩ := hI.pass hA ⟨by omega, by omega⟩
      unfold layer_raised_L1
      simp only
      rw [g1, Option.bind_some]
      rcases g2.last with ⟨c1, c2⟩ | ⟨c1, c2, c3⟩
      · right
        rw [decide_eq_true (p := s'.1 < 0) (by omega), cond_true]
        have hkept : ∀ j, inR A j → gx s'.2.1 (gx A j).from_ + (gx A j).gain ≤ gx s'.2.1 (gx A j).to_ := fun j hj => by
          obtain ⟨a, _, _, _⟩ := hA.arc _ hj
          exact ((g2.kept j hj).1 hj.2).resolve_left (by have := c2 _ a.1 a.2; omega)
        exact ⟨_, rfl, .inl ⟨_, rfl, g2.rl, fun v v0 v1 => g2.low hA hn.2 ⟨by omega, by omega⟩ (Nat.le_refl _) hkept v0 v1, hkept⟩⟩
      · left
        rw [decide_eq_false (p := s'.1 < 0) (by omega), cond_false]
        refine ⟨_, rfl, t', q', τ', ?_, fun _ => ⟨c1, c2, ?_⟩⟩
        · have := g2.next hA
          simp only
          push_cast
          exact this
        · simp only; rw [c3]; push_cast; rfl) (fun s hI => by
      obtain ⟨t, q, τ, hI, hh⟩ := hI
      have e3 : ((((n : Int) + 1).toNat : Nat) : Int) = (n : Int) + 1 := by omega
      rw [e3] at hI hh
      obtain ⟨h1, h2, h3⟩ := hh (by omega)
      exact .inr ⟨s, t, q, τ, rfl, by rw [show (n : Int) + 1 + 1 = (n : Int) + 2 by omega] at hI; exact hI, h1, h2, h3⟩)
  rw [e1]
  rcases e2 with ⟨r, rfl, r1, r2, r3⟩ | ⟨s, t, q, τ, rfl, h1, h2, h3, h4⟩
  · rw [bindR_ab]
    exact ⟨_, rfl, .inl ⟨rfl, r1, r2, r3⟩⟩
  · rw [bindR_nx]
    obtain ⟨la, r, by_⟩ := s
    simp only at h1 h2 h3 h4
    obtain ⟨z, z1, ci, z2, z3⟩ := circle_eq hA hn.2 h1 h2 h3 h4
    simp only
    rw [z1, Option.bind_some, z2]
    exact ⟨_, rfl, .inr z3⟩
end
end Go.DB
