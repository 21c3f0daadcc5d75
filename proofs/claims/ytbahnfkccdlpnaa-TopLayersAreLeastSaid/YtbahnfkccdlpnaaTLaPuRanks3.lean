/-
  Ranks: flows along circles that gain, until there is none.
-/
import Derived.Test.YtbahnfkccdlpnaaTLaPuRanks2
set_option linter.unusedSimpArgs false
set_option linter.unusedVariables false
namespace Go.DB
open Go Go.RowKit

theorem sm_upd {g h : Nat → Int} : ∀ {n k : Nat}, k < n → (∀ i, i < n → i ≠ k → g i = h i) → sm g n = sm h n + (g k - h k)
  | n + 1, k, hk, he => by
    show sm g n + g n = sm h n + h n + (g k - h k)
    by_cases c : k = n
    · subst c
      rw [sm_congr (f := g) (g := h) (fun i hi => he i (by omega) (by omega))]; omega
    · rw [sm_upd (n := n) (k := k) (by omega) (fun i hi hne => he i (by omega) hne), he n (by omega) (fun e => c e.symm)]; omega
theorem sm_one {f : Nat → Int} : ∀ {n k : Nat}, (∀ i, i < n → 0 ≤ f i) → k < n → f k ≤ sm f n
  | n + 1, k, h, hk => by
    show f k ≤ sm f n + f n
    have h1 := h n (by omega)
    by_cases c : k = n
    · subst c
      have := sm_le (f := fun _ => 0) (g := f) (n := k) (fun i hi => h i (by omega))
      rw [sm_zero] at this; omega
    · have := sm_one (n := n) (k := k) (fun i hi => h i (by omega)) (by omega)
      omega

def wS (l : List Link) (f : List Int) (p : Int → Int) : Int := sm (fun i : Nat => gx f (i : Int) * (p (gx l (i : Int)).To - p (gx l (i : Int)).From)) l.length
def baS (l : List Link) (p : Int → Int) : Int := sm (fun i : Nat => p (gx l (i : Int)).To - p (gx l (i : Int)).From) l.length
def sF (l : List Link) (f : List Int) : Int := sm (fun i : Nat => gx f (i : Int)) l.length
/-- What flows in more than out is as at first. -/
def Cons (l : List Link) (f : List Int) : Prop := ∀ p : Int → Int, wS l f p = baS l p
theorem wS_set {l : List Link} {f : List Int} (hf : f.length = l.length) {i : Int} (hi : inR l i) (v : Int) (p : Int → Int) : wS l (f.set i.toNat v) p = wS l f p + (v - gx f i) * (p (gx l i).To - p (gx l i).From) := by
  obtain ⟨k, rfl⟩ : ∃ k : Nat, i = k := ⟨i.toNat, by have := hi.1; omega⟩
  have hk : k < l.length := by have := hi.2; omega
  have hr : inR f (k : Int) := ⟨by omega, by omega⟩
  unfold wS
  rw [sm_upd (h := fun i : Nat => gx f (i : Int) * (p (gx l (i : Int)).To - p (gx l (i : Int)).From)) hk (fun j hj hne => by
    rw [gx_setJ hr (by omega), if_neg (by omega)])]
  rw [gx_setJ hr (by omega), if_pos rfl, Int.sub_mul]
theorem sF_set {l : List Link} {f : List Int} (hf : f.length = l.length) {i : Int} (hi : inR l i) (v : Int) : sF l (f.set i.toNat v) = sF l f + (v - gx f i) := by
  obtain ⟨k, rfl⟩ : ∃ k : Nat, i = k := ⟨i.toNat, by have := hi.1; omega⟩
  have hk : k < l.length := by have := hi.2; omega
  have hr : inR f (k : Int) := ⟨by omega, by omega⟩
  unfold sF
  rw [sm_upd (h := fun i : Nat => gx f (i : Int)) hk (fun j hj hne => by
    rw [gx_setJ hr (by omega), if_neg (by omega)])]
  rw [gx_setJ hr (by omega), if_pos rfl]

/-- A height above what comes later. -/
def hgt (T : Int → Nat) (n : Nat) (v : Int) : Int := sm (fun u : Nat => if T (u : Int) < T v then 1 else 0) n
theorem hgt_bd (T : Int → Nat) (n : Nat) (v : Int) : 0 ≤ hgt T n v ∧ hgt T n v ≤ n := by
  have := sm_bd (f := fun u : Nat => if T (u : Int) < T v then (1 : Int) else 0) (c := 1) (n := n) (fun i hi => by split <;> omega)
  unfold hgt; omega
theorem hgt_lt {T : Int → Nat} {n : Nat} {a b : Int} (ha : 0 ≤ a ∧ a < n) (h : T a < T b) : hgt T n a < hgt T n b := by
  refine sm_lt (i := a.toNat) (fun i hi => ?_) (by omega) ?_
  · by_cases c : T (i : Int) < T a
    · rw [if_pos c, if_pos (by omega)]; exact Int.le_refl _
    · rw [if_neg c]; split <;> omega
  · rw [show ((a.toNat : Nat) : Int) = a by omega, if_neg (by omega), if_pos h]; omega

/-- The ways to change a flow. -/
structure ArcsOf (l : List Link) (f : List Int) (A : List Layer_arc) : Prop where
  is : ∀ j, inR A j → inR l (gx A j).link ∧ (((gx A j).gain = 1 ∧ (gx A j).from_ = (gx l (gx A j).link).From ∧ (gx A j).to_ = (gx l (gx A j).link).To) ∨ ((gx A j).gain = -1 ∧ (gx A j).from_ = (gx l (gx A j).link).To ∧ (gx A j).to_ = (gx l (gx A j).link).From ∧ 0 < gx f (gx A j).link))
  fw : ∀ i, inR l i → ∃ j, inR A j ∧ gx A j = ⟨(gx l i).From, (gx l i).To, i, 1⟩
  bw : ∀ i, inR l i → 0 < gx f i → ∃ j, inR A j ∧ gx A j = ⟨(gx l i).To, (gx l i).From, i, -1⟩
theorem mem_gx {α : Type} [Inhabited α] {l : List α} {x : α} (h : x ∈ l) : ∃ j, inR l j ∧ gx l j = x := by
  obtain ⟨i, hi, rfl⟩ := List.getElem_of_mem h
  exact ⟨i, ⟨by omega, by omega⟩, gx_nat hi⟩
section
variable {n : Nat} {l : List Link}
theorem arcs_eq (hl : OKl n l) {f : List Int} (hf : f.length = l.length) : ∃ A, layer_arcs l f = some A ∧ ArcsOK n A ∧ ArcsOf l f A := by
  have hll := hl.1
  unfold layer_arcs
  obtain ⟨A, e1, e2, e3, e4, e5⟩ := rfor_inv (n := (l.length : Int)) (step := layer_arcs_L1 l f) (s0 := ([] : List Layer_arc))
    (fun i A => A.length ≤ 2 * i ∧ (∀ a ∈ A, ∃ k : Int, 0 ≤ k ∧ k < i ∧ (a = ⟨(gx l k).From, (gx l k).To, k, 1⟩ ∨ a = ⟨(gx l k).To, (gx l k).From, k, -1⟩ ∧ 0 < gx f k)) ∧ (∀ k : Int, 0 ≤ k → k < i → (⟨(gx l k).From, (gx l k).To, k, 1⟩ : Layer_arc) ∈ A) ∧ ∀ k : Int, 0 ≤ k → k < i → 0 < gx f k → (⟨(gx l k).To, (gx l k).From, k, -1⟩ : Layer_arc) ∈ A) (by omega)
    ⟨by simp, by simp, fun k a b => by omega, fun k a b => by omega⟩ (fun i A hi hI => by
      obtain ⟨i1, i2, i3, i4⟩ := hI
      unfold layer_arcs_L1
      rw [need_of ⟨by omega, hi⟩, bnd_eq, need_of (by rw [room_iff]; simp; omega), bnd_eq, need_of ⟨by omega, by omega⟩]
      have old : ∀ a ∈ A, ∃ k : Int, 0 ≤ k ∧ k < ((i + 1 : Nat) : Int) ∧ (a = ⟨(gx l k).From, (gx l k).To, k, 1⟩ ∨ a = ⟨(gx l k).To, (gx l k).From, k, -1⟩ ∧ 0 < gx f k) := fun a ha => by
        obtain ⟨k, k0, k1, k2⟩ := i2 a ha
        exact ⟨k, k0, by push_cast; omega, k2⟩
      by_cases c : 0 < gx f (i : Int)
      · rw [decide_eq_true c, cond_true, need_of (by rw [room_iff]; simp; omega)]
        refine ⟨_, rfl, by simp; omega, fun a ha => ?_, fun k k0 k1 => ?_, fun k k0 k1 hk => ?_⟩
        · simp only [List.mem_append, List.mem_singleton] at ha
          rcases ha with (ha | ha) | ha
          · exact old a ha
          · exact ⟨i, by omega, by push_cast; omega, .inl ha⟩
          · exact ⟨i, by omega, by push_cast; omega, .inr ⟨ha, c⟩⟩
        · simp only [List.mem_append, List.mem_singleton]
          by_cases y : k = (i : Int)
          · subst y; exact .inl (.inr rfl)
          · exact .inl (.inl (i3 k k0 (by push_cast at k1; omega)))
        · simp only [List.mem_append, List.mem_singleton]
          by_cases y : k = (i : Int)
          · subst y; exact .inr rfl
          · exact .inl (.inl (i4 k k0 (by push_cast at k1; omega) hk))
      · rw [decide_eq_false c, cond_false]
        refine ⟨_, rfl, by simp; omega, fun a ha => ?_, fun k k0 k1 => ?_, fun k k0 k1 hk => ?_⟩
        · simp only [List.mem_append, List.mem_singleton] at ha
          rcases ha with ha | ha
          · exact old a ha
          · exact ⟨i, by omega, by push_cast; omega, .inl ha⟩
        · simp only [List.mem_append, List.mem_singleton]
          by_cases y : k = (i : Int)
          · subst y; exact .inr rfl
          · exact .inl (i3 k k0 (by push_cast at k1; omega))
        · simp only [List.mem_append, List.mem_singleton]
          by_cases y : k = (i : Int)
          · subst y; exact absurd hk c
          · exact .inl (i4 k k0 (by push_cast at k1; omega) hk))
  simp only [Int.toNat_natCast] at e2 e3 e4 e5
  rw [e1, Option.bind_some]
  have his : ∀ j, inR A j → inR l (gx A j).link ∧ (((gx A j).gain = 1 ∧ (gx A j).from_ = (gx l (gx A j).link).From ∧ (gx A j).to_ = (gx l (gx A j).link).To) ∨ ((gx A j).gain = -1 ∧ (gx A j).from_ = (gx l (gx A j).link).To ∧ (gx A j).to_ = (gx l (gx A j).link).From ∧ 0 < gx f (gx A j).link)) := fun j hj => by
    obtain ⟨k, k0, k1, k2⟩ := e3 _ (gx_mem hj)
    rcases k2 with h | ⟨h, hp⟩ <;> rw [h]
    · exact ⟨⟨k0, k1⟩, .inl ⟨rfl, rfl, rfl⟩⟩
    · exact ⟨⟨k0, k1⟩, .inr ⟨rfl, rfl, rfl, hp⟩⟩
  refine ⟨A, rfl, ⟨by omega, fun j hj => ?_⟩, his, fun i hi => mem_gx (e4 i hi.1 hi.2), fun i hi hp => mem_gx (e5 i hi.1 hi.2 hp)⟩
  obtain ⟨h1, h2⟩ := his j hj
  obtain ⟨a, b, d⟩ := hl.2 _ h1
  rcases h2 with ⟨g1, g2, g3⟩ | ⟨g1, g2, g3, _⟩ <;> rw [g1, g2, g3]
  · exact ⟨a, b, d, .inl rfl⟩
  · exact ⟨b, a, fun e => d e.symm, .inr rfl⟩

/-- A flow that is right. -/
structure Flow (l : List Link) (f : List Int) : Prop where
  len : f.length = l.length
  pos : ∀ i, inR l i → 0 ≤ gx f i
  con : Cons l f
theorem Flow.bd (hl : OKl n l) (hn : n ≤ 60) {T : Int → Nat} (hT : ∀ j, inR l j → T (gx l j).To < T (gx l j).From) {f : List Int} (h : Flow l f) : 0 ≤ sF l f ∧ sF l f ≤ 12000 ∧ ∀ i, inR l i → gx f i ≤ 12000 := by
  have hll := hl.1
  have hp0 : ∀ i : Nat, i < l.length → 0 ≤ gx f (i : Int) := fun i hi => h.pos _ ⟨by omega, by omega⟩
  have h1 : sF l f ≤ wS l f (fun v => -hgt T n v) := sm_le fun i hi => by
    have hr : inR l (i : Int) := ⟨by omega, by omega⟩
    obtain ⟨a, b, d⟩ := hl.2 _ hr
    have := hgt_lt (n := n) b (hT _ hr)
    have := Int.mul_le_mul_of_nonneg_left (show (1 : Int) ≤ (-hgt T n (gx l (i : Int)).To - -hgt T n (gx l (i : Int)).From) by omega) (hp0 i hi)
    simpa using this
  rw [h.con] at h1
  have h2 : baS l (fun v => -hgt T n v) ≤ l.length * 60 := (sm_bd (c := 60) (fun i hi => by
    have hr : inR l (i : Int) := ⟨by omega, by omega⟩
    obtain ⟨a, b, d⟩ := hl.2 _ hr
    have := hgt_lt (n := n) b (hT _ hr)
    have := hgt_bd T n (gx l (i : Int)).To
    have := hgt_bd T n (gx l (i : Int)).From
    show 0 ≤ -hgt T n (gx l (i : Int)).To - -hgt T n (gx l (i : Int)).From ∧ -hgt T n (gx l (i : Int)).To - -hgt T n (gx l (i : Int)).From ≤ 60
    omega)).2
  have h3 := sm_le (f := fun _ => 0) (g := fun i : Nat => gx f (i : Int)) (n := l.length) hp0
  rw [sm_zero] at h3
  refine ⟨h3, by omega, fun i hi => ?_⟩
  have := sm_one (f := fun i : Nat => gx f (i : Int)) (n := l.length) (k := i.toNat) hp0 (by have := hi.1; have := hi.2; omega)
  rw [show ((i.toNat : Nat) : Int) = i by have := hi.1; omega] at this
  unfold sF at *
  omega

/-- One change along a circle. -/
theorem change_eq (hl : OKl n l) (hn : n ≤ 60) {T : Int → Nat} (hT : ∀ j, inR l j → T (gx l j).To < T (gx l j).From) {f : List Int} (h : Flow l f) {A circ : List Layer_arc} (hA : ArcsOf l f A) (hc : Circ n A circ) (r : List Int) :
    ∃ m f', rfor (circ.length : Int) (layer_ranks_L3 (r, circ) f) (-1) = some m ∧ rfor (circ.length : Int) (layer_ranks_L4 (r, circ) m) f = some f' ∧ Flow l f' ∧ sF l f + 1 ≤ sF l f' := by
  obtain ⟨b1, b2, b3⟩ := h.bd hl hn hT
  have hcl := hc.len
  have hfl := h.len
  have hll := hl.1
  have his : ∀ k : Nat, k < circ.length → inR l (gx circ (k : Int)).link ∧ (((gx circ (k : Int)).gain = 1 ∧ (gx circ (k : Int)).from_ = (gx l (gx circ (k : Int)).link).From ∧ (gx circ (k : Int)).to_ = (gx l (gx circ (k : Int)).link).To) ∨ ((gx circ (k : Int)).gain = -1 ∧ (gx circ (k : Int)).from_ = (gx l (gx circ (k : Int)).link).To ∧ (gx circ (k : Int)).to_ = (gx l (gx circ (k : Int)).link).From ∧ 0 < gx f (gx circ (k : Int)).link)) := fun k hk => by
    obtain ⟨j, hj, e⟩ := hc.mem k hk
    rw [e]; exact hA.is j hj
  have hlen : 1 ≤ circ.length := by
    have := hc.ne
    cases circ with
    | nil => exact absurd rfl this
    | cons x xs => simp
  obtain ⟨m, m1, m2⟩ := rfor_inv (n := (circ.length : Int)) (step := layer_ranks_L3 (r, circ) f) (s0 := -1) (fun i s => (s = -1 ∧ ∀ k : Nat, k < i → (gx circ (k : Int)).gain = 1) ∨ (1 ≤ s ∧ s ≤ 12000 ∧ ∀ k : Nat, k < i → (gx circ (k : Int)).gain = -1 → s ≤ gx f (gx circ (k : Int)).link)) (by omega) (.inl ⟨rfl, fun k hk => by omega⟩) (fun i s hi hI => by
    have hi' : i < circ.length := by omega
    obtain ⟨g0, g⟩ := his i hi'
    have hr : inR f (gx circ (i : Int)).link := ⟨g0.1, by have := g0.2; omega⟩
    have hb := b3 _ g0
    unfold layer_ranks_L3
    simp only
    rw [need_of ⟨by omega, hi⟩, bnd_eq, need_of (fun _ _ => hr)]
    rcases g with ⟨g1, g2, g3⟩ | ⟨g1, g2, g3, g4⟩
    · rw [decide_eq_false (p := (gx circ (i : Int)).gain < 0) (by omega), Bool.false_and, cond_false]
      refine ⟨_, rfl, ?_⟩
      rcases hI with ⟨c1, c2⟩ | ⟨c1, c2, c3⟩
      · refine .inl ⟨c1, fun k hk => ?_⟩
        by_cases y : k = i
        · subst y; exact g1
        · exact c2 k (by omega)
      · refine .inr ⟨c1, c2, fun k hk hg => ?_⟩
        by_cases y : k = i
        · subst y; omega
        · exact c3 k (by omega) hg
    · rw [decide_eq_true (p := (gx circ (i : Int)).gain < 0) (by omega), Bool.true_and]
      rcases hI with ⟨c1, c2⟩ | ⟨c1, c2, c3⟩
      · rw [decide_eq_true (p := s < 0) (by omega), Bool.true_or, cond_true, need_of hr, bnd_eq]
        refine ⟨_, rfl, .inr ⟨by omega, hb, fun k hk hg => ?_⟩⟩
        by_cases y : k = i
        · subst y; exact Int.le_refl _
        · have := c2 k (by omega); omega
      · rw [decide_eq_false (p := s < 0) (by omega), Bool.false_or]
        by_cases w : gx f (gx circ (i : Int)).link < s
        · rw [decide_eq_true w, cond_true, need_of hr, bnd_eq]
          refine ⟨_, rfl, .inr ⟨by omega, hb, fun k hk hg => ?_⟩⟩
          by_cases y : k = i
          · subst y; exact Int.le_refl _
          · have := c3 k (by omega) hg; omega
        · rw [decide_eq_false w, cond_false]
          refine ⟨_, rfl, .inr ⟨c1, c2, fun k hk hg => ?_⟩⟩
          by_cases y : k = i
          · subst y; omega
          · exact c3 k (by omega) hg)
  simp only [Int.toNat_natCast] at m2
  have hm : 1 ≤ m ∧ m ≤ 12000 ∧ ∀ k : Nat, k < circ.length → (gx circ (k : Int)).gain = -1 → m ≤ gx f (gx circ (k : Int)).link := by
    rcases m2 with ⟨c1, c2⟩ | hh
    · exfalso
      have h1 := hc.tel (fun v => -hgt T n v)
      have h2 : sm (fun _ : Nat => (0 : Int)) circ.length < sm (fun k : Nat => -hgt T n (gx circ (k : Int)).to_ - -hgt T n (gx circ (k : Int)).from_) circ.length := by
        have hpos : ∀ k : Nat, k < circ.length → 0 < -hgt T n (gx circ (k : Int)).to_ - -hgt T n (gx circ (k : Int)).from_ := fun k hk => by
          obtain ⟨g0, g⟩ := his k hk
          obtain ⟨a, b, d⟩ := hl.2 _ g0
          have hg := c2 k hk
          rcases g with ⟨g1, g2, g3⟩ | ⟨g1, _⟩
          · rw [g2, g3]
            have := hgt_lt (n := n) b (hT _ g0)
            omega
          · omega
        exact sm_lt (i := 0) (fun k hk => by have := hpos k hk; omega) (by omega) (hpos 0 (by omega))
      rw [sm_zero, h1] at h2
      omega
    · exact hh
  obtain ⟨hm1, hm2, hm3⟩ := hm
  obtain ⟨f', f1, f2, f3, f4, f5, f6⟩ := rfor_inv (n := (circ.length : Int)) (step := layer_ranks_L4 (r, circ) m) (s0 := f)
    (fun k s => s.length = l.length ∧ (∀ p : Int → Int, wS l s p = wS l f p + m * sm (fun k : Nat => p (gx circ (k : Int)).to_ - p (gx circ (k : Int)).from_) k) ∧ sF l s = sF l f + m * sm (fun k : Nat => (gx circ (k : Int)).gain) k ∧
      (∀ i, inR l i → gx f i ≤ gx s i ∨ ∃ k' : Nat, k' < k ∧ (gx circ (k' : Int)).gain = -1 ∧ (gx circ (k' : Int)).link = i ∧ gx f i - m ≤ gx s i) ∧ ∀ i, inR l i → gx s i ≤ 12000 + k * 12000) (by omega)
    ⟨hfl, fun p => by show _ = _ + m * 0; omega, by show _ = _ + m * 0; omega, fun i hi => .inl (Int.le_refl _), fun i hi => by have := b3 i hi; omega⟩ (fun k s hk hI => by
      obtain ⟨i1, i2, i3, i4, i5⟩ := hI
      have hk' : k < circ.length := by omega
      obtain ⟨g0, g⟩ := his k hk'
      have hr : inR s (gx circ (k : Int)).link := ⟨g0.1, by have := g0.2; omega⟩
      have hu := i5 _ g0
      have hlo : -12000 ≤ gx s (gx circ (k : Int)).link := by
        have := h.pos _ g0
        rcases i4 _ g0 with c | ⟨k', _, _, _, c⟩ <;> omega
      have hgm : (gx circ (k : Int)).gain * m = m ∨ (gx circ (k : Int)).gain * m = -m := by
        rcases g with ⟨g1, _⟩ | ⟨g1, _⟩ <;> rw [g1] <;> omega
      unfold layer_ranks_L4
      simp only
      rw [need_of ⟨by omega, hk⟩, bnd_eq, need_of hr, Wk (n := (gx circ (k : Int)).gain * m) (by omega) (by omega), Wk (by omega) (by omega), bnd_eq, need_of hr]
      have et : ∀ p : Int → Int, sm (fun k : Nat => p (gx circ (k : Int)).to_ - p (gx circ (k : Int)).from_) (k + 1) = sm (fun k : Nat => p (gx circ (k : Int)).to_ - p (gx circ (k : Int)).from_) k + (p (gx circ (k : Int)).to_ - p (gx circ (k : Int)).from_) := fun p => rfl
      have eg : sm (fun k : Nat => (gx circ (k : Int)).gain) (k + 1) = sm (fun k : Nat => (gx circ (k : Int)).gain) k + (gx circ (k : Int)).gain := rfl
      refine ⟨_, rfl, by simp [i1], fun p => ?_, ?_, fun i hi => ?_, fun i hi => ?_⟩
      · rw [wS_set i1 g0, i2, et, Int.mul_add]
        have e : gx s (gx circ (k : Int)).link + (gx circ (k : Int)).gain * m - gx s (gx circ (k : Int)).link = (gx circ (k : Int)).gain * m := by omega
        rw [e]
        have : (gx circ (k : Int)).gain * m * (p (gx l (gx circ (k : Int)).link).To - p (gx l (gx circ (k : Int)).link).From) = m * (p (gx circ (k : Int)).to_ - p (gx circ (k : Int)).from_) := by
          rcases g with ⟨g1, g2, g3⟩ | ⟨g1, g2, g3, _⟩
          · rw [g1, g2, g3, Int.one_mul]
          · rw [g1, g2, g3, Int.neg_one_mul, Int.neg_mul, ← Int.mul_neg, Int.neg_sub]
        omega
      · rw [sF_set i1 g0, i3, eg, Int.mul_add, Int.mul_comm m (gx circ (k : Int)).gain]; omega
      · rw [gx_setJ hr hi.1]
        by_cases y : i = (gx circ (k : Int)).link
        · rw [if_pos y]
          subst y
          rcases g with ⟨g1, g2, g3⟩ | ⟨g1, g2, g3, g4⟩
          · rcases i4 _ g0 with c | ⟨k', c1, c2, c3, c4⟩
            · left; rw [g1]; omega
            · right; exact ⟨k', by omega, c2, c3, by rw [g1]; omega⟩
          · rcases i4 _ g0 with c | ⟨k', c1, c2, c3, c4⟩
            · right; exact ⟨k, by omega, g1, rfl, by rw [g1]; omega⟩
            · exfalso
              obtain ⟨_, g'⟩ := his k' (by omega)
              rcases g' with ⟨g1', _⟩ | ⟨_, _, g3', _⟩
              · omega
              · have := hc.nd k' k (by omega) hk' (by rw [g3', g3, c3])
                omega
        · rw [if_neg y]
          exact (i4 i hi).imp id fun ⟨k', c1, c2, c3, c4⟩ => ⟨k', by omega, c2, c3, c4⟩
      · rw [gx_setJ hr hi.1]
        have := i5 i hi
        push_cast
        split <;> omega)
  simp only [Int.toNat_natCast] at f3 f4 f5
  refine ⟨m, f', m1, f1, ⟨f2, fun i hi => ?_, fun p => ?_⟩, ?_⟩
  · have := h.pos i hi
    rcases f5 i hi with c | ⟨k', c1, c2, c3, c4⟩
    · omega
    · have := hm3 k' c1 c2
      rw [c3] at this; omega
  · rw [f3, hc.tel, h.con]; omega
  · rw [f4]
    have := Int.mul_le_mul hm1 hc.gain (by omega) (by omega)
    omega

/-- Ranks, with the flow that shows them least. -/
structure RanksOK (n : Nat) (l : List Link) (c out f : List Int) : Prop where
  len : out.length = n
  bd : ∀ v : Int, 0 ≤ v → v < n → 0 ≤ gx out v ∧ gx out v ≤ 60
  kept : ∀ i, inR l i → gx out (gx l i).From + 1 ≤ gx out (gx l i).To
  flow : Flow l f
  tight : ∀ i, inR l i → 0 < gx f i → gx out (gx l i).To = gx out (gx l i).From + 1
  zero : ∀ k : Int, 0 ≤ k → k < n → ∃ j : Int, 0 ≤ j ∧ j < n ∧ gx c j = gx c k ∧ gx out j = 0
theorem ranks_eq (hn : 1 ≤ n ∧ n ≤ 60) (hl : OKl n l) {T : Int → Nat} (hT : ∀ j, inR l j → T (gx l j).To < T (gx l j).From) {c : List Int} (hc : Lab n l c) (hf : Con l (gx c)) :
    ∃ out f, layer_ranks (n : Int) l = some out ∧ RanksOK n l c out f := by
  have hll := hl.1
  unfold layer_ranks
  rw [bnd_eq, need_of ⟨by omega, by omega, by omega⟩, bnd_eq]
  have e1 : rfor ((List.replicate (l.length : Int).toNat (0 : Int)).length : Int) layer_ranks_L1 (List.replicate (l.length : Int).toNat (0 : Int)) = some (List.replicate l.length (1 : Int)) := by
    obtain ⟨s, a1, a2, a3⟩ := rfor_inv (n := ((List.replicate (l.length : Int).toNat (0 : Int)).length : Int)) (step := layer_ranks_L1) (s0 := List.replicate (l.length : Int).toNat (0 : Int)) (fun i s => s.length = l.length ∧ ∀ k : Nat, k < i → gx s (k : Int) = 1) (by simp; omega) ⟨by simp, fun k hk => by omega⟩ (fun i s hi hI => by
      obtain ⟨i1, i2⟩ := hI
      simp at hi
      have hr : inR s (i : Int) := ⟨by omega, by omega⟩
      unfold layer_ranks_L1
      rw [need_of hr]
      refine ⟨_, rfl, by simp [i1], fun k hk => ?_⟩
      rw [gx_setJ hr (by omega)]
      by_cases y : k = i
      · subst y; rw [if_pos rfl]
      · rw [if_neg (by omega)]; exact i2 k (by omega))
    rw [a1]
    congr 1
    refine List.ext_getElem (by simp [a2]) fun i h1 h2 => ?_
    have := a3 i (by simp; omega)
    rw [gx_nat h1] at this
    rw [this, List.getElem_replicate]
  rw [e1, Option.bind_some]
  have h1g : ∀ i, inR l i → gx (List.replicate l.length (1 : Int)) i = 1 := fun i hi => by
    obtain ⟨k, rfl⟩ : ∃ k : Nat, i = k := ⟨i.toNat, by have := hi.1; omega⟩
    have := hi.2
    rw [gx_nat (by simp; omega), List.getElem_replicate]
  have h0 : Flow l (List.replicate l.length (1 : Int)) := ⟨by simp, fun i hi => by rw [h1g i hi]; omega, fun p => sm_congr fun i hi => by rw [h1g _ ⟨by omega, by omega⟩, Int.one_mul]⟩
  obtain ⟨out, k1, f, k2⟩ := loop_inv (body := layer_ranks_L2 l (n : Int)) (s0 := List.replicate l.length (1 : Int)) (fun f => Flow l f) (fun f => (12000 - sF l f).toNat) (fun out => ∃ f, RanksOK n l c out f) h0 (fun f hF => by
    obtain ⟨b1, b2, b3⟩ := hF.bd hl hn.2 hT
    obtain ⟨A, a1, a2, a3⟩ := arcs_eq hl hF.len
    obtain ⟨⟨r, circ⟩, r1, r2⟩ := raised_eq a2 hn
    simp only at r2
    unfold layer_ranks_L2
    rw [a1, Option.bind_some, r1, Option.bind_some]
    simp only
    rcases r2 with ⟨rfl, q1, q2, q3⟩ | hcirc
    · right
      obtain ⟨out, m, g1, g2, g3⟩ := grounded_eq hn hl hc hf q1 (fun k k0 k1 => by have := q2 k k0 k1; omega)
      rw [show ([] : List Layer_arc).isEmpty = true from rfl, cond_true, g1, Option.bind_some]
      have hdiff : ∀ i, inR l i → gx out (gx l i).To - gx out (gx l i).From = gx r (gx l i).To - gx r (gx l i).From := fun i hi => by
        obtain ⟨a, b, d⟩ := hl.2 _ hi
        rw [(g3 _ a.1 a.2).1, (g3 _ b.1 b.2).1, hf i hi]; omega
      have hkept : ∀ i, inR l i → gx r (gx l i).From + 1 ≤ gx r (gx l i).To := fun i hi => by
        obtain ⟨j, hj, e⟩ := a3.fw i hi
        have := q3 j hj
        rw [e] at this; exact this
      refine ⟨_, rfl, f, g2, fun v v0 v1 => ?_, fun i hi => ?_, hF, fun i hi hp => ?_, fun k k0 k1 => ?_⟩
      · have := g3 v v0 v1
        have := q2 v v0 v1
        omega
      · have := hdiff i hi
        have := hkept i hi
        omega
      · obtain ⟨j, hj, e⟩ := a3.bw i hi hp
        have h4 := q3 j hj
        rw [e] at h4
        simp only at h4
        have := hdiff i hi
        have := hkept i hi
        omega
      · obtain ⟨h5, h6, h7, j, j0, j1, j2, j3⟩ := g3 k k0 k1
        refine ⟨j, j0, j1, j2, ?_⟩
        rw [(g3 j j0 j1).1, j2, j3]; omega
    · left
      have he : circ.isEmpty = false := by
        have := hcirc.ne
        cases circ with
        | nil => exact absurd rfl this
        | cons x xs => rfl
      obtain ⟨m, f', m1, m2, m3, m4⟩ := change_eq hl hn.2 hT hF a3 hcirc r
      rw [he, cond_false, m1, Option.bind_some, m2, Option.bind_some]
      have := m3.bd hl hn.2 hT
      exact ⟨_, rfl, m3, by omega⟩)
  exact ⟨out, f, k1, k2⟩
end
end Go.DB
