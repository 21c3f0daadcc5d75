/-
  Rows that are as even as can be: the law in plain words.
-/
import Derived.Test.YtakkmmhjohadaaaEvePuTrees
set_option linter.unusedSimpArgs false
set_option linter.unusedVariables false
namespace Go.DB
open Go Go.RowKit

/-! Widths of parts. -/

def smw (l : List Int) (g : Int) : Nat → Int
  | 0 => 0
  | j + 1 => smw l g j + (gx l (j : Int) + g)
structure EvOK (l : List Int) (g : Int) : Prop where
  len : l.length ≤ 1000
  el : ∀ i : Nat, i < l.length → 1 ≤ gx l (i : Int) ∧ gx l (i : Int) ≤ 20000
  g0 : 0 ≤ g
  g1 : g ≤ 1000

theorem smw_step {l : List Int} {g : Int} (h : EvOK l g) : ∀ (d i : Nat), i + d ≤ l.length → smw l g i + d + g * d ≤ smw l g (i + d) ∧ smw l g (i + d) ≤ smw l g i + 21000 * d
  | 0, i, _ => by simp
  | d + 1, i, hd => by
    have h1 := smw_step h d i (by omega)
    have h2 := h.el (i + d) (by omega)
    have h3 := h.g0
    have h4 := h.g1
    show _ ≤ smw l g (i + d) + (gx l ((i + d : Nat) : Int) + g) ∧ smw l g (i + d) + (gx l ((i + d : Nat) : Int) + g) ≤ _
    have : g * ((d + 1 : Nat) : Int) = g * d + g := by rw [Int.natCast_add, Int.mul_add]; simp
    rw [this]
    generalize g * (d : Int) = z at *
    omega
theorem smw_mono {l : List Int} {g : Int} (h : EvOK l g) {i j : Nat} (hij : i ≤ j) (hj : j ≤ l.length) : smw l g i + (j - i : Nat) ≤ smw l g j ∧ smw l g j ≤ smw l g i + 21000 * (j - i : Nat) := by
  have := smw_step h (j - i) i (by omega)
  rw [show i + (j - i) = j by omega] at this
  have h2 : 0 ≤ g * ((j - i : Nat) : Int) := Int.mul_nonneg h.g0 (by omega)
  omega
theorem smw_bd {l : List Int} {g : Int} (h : EvOK l g) {j : Nat} (hj : j ≤ l.length) : 0 ≤ smw l g j ∧ smw l g j ≤ 21000000 := by
  have h1 := smw_mono h (Nat.zero_le j) hj
  have h2 := h.len
  simp only [smw] at h1
  omega
theorem smw_gap (l : List Int) (g : Int) : ∀ j : Nat, smw l g j = smw l 0 j + g * j
  | 0 => by simp [smw]
  | j + 1 => by
    have : g * ((j + 1 : Nat) : Int) = g * j + g := by rw [Int.natCast_add, Int.mul_add]; simp
    rw [smw, smw, smw_gap l g j, this]
    omega
theorem gx_seg (l : List Int) {a b j : Nat} (hj : a + j < b) : gx (seg l (a : Int) (b : Int)) (j : Int) = gx l ((a + j : Nat) : Int) := by
  unfold gx seg
  simp only [Int.toNat_natCast]
  rw [List.getElem?_drop, List.getElem?_take_of_lt hj]
theorem smw_seg (l : List Int) (g : Int) (a b : Nat) : ∀ j : Nat, a + j ≤ b → smw (seg l (a : Int) (b : Int)) g j = smw l g (a + j) - smw l g a
  | 0, _ => by simp [smw]
  | j + 1, h => by
    rw [smw, smw_seg l g a b j (by omega), gx_seg l (by omega), show a + (j + 1) = (a + j) + 1 from rfl, smw]
    omega
theorem len_seg (l : List Int) {a b : Nat} (hb : b ≤ l.length) : (seg l (a : Int) (b : Int)).length = b - a := by unfold seg; simp; omega
theorem EvOK.seg {l : List Int} {g : Int} (h : EvOK l g) {a b : Nat} (hab : a ≤ b) (hb : b ≤ l.length) : EvOK (seg l (a : Int) (b : Int)) g where
  len := by rw [len_seg l hb]; have := h.len; omega
  el i hi := by rw [len_seg l hb] at hi; rw [gx_seg l (by omega)]; exact h.el _ (by omega)
  g0 := h.g0
  g1 := h.g1
theorem seg_seg (l : List Int) {a c d : Nat} (hd : a + d ≤ l.length) : Go.DB.seg (Go.DB.seg l (a : Int) (l.length : Int)) (c : Int) (d : Int) = Go.DB.seg l ((a + c : Nat) : Int) ((a + d : Nat) : Int) := by
  unfold Go.DB.seg
  simp only [Int.toNat_natCast, List.take_length]
  rw [List.drop_take, List.drop_take, List.take_drop, List.drop_take, List.drop_drop]
  congr 1; omega

theorem RowWidth_eq {l : List Int} {g : Int} (h : EvOK l g) : ref_RowWidth l g = some (smw l g l.length - g) := by
  have h1 := h.len
  have h2 := h.g0
  have h3 := h.g1
  have hz : EvOK l 0 := ⟨h1, h.el, by omega, by omega⟩
  have hm : -1000 ≤ g * ((l.length : Int) - 1) ∧ g * ((l.length : Int) - 1) ≤ 1000000 := by
    rw [Int.mul_sub]
    have a1 : 0 ≤ g * (l.length : Int) := Int.mul_nonneg h2 (by omega)
    have a2 : g * (l.length : Int) ≤ 1000 * 1000 := Int.mul_le_mul h3 (by omega) (by omega) (by omega)
    omega
  unfold ref_RowWidth
  simp only [bnd_eq]
  rw [Wk (n := (l.length : Int) - 1) (by omega) (by omega), Wk (by omega) (by omega)]
  obtain ⟨s, hs, hI⟩ := rfor_inv (n := (l.length : Int)) (step := ref_RowWidth_L1 l) (s0 := g * ((l.length : Int) - 1)) (fun i s => s = g * ((l.length : Int) - 1) + smw l 0 i) (by omega) (by simp [smw]) (fun i s hi hI => by
    have hi' : i < l.length := by omega
    have e1 := h.el i hi'
    have e2 := smw_bd hz (j := i) (by omega)
    subst hI
    unfold ref_RowWidth_L1
    rw [need_of ⟨by omega, by omega⟩]
    simp only [bnd_eq]
    refine ⟨_, rfl, ?_⟩
    rw [Wk (by omega) (by omega), smw]
    omega)
  rw [hs, bind_sm, hI, smw_gap l g]
  simp only [Int.toNat_natCast]
  congr 1
  rw [Int.mul_sub]
  omega

/-! Ways to part. -/

/-- What is from i on can be put into r rows that are no wider than w. -/
def Spl (l : List Int) (g w : Int) : Nat → Nat → Prop
  | 0, i => i = l.length
  | r + 1, i => ∃ k, i < k ∧ k ≤ l.length ∧ smw l g k - smw l g i - g ≤ w ∧ Spl l g w r k
theorem Spl.le {l : List Int} {g w : Int} : ∀ {r i : Nat}, Spl l g w r i → i + r ≤ l.length
  | 0, i, h => by simp only [Spl] at h; omega
  | r + 1, i, ⟨k, h1, h2, _, h4⟩ => by have := h4.le; omega
theorem Spl.wider {l : List Int} {g w w' : Int} (hw : w ≤ w') : ∀ {r i : Nat}, Spl l g w r i → Spl l g w' r i
  | 0, i, h => h
  | r + 1, i, ⟨k, h1, h2, h3, h4⟩ => ⟨k, h1, h2, by omega, h4.wider hw⟩
/-- The rows that are chosen. -/
def Cuts (l : List Int) (g w : Int) : Nat → Nat → List Int → Prop
  | 0, _, o => o = []
  | r + 1, i, o => ∃ k : Nat, 1 ≤ k ∧ (∀ j, 1 ≤ j → j < k → ¬ Spl l g w r (i + j)) ∧ Spl l g w r (i + k) ∧ ∃ o', o = (k : Int) :: o' ∧ Cuts l g w r (i + k) o'
theorem Cuts.uniq {l : List Int} {g w : Int} : ∀ {r i : Nat} {o p : List Int}, Cuts l g w r i o → Cuts l g w r i p → o = p
  | 0, i, o, p, h1, h2 => by simp only [Cuts] at h1 h2; rw [h1, h2]
  | r + 1, i, o, p, ⟨k, a1, a2, a3, o', a4, a5⟩, ⟨k', b1, b2, b3, p', b4, b5⟩ => by
    have : k = k' := by
      rcases Nat.lt_trichotomy k k' with h | h | h
      · exact absurd a3 (b2 k a1 h)
      · exact h
      · exact absurd b3 (a2 k' b1 h)
    subst this
    rw [a4, b4, a5.uniq b5]

/-! The least width, by trial of all. -/

theorem evenWidth_one (self : ((List Int) × Int × Int) → Option Int) (l : List Int) (g : Int) : ref_evenWidth_body self (l, 1, g) = ref_RowWidth l g := by
  unfold ref_evenWidth_body
  simp only [decide_true, cond_true]
  cases ref_RowWidth l g <;> rfl
theorem evenWidth_more (self : ((List Int) × Int × Int) → Option Int) (l : List Int) (r g : Int) (hr : r ≠ 1) : ref_evenWidth_body self (l, r, g) = loop (ref_evenWidth_L1 self (l, r, g)) (-1, 1) := by
  unfold ref_evenWidth_body
  simp only [hr, decide_false, cond_false]
  cases loop (ref_evenWidth_L1 self (l, r, g)) (-1, 1) <;> rfl

/-- What the trial of all knows ahead of k. -/
def EvI (l : List Int) (g : Int) (r i : Nat) (s : Int × Int) : Prop :=
  ∃ k : Nat, s.2 = k ∧ 1 ≤ k ∧ i + k + r ≤ l.length + 1 ∧ (k = 1 → s.1 = -1) ∧ (1 < k → 0 ≤ s.1 ∧ s.1 ≤ 21000000 ∧ ∀ w, s.1 ≤ w ↔ ∃ j, 1 ≤ j ∧ j < k ∧ smw l g (i + j) - smw l g i - g ≤ w ∧ Spl l g w r (i + j))

theorem row_part {l : List Int} {g : Int} (h : EvOK l g) {i k : Nat} (hk : 1 ≤ k) (hi : i + k ≤ l.length) :
    ref_RowWidth (seg (seg l (i : Int) (l.length : Int)) ((0 : Nat) : Int) (k : Int)) g = some (smw l g (i + k) - smw l g i - g) ∧ 0 ≤ smw l g (i + k) - smw l g i - g ∧ smw l g (i + k) - smw l g i - g ≤ 21000000 := by
  rw [seg_seg l hi]
  have hs := h.seg (a := i) (b := i + k) (by omega) hi
  refine ⟨?_, ?_⟩
  · rw [Nat.add_zero, RowWidth_eq hs, len_seg l hi, smw_seg l g i (i + k) _ (by omega), show i + (i + k - i) = i + k by omega]
  · have h1 := smw_step h k i hi
    have h3 : g * 1 ≤ g * (k : Int) := Int.mul_le_mul_of_nonneg_left (by omega) h.g0
    have h4 := smw_bd h (j := i + k) hi
    have h5 := smw_bd h (j := i) (by omega)
    have h6 := h.g0
    omega

theorem evenWidth_fix {l : List Int} {g : Int} (h : EvOK l g) : ∀ (r i : Nat), i + (r + 1) ≤ l.length → ∃ e, 0 ≤ e ∧ e ≤ 21000000 ∧ (∀ w, e ≤ w ↔ Spl l g w (r + 1) i) ∧
    ∀ n, r + 1 ≤ n → fixN ref_evenWidth_body n (seg l (i : Int) (l.length : Int), ((r + 1 : Nat) : Int), g) = some e
  | 0, i, hi => by
    have hp := row_part h (i := i) (k := l.length - i) (by omega) (by omega)
    rw [show i + (l.length - i) = l.length by omega] at hp
    obtain ⟨p1, p2, p3⟩ := hp
    refine ⟨smw l g l.length - smw l g i - g, by omega, by omega, fun w => ?_, fun n hn => ?_⟩
    · constructor
      · intro hw; exact ⟨l.length, by omega, Nat.le_refl _, hw, rfl⟩
      · rintro ⟨k, _, _, hk, hk2⟩
        simp only [Spl] at hk2
        subst hk2; exact hk
    · match n, hn with
      | n + 1, hn =>
        show ref_evenWidth_body _ _ = _
        rw [show (((0 + 1 : Nat) : Int)) = 1 from rfl, evenWidth_one, ← p1, seg_seg l (by omega), show i + 0 = i from rfl, show i + (l.length - i) = l.length by omega]
  | r + 1, i, hi => by
    have h1 := h.len
    have ih := fun k => evenWidth_fix h r (i + k)
    have key : ∀ n, r + 1 ≤ n → ∃ e, loop (ref_evenWidth_L1 (fixN ref_evenWidth_body n) (seg l (i : Int) (l.length : Int), ((r + 1 + 1 : Nat) : Int), g)) (-1, 1) = some e ∧ 0 ≤ e ∧ e ≤ 21000000 ∧ (∀ w, e ≤ w ↔ Spl l g w (r + 1 + 1) i) := by
      intro n hn
      refine loop_inv (EvI l g (r + 1) i) (fun s => l.length + 1 - s.2.toNat) _ ⟨1, rfl, by omega, by omega, fun _ => rfl, fun h => by omega⟩ ?_
      rintro ⟨b, k'⟩ ⟨k, hk0, hk1, hk2, hk3, hk4⟩
      simp only at hk0 hk3 hk4
      subst hk0
      have hlen : (seg l (i : Int) (l.length : Int)).length = l.length - i := len_seg l (Nat.le_refl _)
      unfold ref_evenWidth_L1
      simp only [hlen]
      rw [Wk (n := ((r + 1 + 1 : Nat) : Int) - 1) (by omega) (by omega), Wk (n := ((l.length - i : Nat) : Int) - k) (by omega) (by omega)]
      by_cases hc : ((r + 1 + 1 : Nat) : Int) - 1 ≤ ((l.length - i : Nat) : Int) - k
      · left
        have e1 : decide (((r + 1 + 1 : Nat) : Int) - 1 ≤ ((l.length - i : Nat) : Int) - k) = true := by simpa using hc
        simp only [e1, cond_true]
        rw [need_of (by rw [segR_iff]; omega)]
        have rp := row_part h (i := i) (k := k) hk1 (by omega)
        rw [show ((0 : Nat) : Int) = 0 from rfl] at rp
        rw [rp.1, bind_sm, need_of (by rw [segR_iff]; omega)]
        obtain ⟨e, e0, e2, e3, e4⟩ := ih k (by omega)
        have e4' := e4 n hn
        have hseg : seg (seg l (i : Int) (l.length : Int)) (k : Int) ((l.length - i : Nat) : Int) = seg l ((i + k : Nat) : Int) (l.length : Int) := by
          rw [seg_seg l (by omega), show i + (l.length - i) = l.length by omega]
        rw [hseg, show ((r + 1 + 1 : Nat) : Int) - 1 = ((r + 1 : Nat) : Int) by omega, e4']
        simp only [bind_sm, bnd_eq]
        obtain ⟨r1, r2, r3⟩ := rp
        generalize hm : max (smw l g (i + k) - smw l g i - g) e = m
        have hm2 : ∀ w, m ≤ w ↔ smw l g (i + k) - smw l g i - g ≤ w ∧ Spl l g w (r + 1) (i + k) := fun w => by rw [← e3 w]; omega
        rw [Wk (n := (k : Int) + 1) (by omega) (by omega)]
        have fin : ∀ b', (∀ w, b' ≤ w ↔ m ≤ w ∨ (0 ≤ b ∧ b ≤ w)) → 0 ≤ b' → b' ≤ 21000000 → EvI l g (r + 1) i (b', (k : Int) + 1) := by
          intro b' hb hb0 hb1
          refine ⟨k + 1, by simp, by omega, by omega, fun h => by omega, fun _ => ⟨hb0, hb1, fun w => ?_⟩⟩
          rw [hb w]
          constructor
          · rintro (hw | ⟨hw1, hw2⟩)
            · exact ⟨k, hk1, by omega, (hm2 w).1 hw⟩
            · by_cases hkk : k = 1
              · have := hk3 hkk; omega
              · obtain ⟨j, j1, j2, j3⟩ := ((hk4 (by omega)).2.2 w).1 hw2
                exact ⟨j, j1, by omega, j3⟩
          · rintro ⟨j, j1, j2, j3⟩
            rcases Nat.lt_or_eq_of_le (Nat.lt_succ_iff.1 j2) with hj | hj
            · exact .inr ⟨(hk4 (by omega)).1, ((hk4 (by omega)).2.2 w).2 ⟨j, j1, hj, j3⟩⟩
            · subst hj; exact .inl ((hm2 w).2 j3)
        by_cases hb : b < 0 ∨ m < b
        · have e5 : ((decide (b < 0)) || (decide (m < b))) = true := by simpa using hb
          simp only [e5, cond_true, bind_sm]
          refine ⟨_, rfl, fin m (fun w => ?_) (by omega) (by omega), by simp; omega⟩
          omega
        · have e5 : ((decide (b < 0)) || (decide (m < b))) = false := by simp; omega
          simp only [e5, cond_false, bind_sm]
          refine ⟨_, rfl, fin b (fun w => ?_) (by omega) (by omega), by simp; omega⟩
          omega
      · right
        have e1 : decide (((r + 1 + 1 : Nat) : Int) - 1 ≤ ((l.length - i : Nat) : Int) - k) = false := by simp; omega
        simp only [e1, cond_false]
        obtain ⟨b0, b1, b2⟩ := hk4 (by omega)
        refine ⟨_, rfl, b0, b1, fun w => ?_⟩
        rw [b2 w]
        constructor
        · rintro ⟨j, j1, j2, j3, j4⟩; exact ⟨i + j, by omega, by have := j4.le; omega, j3, j4⟩
        · rintro ⟨j, j1, j2, j3, j4⟩
          have := j4.le
          refine ⟨j - i, by omega, by omega, ?_, ?_⟩ <;> rw [show i + (j - i) = j by omega] <;> assumption
    obtain ⟨e, e3, e0, e1, e2⟩ := key (r + 1) (Nat.le_refl _)
    refine ⟨e, e0, e1, e2, fun n hn => ?_⟩
    match n, hn with
    | n + 1, hn =>
      show ref_evenWidth_body _ _ = _
      rw [evenWidth_more _ _ _ _ (by omega)]
      obtain ⟨e', f3, f0, f1, f2⟩ := key n (by omega)
      rw [f3]
      have a1 := (e2 e').2 ((f2 e').1 (Int.le_refl _))
      have a2 := (f2 e).2 ((e2 e).1 (Int.le_refl _))
      congr 1; omega

theorem evenWidth_eq {l : List Int} {g : Int} (h : EvOK l g) {r i : Nat} (hr : 1 ≤ r) (hi : i + r ≤ l.length) : ∃ e, ref_evenWidth (seg l (i : Int) (l.length : Int)) (r : Int) g = some e ∧ 0 ≤ e ∧ e ≤ 21000000 ∧ ∀ w, e ≤ w ↔ Spl l g w r i := by
  obtain ⟨e, h0, h1, h2, h3⟩ := evenWidth_fix h (r - 1) i (by omega)
  rw [show r - 1 + 1 = r by omega] at h2 h3
  exact ⟨e, fixp_of r (fun n hn => h3 n hn), h0, h1, h2⟩

/-! How many rows are needed. -/

/-- What is known of the counts from m on. -/
def NeP (l : List Int) (g w : Int) (m : Nat) (o : List Int) : Prop :=
  o.length = l.length + 1 ∧ ∀ j, m ≤ j → j ≤ l.length → ∃ v : Nat, gx o (j : Int) = v ∧ j + v ≤ l.length ∧ (∀ r, j + r ≤ l.length → (v ≤ r ↔ Spl l g w r j)) ∧ ∀ k, j ≤ k → k ≤ l.length → gx o (k : Int) ≤ v
def NeI (l : List Int) (g w : Int) (s : Int × Int × Int × List Int) : Prop :=
  ∃ m t : Nat, s.2.2.1 = (m : Int) - 1 ∧ s.1 = t ∧ m ≤ t ∧ t ≤ l.length ∧ s.2.1 = smw l g t - smw l g m ∧ NeP l g w m s.2.2.2 ∧ (m < l.length → ∀ k, m < k → k ≤ l.length → (smw l g k - smw l g m - g ≤ w ↔ k ≤ t)) ∧ (m = l.length → t = m) ∧ ∀ j : Nat, m ≤ j → j < l.length → gx l (j : Int) ≤ w
theorem Spl.singles {l : List Int} {g w : Int} (h : EvOK l g) : ∀ (d j : Nat), j + d = l.length → (∀ i : Nat, j ≤ i → i < l.length → gx l (i : Int) ≤ w) → Spl l g w d j
  | 0, j, hj, _ => by simp only [Spl]; omega
  | d + 1, j, hj, hw => by
    refine ⟨j + 1, by omega, by omega, ?_, Spl.singles h d (j + 1) (by omega) (fun i h1 h2 => hw i (by omega) h2)⟩
    have := hw j (Nat.le_refl _) (by omega)
    rw [smw]; omega
theorem gx_set {l : List Int} {i j : Nat} {v : Int} (hj : j < l.length) : gx (l.set i v) (j : Int) = if i = j then v else gx l (j : Int) := by
  unfold gx
  simp only [Int.toNat_natCast, List.getElem?_set]
  by_cases h : i = j
  · simp [h, hj]
  · simp [h]

theorem needed_eq {l : List Int} {g : Int} (h : EvOK l g) (w : Int) (hw0 : 0 ≤ w) (hw : w ≤ 21000000) :
    (∃ o, tree_needed l g w = some (o, true) ∧ NeP l g w 0 o ∧ ∀ j : Nat, j < l.length → gx l (j : Int) ≤ w) ∨ (tree_needed l g w = some ([], false) ∧ ∃ j : Nat, j < l.length ∧ w < gx l (j : Int)) := by
  have h1 := h.len
  have h2 := h.g0
  have h3 := h.g1
  have hloop : ∃ e, loop (tree_needed_L1 g w l) ((l.length : Int), 0, (l.length : Int) - 1, List.replicate (l.length + 1) (0 : Int)) = some e ∧
      ((∃ o, e = .nx o ∧ NeP l g w 0 o ∧ ∀ j : Nat, j < l.length → gx l (j : Int) ≤ w) ∨ (e = .ab ([], false) ∧ ∃ j : Nat, j < l.length ∧ w < gx l (j : Int))) := by
    refine loop_inv (NeI l g w) (fun s => (s.2.2.1 + 1).toNat) _ ⟨l.length, l.length, rfl, rfl, Nat.le_refl _, Nat.le_refl _, by simp, ⟨by simp, fun j j1 j2 => ?_⟩, fun hh => by omega, fun _ => rfl, fun j j1 j2 => by omega⟩ ?_
    · have : j = l.length := by omega
      subst this
      refine ⟨0, ?_, by omega, fun r hr => ?_, fun k k1 k2 => ?_⟩
      · unfold gx; simp
      · have : r = 0 := by omega
        subst this
        simp [Spl]
      · have : k = l.length := by omega
        subst this
        unfold gx; simp
    · rintro ⟨to, sum, i, o⟩ ⟨m, t, m1, m2, m3, m4, m5, m6, m7, m8, m9⟩
      simp only at m1 m2 m5 m6
      subst m1 m2 m5
      obtain ⟨ol, om⟩ := m6
      unfold tree_needed_L1
      simp only
      by_cases hm : m = 0
      · right
        subst hm
        simp only [show decide ((0 : Int) ≤ ((0 : Nat) : Int) - 1) = false from rfl, cond_false]
        exact ⟨_, rfl, .inl ⟨o, rfl, ⟨ol, om⟩, fun j hj => m9 j (by omega) hj⟩⟩
      · obtain ⟨i, rfl⟩ : ∃ i, m = i + 1 := ⟨m - 1, by omega⟩
        have ei : ((i + 1 : Nat) : Int) - 1 = (i : Int) := by omega
        have e1 : decide ((0 : Int) ≤ (i : Int)) = true := by simp
        rw [ei]
        simp only [e1, cond_true]
        have hin : inR l (i : Int) := ⟨by omega, by omega⟩
        have hel := h.el i (by omega)
        rw [need_of hin]
        by_cases hc : w < gx l (i : Int)
        · right
          simp only [hc, decide_true, cond_true, bindR_ab]
          exact ⟨_, rfl, .inr ⟨rfl, i, by omega, hc⟩⟩
        · left
          have e2 : decide (w < gx l (i : Int)) = false := by simp; omega
          have b1 := smw_bd h (j := t) m4
          have b2 := smw_bd h (j := i + 1) (by omega)
          have b3 := smw_bd h (j := i) (by omega)
          have b4 : smw l g (i + 1) = smw l g i + (gx l (i : Int) + g) := rfl
          simp only [e2, cond_false, bnd_eq]
          rw [need_of hin, Wk (n := gx l (i : Int) + g) (by omega) (by omega), Wk (n := smw l g t - smw l g (i + 1) + (gx l (i : Int) + g)) (by omega) (by omega)]
          have inner : ∃ e, loop (tree_needed_L2 g w l) ((t : Int), smw l g t - smw l g (i + 1) + (gx l (i : Int) + g)) = some e ∧
              ∃ u : Nat, e = ((u : Int), smw l g u - smw l g i) ∧ i < u ∧ u ≤ t ∧ ∀ k, i < k → k ≤ l.length → (smw l g k - smw l g i - g ≤ w ↔ k ≤ u) := by
            refine loop_inv (fun s => ∃ u : Nat, s = ((u : Int), smw l g u - smw l g i) ∧ i < u ∧ u ≤ t ∧ ∀ k, u < k → k ≤ l.length → w < smw l g k - smw l g i - g) (fun s => s.1.toNat) _ ⟨t, by rw [b4]; simp; omega, by omega, Nat.le_refl _, fun k k1 k2 => ?_⟩ ?_
            · by_cases hl : i + 1 = l.length
              · have := m8 hl; omega
              · have := (m7 (by omega) k (by omega) k2)
                have := smw_mono h (i := i) (j := i + 1) (by omega) (by omega)
                omega
            · rintro s ⟨u, rfl, u1, u2, u3⟩
              unfold tree_needed_L2
              simp only
              have c1 := smw_bd h (j := u) (by omega)
              rw [Wk (n := smw l g u - smw l g i - g) (by omega) (by omega)]
              by_cases hu : w < smw l g u - smw l g i - g
              · left
                have hu1 : i + 1 < u := by
                  rcases Nat.lt_or_eq_of_le (show i + 1 ≤ u from u1) with hx | hx
                  · exact hx
                  · subst hx; rw [b4] at hu; omega
                obtain ⟨x, rfl⟩ : ∃ x, u = x + 1 := ⟨u - 1, by omega⟩
                have c2 := h.el x (by omega)
                have c3 : smw l g (x + 1) = smw l g x + (gx l (x : Int) + g) := rfl
                have c4 := smw_bd h (j := x) (by omega)
                simp only [hu, decide_true, cond_true, bnd_eq]
                rw [Wk (n := ((x + 1 : Nat) : Int) - 1) (by omega) (by omega), show ((x + 1 : Nat) : Int) - 1 = (x : Int) by omega, need_of ⟨by omega, by omega⟩, Wk (n := gx l (x : Int) + g) (by omega) (by omega), Wk (by omega) (by omega)]
                refine ⟨_, rfl, ⟨x, by rw [c3]; simp; omega, by omega, by omega, fun k k1 k2 => ?_⟩, by simp⟩
                have := smw_mono h (i := x + 1) (j := k) (by omega) k2
                omega
              · right
                have e3 : decide (w < smw l g u - smw l g i - g) = false := by simp; omega
                simp only [e3, cond_false]
                refine ⟨_, rfl, u, rfl, u1, u2, fun k k1 k2 => ⟨fun hk => ?_, fun hk => ?_⟩⟩
                · by_cases hku : k ≤ u
                  · exact hku
                  · have := u3 k (by omega) k2; omega
                · have := smw_mono h (i := k) (j := u) hk (by omega); omega
          obtain ⟨e, he, u, rfl, u1, u2, u3⟩ := inner
          rw [he, bind_sm]
          simp only
          obtain ⟨v, v1, v2, v3, v4⟩ := om u (by omega) (by omega)
          rw [need_of ⟨by omega, by omega⟩, v1, Wk (n := (v : Int) + 1) (by omega) (by omega), need_of ⟨by omega, by omega⟩]
          simp only [bindR_nx]
          rw [Wk (n := (i : Int) - 1) (by omega) (by omega)]
          have m9' : ∀ j : Nat, i ≤ j → j < l.length → gx l (j : Int) ≤ w := by
            intro j j1 j2
            rcases Nat.lt_or_eq_of_le j1 with hj | hj
            · exact m9 j hj j2
            · subst hj; omega
          refine ⟨_, rfl, ⟨i, u, rfl, rfl, by omega, by omega, rfl, ⟨by simp [ol], ?_⟩, fun _ k k1 k2 => u3 k k1 k2, fun hh => by omega, m9'⟩, by simp⟩
          intro j j1 j2
          simp only [Int.toNat_natCast]
          have hmono : ∀ k, i < k → k ≤ l.length → gx o (k : Int) ≤ (v : Int) + 1 := by
            intro k k1 k2
            by_cases hk : u ≤ k
            · have := v4 k hk k2; omega
            · -- the next place down is no greater
              obtain ⟨x, x1, x2, x3, x4⟩ := om k (by omega) k2
              have hs : Spl l g w v u := (v3 v (by omega)).1 (Nat.le_refl _)
              have hk3 : Spl l g w (v + 1) k := ⟨u, by omega, by omega, by
                have := smw_mono h (i := i) (j := k) (by omega) k2
                have := (u3 u u1 (by omega)).2 (Nat.le_refl _)
                omega, hs⟩
              have := (x3 (v + 1) hk3.le).2 hk3
              omega
          rcases Nat.lt_or_eq_of_le j1 with hj | hj
          · obtain ⟨x, x1, x2, x3, x4⟩ := om j hj j2
            refine ⟨x, ?_, x2, x3, fun k k1 k2 => ?_⟩
            · rw [gx_set (by omega), if_neg (by omega), x1]
            · rw [gx_set (by omega), if_neg (by omega)]; exact x4 k k1 k2
          · subst hj
            refine ⟨v + 1, ?_, by omega, fun r hr => ⟨fun hv => ?_, fun hs => ?_⟩, fun k k1 k2 => ?_⟩
            · rw [gx_set (by omega), if_pos rfl]; simp
            · obtain ⟨r, rfl⟩ : ∃ q, r = q + 1 := ⟨r - 1, by omega⟩
              by_cases hru : u + r ≤ l.length
              · exact ⟨u, u1, by omega, (u3 u u1 (by omega)).2 (Nat.le_refl _), (v3 r hru).1 (by omega)⟩
              · refine ⟨l.length - r, by omega, by omega, (u3 _ (by omega) (by omega)).2 (by omega), Spl.singles h r _ (by omega) (fun q q1 q2 => m9' q (by omega) q2)⟩
            · match r, hs with
              | 0, hs => simp only [Spl] at hs; omega
              | r + 1, ⟨k, k1, k2, k3, k4⟩ =>
                have hku := (u3 k k1 k2).1 k3
                obtain ⟨x, x1, x2, x3, x4⟩ := om k (by omega) k2
                have := (x3 r k4.le).2 k4
                have := x4 u hku (by omega)
                omega
            · rcases Nat.lt_or_eq_of_le k1 with hk | hk
              · rw [gx_set (by omega), if_neg (by omega)]; have := hmono k hk k2; omega
              · subst hk; rw [gx_set (by omega), if_pos rfl]; omega
  obtain ⟨e, he, hp⟩ := hloop
  unfold tree_needed
  simp only [bnd_eq]
  rw [Wk (n := (l.length : Int) + 1) (by omega) (by omega), Wk (n := (l.length : Int) - 1) (by omega) (by omega), need_of (by omega), show ((l.length : Int) + 1).toNat = l.length + 1 by omega, he]
  rcases hp with ⟨o, rfl, p1, p2⟩ | ⟨rfl, p1⟩
  · exact .inl ⟨o, by simp, p1, p2⟩
  · exact .inr ⟨by simp, p1⟩

/-! The rows that are chosen. -/

theorem even_L4 {l : List Int} {g w : Int} {o : List Int} (h : EvOK l g) (ho : NeP l g w 0 o) {r i : Nat} {out : List Int} (hs : Spl l g w (r + 1) i) :
    ∃ e, loop (tree_Even_L4 (o, true) (((r + 1 : Nat) : Int), out, (i : Int))) 1 = some e ∧ ∃ k : Nat, e = k ∧ 1 ≤ k ∧ (∀ j, 1 ≤ j → j < k → ¬ Spl l g w r (i + j)) ∧ Spl l g w r (i + k) ∧ i + k ≤ l.length := by
  obtain ⟨z, z1, z2, z3, z4⟩ := hs
  have hz := z4.le
  have h1 := h.len
  obtain ⟨ol, om⟩ := ho
  refine loop_inv (fun s : Int => ∃ k : Nat, s = k ∧ 1 ≤ k ∧ i + k ≤ z ∧ ∀ j, 1 ≤ j → j < k → ¬ Spl l g w r (i + j)) (fun s : Int => z - s.toNat) _ ⟨1, rfl, Nat.le_refl _, by omega, fun j j1 j2 => by omega⟩ ?_
  rintro s ⟨k, rfl, k1, k2, k3⟩
  unfold tree_Even_L4
  simp only
  obtain ⟨v, v1, v2, v3, v4⟩ := om (i + k) (by omega) (by omega)
  rw [Wk (n := (i : Int) + k) (by omega) (by omega), show (i : Int) + (k : Int) = ((i + k : Nat) : Int) by omega, need_of ⟨by omega, by omega⟩, v1, Wk (n := ((r + 1 : Nat) : Int) - 1) (by omega) (by omega)]
  have vr := v3 r (by omega)
  by_cases hc : ((r + 1 : Nat) : Int) - 1 < v
  · left
    have hn : ¬ Spl l g w r (i + k) := fun hx => by have := vr.2 hx; omega
    have hk : i + k ≠ z := fun e => hn (by rw [e]; exact z4)
    simp only [hc, decide_true, cond_true, bnd_eq]
    rw [Wk (n := (k : Int) + 1) (by omega) (by omega)]
    refine ⟨_, rfl, ⟨k + 1, by simp, by omega, by omega, fun j j1 j2 => ?_⟩, by omega⟩
    rcases Nat.lt_or_eq_of_le (Nat.lt_succ_iff.1 j2) with hj | hj
    · exact k3 j j1 hj
    · subst hj; exact hn
  · right
    have e1 : decide (((r + 1 : Nat) : Int) - 1 < v) = false := by simp; omega
    simp only [e1, cond_false]
    exact ⟨_, rfl, k, rfl, k1, k3, vr.1 (by omega), by omega⟩

theorem even_L3 {l : List Int} {g w : Int} {o : List Int} (h : EvOK l g) (ho : NeP l g w 0 o) : ∀ (r i : Nat) (out : List Int), Spl l g w r i → out.length + r ≤ 1000 →
    ∃ q, loop (tree_Even_L3 (o, true)) ((r : Int), out, (i : Int)) = some (out ++ q) ∧ Cuts l g w r i q ∧ q.length = r
  | 0, i, out, hs, hr => by
    refine ⟨[], ?_, rfl, rfl⟩
    rw [loop_eq]
    unfold tree_Even_L3
    simp
  | r + 1, i, out, hs, hr => by
    obtain ⟨e, he, k, rfl, k1, k2, k3, k4⟩ := even_L4 h ho (out := out) hs
    have h1 := h.len
    obtain ⟨q, q1, q2, q3⟩ := even_L3 h ho r (i + k) (out ++ [(k : Int)]) k3 (by simp; omega)
    refine ⟨(k : Int) :: q, ?_, ⟨k, k1, k2, k3, q, rfl, q2⟩, by simp [q3]⟩
    have hb : tree_Even_L3 (o, true) (((r + 1 : Nat) : Int), out, (i : Int)) = some (.again ((r : Int), out ++ [(k : Int)], ((i + k : Nat) : Int))) := by
      unfold tree_Even_L3
      simp only [show decide ((0 : Int) < ((r + 1 : Nat) : Int)) = true by simp; try omega, cond_true]
      rw [he]
      simp only [bind_sm, bnd_eq]
      rw [need_of (by rw [room_iff]; simp; omega), Wk (n := (i : Int) + k) (by omega) (by omega), Wk (n := ((r + 1 : Nat) : Int) - 1) (by omega) (by omega)]
      simp only [bind_sm]
      rw [show ((r + 1 : Nat) : Int) - 1 = (r : Int) by omega, show (i : Int) + (k : Int) = ((i + k : Nat) : Int) by omega]
    rw [loop_again hb, q1]
    simp

theorem ref_L2 {l : List Int} {g w : Int} (h : EvOK l g) {r i : Nat} {out : List Int} (hs : Spl l g w (r + 1 + 1) i) :
    ∃ e, loop (ref_EvenOf_L2 (seg l (i : Int) (l.length : Int), ((r + 1 + 1 : Nat) : Int), out) g w) 1 = some e ∧ ∃ k : Nat, e = k ∧ 1 ≤ k ∧ (∀ j, 1 ≤ j → j < k → ¬ Spl l g w (r + 1) (i + j)) ∧ Spl l g w (r + 1) (i + k) ∧ i + k ≤ l.length := by
  obtain ⟨z, z1, z2, z3, z4⟩ := hs
  have hz := z4.le
  have h1 := h.len
  refine loop_inv (fun s : Int => ∃ k : Nat, s = k ∧ 1 ≤ k ∧ i + k ≤ z ∧ ∀ j, 1 ≤ j → j < k → ¬ Spl l g w (r + 1) (i + j)) (fun s : Int => z - s.toNat) _ ⟨1, rfl, Nat.le_refl _, by omega, fun j j1 j2 => by omega⟩ ?_
  rintro s ⟨k, rfl, k1, k2, k3⟩
  have hlen : (seg l (i : Int) (l.length : Int)).length = l.length - i := len_seg l (Nat.le_refl _)
  unfold ref_EvenOf_L2
  simp only [hlen]
  rw [need_of (by rw [segR_iff]; omega)]
  have rp := row_part h (i := i) (k := k) k1 (by omega)
  rw [show ((0 : Nat) : Int) = 0 from rfl] at rp
  have rm := smw_mono h (i := i + k) (j := z) (by omega) z2
  have e0 : decide (w < smw l g (i + k) - smw l g i - g) = false := by simp; omega
  rw [rp.1, bind_sm, need_of (by intro _; rw [segR_iff]; omega)]
  simp only [e0, Bool.not_false, gd_true, Bool.false_or]
  rw [Wk (n := ((r + 1 + 1 : Nat) : Int) - 1) (by omega) (by omega), show ((r + 1 + 1 : Nat) : Int) - 1 = ((r + 1 : Nat) : Int) by omega]
  have hseg : seg (seg l (i : Int) (l.length : Int)) (k : Int) ((l.length - i : Nat) : Int) = seg l ((i + k : Nat) : Int) (l.length : Int) := by
    rw [seg_seg l (by omega), show i + (l.length - i) = l.length by omega]
  rw [hseg]
  obtain ⟨e, e1, e2, e3, e4⟩ := evenWidth_eq h (r := r + 1) (i := i + k) (by omega) (by omega)
  rw [e1, bind_sm]
  by_cases hc : w < e
  · left
    have hn : ¬ Spl l g w (r + 1) (i + k) := fun hx => by have := (e4 w).2 hx; omega
    have hk : i + k ≠ z := fun e => hn (by rw [e]; exact z4)
    simp only [hc, decide_true, cond_true, bnd_eq]
    rw [Wk (n := (k : Int) + 1) (by omega) (by omega)]
    refine ⟨_, rfl, ⟨k + 1, by simp, by omega, by omega, fun j j1 j2 => ?_⟩, by omega⟩
    rcases Nat.lt_or_eq_of_le (Nat.lt_succ_iff.1 j2) with hj | hj
    · exact k3 j j1 hj
    · subst hj; exact hn
  · right
    have e1 : decide (w < e) = false := by simp; omega
    simp only [e1, cond_false]
    exact ⟨_, rfl, k, rfl, k1, k3, (e4 w).1 (by omega), by omega⟩

theorem ref_L1 {l : List Int} {g w : Int} (h : EvOK l g) : ∀ (r i : Nat) (out : List Int), Spl l g w (r + 1) i → out.length + (r + 1) ≤ 1000 →
    ∃ (x : Nat) (q : List Int), loop (ref_EvenOf_L1 g w) (seg l (i : Int) (l.length : Int), ((r + 1 : Nat) : Int), out) = some (seg l (x : Int) (l.length : Int), out ++ q) ∧ x < l.length ∧ q.length = r ∧ Cuts l g w (r + 1) i (q ++ [((l.length - x : Nat) : Int)])
  | 0, i, out, hs, hr => by
    obtain ⟨k, k1, k2, k3, k4⟩ := hs
    simp only [Spl] at k4
    subst k4
    refine ⟨i, [], ?_, k1, rfl, l.length - i, by omega, fun j j1 j2 hx => ?_, ?_, [], by simp, rfl⟩
    · rw [loop_eq]
      unfold ref_EvenOf_L1
      simp
    · simp only [Spl] at hx; omega
    · simp only [Spl]; omega
  | r + 1, i, out, hs, hr => by
    obtain ⟨e, he, k, rfl, k1, k2, k3, k4⟩ := ref_L2 h (out := out) hs
    have h1 := h.len
    obtain ⟨x, q, q1, q0, q2, q3⟩ := ref_L1 h r (i + k) (out ++ [(k : Int)]) k3 (by simp; omega)
    refine ⟨x, (k : Int) :: q, ?_, q0, by simp [q2], k, k1, k2, k3, q ++ [((l.length - x : Nat) : Int)], rfl, q3⟩
    have hb : ref_EvenOf_L1 g w (seg l (i : Int) (l.length : Int), ((r + 1 + 1 : Nat) : Int), out) = some (.again (seg l ((i + k : Nat) : Int) (l.length : Int), ((r + 1 : Nat) : Int), out ++ [(k : Int)])) := by
      unfold ref_EvenOf_L1
      simp only [show decide ((1 : Int) < ((r + 1 + 1 : Nat) : Int)) = true by simp; omega, cond_true]
      rw [he]
      have hlen : (seg l (i : Int) (l.length : Int)).length = l.length - i := len_seg l (Nat.le_refl _)
      simp only [bind_sm, bnd_eq, hlen]
      rw [need_of (by rw [room_iff]; simp; omega), need_of (by rw [segR_iff]; omega), Wk (n := ((r + 1 + 1 : Nat) : Int) - 1) (by omega) (by omega)]
      simp only [bind_sm]
      have hseg : seg (seg l (i : Int) (l.length : Int)) (k : Int) ((l.length - i : Nat) : Int) = seg l ((i + k : Nat) : Int) (l.length : Int) := by
        rw [seg_seg l (by omega), show i + (l.length - i) = l.length by omega]
      rw [show ((r + 1 + 1 : Nat) : Int) - 1 = ((r + 1 : Nat) : Int) by omega, hseg]
    rw [loop_again hb, q1]
    simp

theorem EvenOf_eq {l : List Int} {g : Int} (h : EvOK l g) {r : Nat} (hr : 1 ≤ r) (hl : r ≤ l.length) : ∃ q w, ref_EvenOf l r g = some (q, w) ∧ (∀ w', w ≤ w' ↔ Spl l g w' r 0) ∧ Cuts l g w r 0 q := by
  have h1 := h.len
  have hs : seg l ((0 : Nat) : Int) (l.length : Int) = l := by unfold Go.DB.seg; simp
  obtain ⟨w, w1, w2, w3, w4⟩ := evenWidth_eq h (r := r) (i := 0) hr (by omega)
  rw [hs] at w1
  obtain ⟨r, rfl⟩ : ∃ k, r = k + 1 := ⟨r - 1, by omega⟩
  obtain ⟨x, q, q1, q0, q2, q3⟩ := ref_L1 h r 0 [] ((w4 w).1 (Int.le_refl _)) (by simp; omega)
  rw [hs] at q1
  refine ⟨q ++ [((l.length - x : Nat) : Int)], w, ?_, w4, q3⟩
  unfold ref_EvenOf
  rw [w1, bind_sm, q1, bind_sm]
  simp only
  rw [need_of (by rw [room_iff]; simp; omega), len_seg l (Nat.le_refl _)]
  simp

/-! The least width, by halving. -/

theorem fits_iff {l : List Int} {g w : Int} (h : EvOK l g) {r : Nat} (hr : 1 ≤ r) (hl : r ≤ l.length) (hw0 : 0 ≤ w) (hw : w ≤ 21000000) :
    ∃ p, tree_needed l g w = some p ∧ (p.2 = true → inR p.1 0) ∧ ((p.2 && decide (gx p.1 0 ≤ (r : Int))) = true ↔ Spl l g w r 0) ∧ (Spl l g w r 0 → ∃ o, p = (o, true) ∧ NeP l g w 0 o) := by
  rcases needed_eq h w hw0 hw with ⟨o, h1, h2, h3⟩ | ⟨h1, j, h2, h3⟩
  · obtain ⟨v, v1, v2, v3, v4⟩ := h2.2 0 (Nat.le_refl _) (by omega)
    have v1' : gx o 0 = (v : Int) := v1
    refine ⟨_, h1, fun _ => ⟨Int.le_refl _, by simp [h2.1]⟩, ?_, fun _ => ⟨o, rfl, h2⟩⟩
    simp only [Bool.true_and, v1']
    rw [← v3 r (by omega)]
    simp
  · have hn : ∀ r i, i ≤ j → ¬ Spl l g w r i := by
      intro r
      induction r with
      | zero => intro i hi hs; simp only [Spl] at hs; omega
      | succ r ih =>
        rintro i hi ⟨k, k1, k2, k3, k4⟩
        by_cases hk : k ≤ j
        · exact ih k hk k4
        · have m1 := smw_mono h (i := i) (j := j) hi (by omega)
          have m2 := smw_mono h (i := j + 1) (j := k) (by omega) k2
          have m3 : smw l g (j + 1) = smw l g j + (gx l (j : Int) + g) := rfl
          omega
    refine ⟨_, h1, fun h => by simp at h, ?_, fun hs => absurd hs (hn r 0 (by omega))⟩
    simp only [Bool.false_and]
    exact ⟨fun h => by simp at h, fun hs => absurd hs (hn r 0 (by omega))⟩

theorem Even_ok {l : List Int} {g : Int} (h : EvOK l g) {r : Nat} (hr : 1 ≤ r) (hl : r ≤ l.length) :
    ∃ q w, tree_Even l r g = some (q, w, 0) ∧ q.length = r ∧ (∀ w', w ≤ w' ↔ Spl l g w' r 0) ∧ Cuts l g w r 0 q := by
  have h1 := h.len
  have h2 := h.g0
  have h3 := h.g1
  have hz : EvOK l 0 := ⟨h1, h.el, by omega, by omega⟩
  obtain ⟨s, hs, hI⟩ := rforE_inv (n := (l.length : Int)) (step := tree_Even_L1 l) (fin := fun s => (Res.nx s : Res Int (List Int × Int × Int))) (s0 := 0) (fun i s => s = smw l 0 i) (fun e => e = Res.nx (smw l 0 l.length)) (by omega) rfl (fun i s hi hI => by
    left
    have hi' : i < l.length := by omega
    have e1 := h.el i hi'
    have e2 := smw_bd hz (j := i) (by omega)
    subst hI
    unfold tree_Even_L1
    rw [need_of ⟨by omega, by omega⟩]
    simp only [bnd_eq]
    have e3 : ((decide (gx l (i : Int) < 1)) || (decide (20000 < gx l (i : Int)))) = false := by simp; omega
    simp only [e3, cond_false]
    rw [Wk (by omega) (by omega)]
    exact ⟨_, rfl, by rw [smw]; omega⟩) (fun s hI => by rw [hI]; simp)
  subst hI
  have hg := smw_gap l g l.length
  have hb := smw_bd h (j := l.length) (Nat.le_refl _)
  have hb2 := smw_bd hz (j := l.length) (Nat.le_refl _)
  have hgn : 0 ≤ g * (l.length : Int) := Int.mul_nonneg h2 (by omega)
  -- halving
  have hbin : ∃ e, loop (tree_Even_L2 g (r : Int) l) (0, smw l g l.length) = some e ∧ ((0 ≤ e ∧ e ≤ 21000000) ∧ ∀ w', e ≤ w' ↔ Spl l g w' r 0) := by
    refine loop_inv (fun s => 0 ≤ s.1 ∧ s.1 < s.2 ∧ s.2 ≤ 21000000 ∧ ¬ Spl l g s.1 r 0 ∧ Spl l g s.2 r 0) (fun s => (s.2 - s.1).toNat) _ ⟨Int.le_refl _, ?_, hb.2, ?_, ?_⟩ ?_
    · have := smw_mono h (i := 0) (j := l.length) (by omega) (Nat.le_refl _)
      simp only [smw] at this ⊢
      omega
    · intro hs
      obtain ⟨r, rfl⟩ : ∃ k, r = k + 1 := ⟨r - 1, by omega⟩
      obtain ⟨k, k1, k2, k3, k4⟩ := hs
      have hh := smw_step h k 0 (by omega)
      have h5 : g * 1 ≤ g * (k : Int) := Int.mul_le_mul_of_nonneg_left (by omega) h.g0
      simp only [Nat.zero_add, smw] at hh k3
      omega
    · obtain ⟨p, p1, p2, p3, p4⟩ := fits_iff h hr hl (w := smw l g l.length) hb.1 hb.2
      rw [← p3]
      rcases needed_eq h (smw l g l.length) hb.1 hb.2 with ⟨o, e1, e2, e3⟩ | ⟨e1, j, e2, e3⟩
      · rw [e1] at p1
        cases p1
        obtain ⟨v, v1, v2, v3, v4⟩ := e2.2 0 (Nat.le_refl _) (by omega)
        have hv : v ≤ 1 := (v3 1 (by omega)).2 ⟨l.length, by omega, Nat.le_refl _, by simp only [smw]; omega, rfl⟩
        have v1' : gx o 0 = (v : Int) := v1
        simp only [Bool.true_and, v1']
        simp; omega
      · have m1 := smw_mono h (i := 0) (j := j) (by omega) (by omega)
        have m2 := smw_mono h (i := j + 1) (j := l.length) (by omega) (Nat.le_refl _)
        have m3 : smw l g (j + 1) = smw l g j + (gx l (j : Int) + g) := rfl
        have m4 := smw_bd h (j := j) (by omega)
        omega
    · rintro ⟨lo, hi⟩ ⟨a1, a2, a3, a4, a5⟩
      simp only at a1 a2 a3 a4 a5
      unfold tree_Even_L2
      simp only [bnd_eq]
      rw [Wk (n := hi - lo) (by omega) (by omega), Wk (n := lo + hi) (by omega) (by omega)]
      by_cases hc : 1 < hi - lo
      · left
        have hm : (lo + hi).tdiv 2 = (lo + hi) / 2 := Int.tdiv_eq_ediv_of_nonneg (by omega)
        rw [hm]
        obtain ⟨p, p1, p2, p3, p4⟩ := fits_iff h hr hl (w := (lo + hi) / 2) (by omega) (by omega)
        simp only [hc, decide_true, cond_true]
        rw [p1, bind_sm, need_of p2]
        cases hq : p.2 && decide (gx p.1 0 ≤ (r : Int)) with
        | true => exact ⟨_, rfl, ⟨a1, by simp only; omega, by simp only; omega, a4, p3.1 hq⟩, by simp only; omega⟩
        | false => exact ⟨_, rfl, ⟨by simp only; omega, by simp only; omega, a3, fun hx => (by rw [p3.2 hx] at hq; cases hq), a5⟩, by simp only; omega⟩
      · right
        have e1 : decide (1 < hi - lo) = false := by simp; omega
        simp only [e1, cond_false]
        refine ⟨_, rfl, by omega, fun w' => ⟨fun hw => a5.wider hw, fun hx => ?_⟩⟩
        by_cases hw : hi ≤ w'
        · exact hw
        · exact absurd (hx.wider (by omega)) a4
  obtain ⟨w, hw, ⟨hw0, hw1⟩, hw2⟩ := hbin
  obtain ⟨p, p1, p2, p3, p4⟩ := fits_iff h hr hl (w := w) hw0 hw1
  obtain ⟨o, rfl, ho⟩ := p4 ((hw2 w).1 (Int.le_refl _))
  obtain ⟨q, q1, q2, q3⟩ := even_L3 h ho r 0 [] ((hw2 w).1 (Int.le_refl _)) (by simp; omega)
  refine ⟨q, w, ?_, q3, hw2, q2⟩
  unfold tree_Even
  have c1 : decide ((1000 : Int) < (l.length : Int)) = false := by simp; omega
  have c2 : ((((decide ((r : Int) < 1)) || (decide ((l.length : Int) < (r : Int)))) || (decide (g < 0))) || (decide (1000 < g))) = false := by simp; omega
  simp only [c1, cond_false]
  rw [hs, bindR_nx]
  simp only [c2, cond_false, bnd_eq]
  rw [Wk (n := g * (l.length : Int)) (by omega) (by omega), ← hg, Wk (by omega) (by omega), hw, bind_sm, p1, bind_sm]
  have q1' : loop (tree_Even_L3 (o, true)) ((r : Int), [], 0) = some q := q1
  rw [q1']
  rfl

/-! Mistakes. -/

theorem Even_bad {l : List Int} {r g : Int} (h1 : l.length ≤ 1000) (h : (∃ x ∈ l, x < 1 ∨ 20000 < x) ∨ r < 1 ∨ (l.length : Int) < r ∨ g < 0 ∨ 1000 < g) : tree_Even l r g = some ([], 0, 3) := by
  unfold tree_Even
  have c1 : decide ((1000 : Int) < (l.length : Int)) = false := by simp; omega
  simp only [c1, cond_false]
  obtain ⟨e, he, hp⟩ := rforE_inv (n := (l.length : Int)) (step := tree_Even_L1 l) (fin := fun s => (Res.nx s : Res Int (List Int × Int × Int))) (s0 := 0) (fun i s => ∀ j : Nat, j < i → 1 ≤ gx l (j : Int) ∧ gx l (j : Int) ≤ 20000)
    (fun e => e = Res.ab ([], 0, 3) ∨ (∃ s, e = Res.nx s) ∧ ∀ x ∈ l, 1 ≤ x ∧ x ≤ 20000) (by omega) (fun j hj => by omega) (fun i s hi hI => by
      have hi' : i < l.length := by omega
      unfold tree_Even_L1
      rw [need_of ⟨by omega, by omega⟩]
      simp only [bnd_eq]
      cases hc : (decide (gx l (i : Int) < 1)) || (decide (20000 < gx l (i : Int))) with
      | true => exact .inr ⟨_, rfl, .inl rfl⟩
      | false =>
        simp at hc
        refine .inl ⟨_, rfl, fun j hj => ?_⟩
        rcases Nat.lt_or_eq_of_le (Nat.lt_succ_iff.1 hj) with h | h
        · exact hI j h
        · subst h; omega) (fun s hI => .inr ⟨⟨s, rfl⟩, fun x hx => by
      obtain ⟨j, hj, rfl⟩ := List.mem_iff_getElem.1 hx
      rw [← gx_nat hj]
      exact hI j (by simpa using hj)⟩)
  rw [he]
  rcases hp with rfl | ⟨⟨s, rfl⟩, hp⟩
  · rfl
  · rw [bindR_nx]
    have c2 : ((((decide (r < 1)) || (decide ((l.length : Int) < r))) || (decide (g < 0))) || (decide (1000 < g))) = true := by
      rcases h with ⟨x, hx, hx2⟩ | h
      · have := hp x hx; omega
      · simp; omega
    simp only [c2, cond_true]

theorem EvenError_eq (l : List Int) (r g : Int) : ref_EvenError l r g = some (if 1000 < l.length then 4 else if (l.any (fun x => !decide (1 ≤ x ∧ x ≤ 20000))) = true ∨ ¬ (1 ≤ r ∧ r ≤ l.length) ∨ ¬ (0 ≤ g ∧ g ≤ 1000) then 3 else 0) := by
  unfold ref_EvenError
  by_cases h1 : 1000 < l.length
  · have : (1000 : Int) < l.length := by omega
    simp [h1, this]
  · have h1' : ¬ (1000 : Int) < l.length := by omega
    simp only [h1, h1', decide_false, cond_false, if_false]
    rw [ContainsFunc_int_eq l ref_EvenError_1 (fun x => !decide (1 ≤ x ∧ x ≤ 20000)) (by omega) (fun x _ => by
      unfold ref_EvenError_1
      simp only [In_eq, bind_sm])]
    simp only [bind_sm, In_eq, When_eq]
    cases ha : l.any (fun x => !decide (1 ≤ x ∧ x ≤ 20000)) with
    | true => simp
    | false =>
      by_cases hw : 1 ≤ r ∧ r ≤ l.length
      · by_cases hg : 0 ≤ g ∧ g ≤ 1000
        · simp [hw, hg]
        · simp only [hw, hg, decide_true, decide_false, Bool.not_false, gd_true, bind_sm, Bool.not_true, Bool.or_self, Bool.false_or, cond_true]
          simp
      · simp only [hw, decide_false, Bool.not_false, gd_true, bind_sm, Bool.or_true, Bool.not_true, gd_false, Bool.true_or, cond_true]
        simp [hw]

theorem EvensMatch_true (widths : List Int) (rows gap : Int) : law_EvensMatch widths rows gap = some true := by
  unfold law_EvensMatch
  rw [EvenError_eq]
  by_cases h1 : 1000 < widths.length
  · have e1 : tree_Even widths rows gap = some ([], 0, 4) := by
      unfold tree_Even
      have : decide ((1000 : Int) < widths.length) = true := by simp; omega
      simp only [this, cond_true]
    simp [e1, h1, trees_eq]
  · rw [if_neg h1]
    by_cases h2 : (widths.any (fun x => !decide (1 ≤ x ∧ x ≤ 20000))) = true ∨ ¬ (1 ≤ rows ∧ rows ≤ widths.length) ∨ ¬ (0 ≤ gap ∧ gap ≤ 1000)
    · rw [if_pos h2]
      have e1 : tree_Even widths rows gap = some ([], 0, 3) := by
        apply Even_bad (by omega)
        rcases h2 with h2 | h2
        · rw [List.any_eq_true] at h2
          obtain ⟨x, hx, hx2⟩ := h2
          simp at hx2
          exact .inl ⟨x, hx, by omega⟩
        · right; omega
      simp [e1, trees_eq]
    · rw [if_neg h2]
      have ha : widths.any (fun x => !decide (1 ≤ x ∧ x ≤ 20000)) = false := by
        cases hx : widths.any (fun x => !decide (1 ≤ x ∧ x ≤ 20000)) with
        | false => rfl
        | true => exact absurd (.inl hx) h2
      rw [List.any_eq_false] at ha
      have hr : 1 ≤ rows ∧ rows ≤ widths.length := by
        by_cases a : 1 ≤ rows ∧ rows ≤ widths.length
        · exact a
        · exact absurd (.inr (.inl a)) h2
      have hg : 0 ≤ gap ∧ gap ≤ 1000 := by
        by_cases a : 0 ≤ gap ∧ gap ≤ 1000
        · exact a
        · exact absurd (.inr (.inr a)) h2
      obtain ⟨r, rfl⟩ : ∃ r : Nat, rows = r := ⟨rows.toNat, by omega⟩
      have hok : EvOK widths gap := ⟨by omega, fun i hi => by
        have := ha (widths[i]) (List.getElem_mem hi)
        simp at this
        rw [gx_nat hi]; omega, hg.1, hg.2⟩
      obtain ⟨q, w, e1, e2, e3, e4⟩ := Even_ok hok (r := r) (by omega) (by omega)
      simp only [e1, bind_sm, trees_eq, Bool.not_true, Bool.false_or, decide_true, cond_false]
      cases hc : (decide (14 < (widths.length : Int))) || (decide (6 < (r : Int))) with
      | true => simp [e2]
      | false =>
        obtain ⟨q', w', f1, f3, f4⟩ := EvenOf_eq hok (r := r) (by omega) (by omega)
        have hww : w = w' := by
          have a1 := (e3 w').2 ((f3 w').1 (Int.le_refl _))
          have a2 := (f3 w).2 ((e3 w).1 (Int.le_refl _))
          omega
        subst hww
        have hqq := e4.uniq f4
        subst hqq
        simp only [cond_false, f1, bind_sm, gd_true]
        rw [Equal_int_eq q q (by omega)]
        simp

end Go.DB
