/-
  What the reference's table comes to: the same places.
-/
import Derived.Test.YtbahnfkccdlpnaaNeaPuNear1
import Derived.Test.YtbahnfkccdlpnaaNeaPuRef
set_option linter.unusedSimpArgs false
set_option linter.unusedVariables false
namespace Go.DB
open Go Go.RowKit

/-! Sums from a place on. -/
def smf (n : Nat) (f : Nat → Int) (p : Nat) : Int := sm (fun i => if p ≤ i then f i else 0) n
theorem smf_end {n : Nat} {f : Nat → Int} : smf n f n = 0 := by
  have : smf n f n = sm (fun _ => 0) n := sm_congr fun i hi => by rw [if_neg (by omega)]
  rw [this, sm_zero]
theorem smf_zero {n : Nat} {f : Nat → Int} : smf n f 0 = sm f n := sm_congr fun i hi => by rw [if_pos (Nat.zero_le _)]
theorem smf_step {n : Nat} {f : Nat → Int} : ∀ {i : Nat}, i < n → smf n f i = smf n f (i + 1) + f i := by
  induction n with
  | zero => intro i h; omega
  | succ n ih =>
    intro i h
    show smf n f i + (if i ≤ n then f n else 0) = smf n f (i + 1) + (if i + 1 ≤ n then f n else 0) + f i
    by_cases c : i = n
    · subst c
      have e1 : smf i f (i + 1) = 0 := by
        have : smf i f (i + 1) = sm (fun _ => 0) i := sm_congr fun j hj => by rw [if_neg (by omega)]
        rw [this, sm_zero]
      rw [smf_end, e1, if_pos (Nat.le_refl _), if_neg (by omega)]; omega
    · rw [ih (by omega), if_pos (by omega), if_pos (by omega)]; omega
theorem smf_congr {n : Nat} {f g : Nat → Int} {p : Nat} (h : ∀ i, p ≤ i → i < n → f i = g i) : smf n f p = smf n g p := sm_congr fun i hi => by
  by_cases c : p ≤ i
  · rw [if_pos c, if_pos c, h i c hi]
  · rw [if_neg c, if_neg c]
/-- What comes ahead of p. -/
theorem smf_pre {n : Nat} {f g : Nat → Int} : ∀ {p : Nat}, p ≤ n → (∀ i, i < p → f i = g i) → smf n f 0 - smf n f p = smf n g 0 - smf n g p
  | 0, _, _ => by omega
  | p + 1, hp, h => by
    have ih := smf_pre (n := n) (f := f) (g := g) (p := p) (by omega) (fun i hi => h i (by omega))
    have h1 := smf_step (f := f) (i := p) (n := n) (by omega)
    have h2 := smf_step (f := g) (i := p) (n := n) (by omega)
    have := h p (by omega)
    omega

/-- A table of least sums. -/
structure Tab (n m : Nat) (C T : Nat → Nat → Int) : Prop where
  e0 : ∀ k, k ≤ m → T n k = 0
  e1 : ∀ i, i < n → T i m = 1152921504606846976
  e2 : ∀ i k, i < n → k < m → T i k = min (T i (k + 1)) (C i k + T (i + 1) k)
  c : ∀ i k, i < n → k < m → 0 ≤ C i k ∧ C i k ≤ 100000000
  n1 : n ≤ 1000
theorem Tab.bd {n m : Nat} {C T : Nat → Nat → Int} (h : Tab n m C T) : ∀ a : Nat, a ≤ n → ∀ k, k < m → T (n - a) k ≤ a * 100000000
  | 0, _, k, hk => by rw [Nat.sub_zero, h.e0 k (by omega)]; simp
  | a + 1, ha, k, hk => by
    have ih := h.bd a (by omega) k hk
    have e := h.e2 (n - (a + 1)) k (by omega) hk
    have hc := h.c (n - (a + 1)) k (by omega) hk
    rw [show n - (a + 1) + 1 = n - a by omega] at e
    push_cast; omega
theorem Tab.bd' {n m : Nat} {C T : Nat → Nat → Int} (h : Tab n m C T) {i k : Nat} (hi : i ≤ n) (hk : k < m) : T i k ≤ 100000000000 := by
  have := h.bd (n - i) (by omega) k hk
  have := h.n1
  rw [show n - (n - i) = i by omega] at *
  omega
theorem Tab.mono {n m : Nat} {C T : Nat → Nat → Int} (h : Tab n m C T) {i k : Nat} (hi : i < n) : ∀ b : Nat, k + b ≤ m → T i k ≤ T i (k + b)
  | 0, _ => Int.le_refl _
  | b + 1, hb => by
    have := h.mono (k := k) hi b (by omega)
    have := h.e2 i (k + b) hi (by omega)
    rw [← Nat.add_assoc]; omega
/-- A row of numbers that rises. -/
def Rise (n m i k : Nat) (κ : Nat → Nat) : Prop := (∀ j, i ≤ j → j < n → k ≤ κ j ∧ κ j < m) ∧ ∀ j j', i ≤ j → j ≤ j' → j' < n → κ j ≤ κ j'
theorem Tab.le {n m : Nat} {C T : Nat → Nat → Int} (h : Tab n m C T) : ∀ (a : Nat), a ≤ n → ∀ (k : Nat), k < m → ∀ κ, Rise n m (n - a) k κ → T (n - a) k ≤ smf n (fun j => C j (κ j)) (n - a)
  | 0, _, k, hk, κ, _ => by rw [Nat.sub_zero, h.e0 k (by omega), smf_end]; exact Int.le_refl _
  | a + 1, ha, k, hk, κ, hκ => by
    have hi : n - (a + 1) < n := by omega
    obtain ⟨b1, b2⟩ := hκ.1 (n - (a + 1)) (Nat.le_refl _) hi
    have hR : Rise n m (n - a) (κ (n - (a + 1))) κ := ⟨fun j j1 j2 => ⟨hκ.2 _ j (Nat.le_refl _) (by omega) j2, (hκ.1 j (by omega) j2).2⟩, fun j j' x y z => hκ.2 j j' (by omega) y z⟩
    have ih := h.le a (by omega) (κ (n - (a + 1))) b2 κ hR
    have e := h.e2 (n - (a + 1)) (κ (n - (a + 1))) hi b2
    have hmn := h.mono (k := k) hi (κ (n - (a + 1)) - k) (by omega)
    rw [show k + (κ (n - (a + 1)) - k) = κ (n - (a + 1)) by omega] at hmn
    rw [smf_step hi]
    rw [show n - (a + 1) + 1 = n - a by omega] at *
    omega
theorem Tab.pick {n m : Nat} {C T : Nat → Nat → Int} (h : Tab n m C T) {i : Nat} (hi : i < n) : ∀ (b k : Nat), k + b = m → 0 < b → ∃ k', k ≤ k' ∧ k' < m ∧ T i k = C i k' + T (i + 1) k'
  | 0, k, hb, h0 => by omega
  | b + 1, k, hb, _ => by
    have e := h.e2 i k hi (by omega)
    have hbd := h.bd' (i := i) (k := k) (by omega) (by omega)
    by_cases c : C i k + T (i + 1) k ≤ T i (k + 1)
    · exact ⟨k, Nat.le_refl _, by omega, by omega⟩
    · rcases Nat.eq_zero_or_pos b with z | z
      · subst z
        have := h.e1 i hi
        rw [show m = k + 1 by omega] at this
        omega
      · obtain ⟨k', k1, k2, k3⟩ := h.pick hi b (k + 1) (by omega) z
        exact ⟨k', by omega, k2, by omega⟩
theorem Tab.att {n m : Nat} {C T : Nat → Nat → Int} (h : Tab n m C T) : ∀ (a : Nat), a ≤ n → ∀ (k : Nat), k < m → ∃ κ, Rise n m (n - a) k κ ∧ T (n - a) k = smf n (fun j => C j (κ j)) (n - a)
  | 0, _, k, hk => ⟨fun _ => k, ⟨fun j a b => by omega, fun j j' a b c => Nat.le_refl _⟩, by rw [Nat.sub_zero, h.e0 k (by omega), smf_end]⟩
  | a + 1, ha, k, hk => by
    have hi : n - (a + 1) < n := by omega
    obtain ⟨k', k1, k2, k3⟩ := h.pick hi (m - k) k (by omega) (by omega)
    obtain ⟨κ, hκ, e⟩ := h.att a (by omega) k' k2
    have es : n - (a + 1) + 1 = n - a := by omega
    rw [es] at k3
    refine ⟨fun j => if j = n - (a + 1) then k' else κ j, ⟨fun j j1 j2 => ?_, fun j j' j1 j2 j3 => ?_⟩, ?_⟩
    · by_cases z : j = n - (a + 1)
      · simp only [if_pos z]; exact ⟨k1, k2⟩
      · simp only [if_neg z]
        have := hκ.1 j (by omega) j2
        omega
    · by_cases z : j = n - (a + 1)
      · by_cases y : j' = n - (a + 1)
        · simp only [if_pos z, if_pos y]; exact Nat.le_refl _
        · simp only [if_pos z, if_neg y]
          exact (hκ.1 j' (by omega) j3).1
      · have y : ¬ j' = n - (a + 1) := by omega
        simp only [if_neg z, if_neg y]
        exact hκ.2 j j' (by omega) j2 j3
    · rw [smf_step hi, es, k3, e]
      simp only [if_true]
      rw [Int.add_comm]
      congr 1
      refine smf_congr fun i i1 i2 => ?_
      rw [if_neg (show ¬ i = n - (a + 1) by omega)]

/-- The least sums that go on from the best places: what the table says, and that no lesser number does. -/
theorem Tab.best {n m : Nat} {T : Nat → Nat → Int} {v l : Nat → Int} {K : Nat → Nat} (h : Tab n m (fun j k => ab (v k - l j)) T) (hv : ∀ i j, i < j → j < m → v i < v j) (hK : ∀ i, i < n → K i < m) (hKm : ∀ i j, i ≤ j → j < n → K i ≤ K j)
    (hB : Bst n (fun i => v (K i)) l) {i k0 : Nat} (hi : i < n) (hk0 : (i = 0 ∧ k0 = 0) ∨ (0 < i ∧ k0 = K (i - 1))) :
    k0 ≤ K i ∧ ab (v (K i) - l i) + T (i + 1) (K i) = T i k0 ∧ ∀ k, k0 ≤ k → k < K i → ab (v k - l i) + T (i + 1) k ≠ T i k0 := by
  have hvle : ∀ i j, i ≤ j → j < m → v i ≤ v j := fun i j a b => by
    rcases Nat.lt_or_eq_of_le a with c | c
    · have := hv i j c b; omega
    · subst c; exact Int.le_refl _
  have hcost : ∀ κ : Nat → Nat, costN n (fun j => v (κ j)) l = smf n (fun j => ab (v (κ j) - l j)) 0 := fun κ => smf_zero.symm
  -- a row that goes on from i in another way
  have hmix : ∀ (p k : Nat) (κ : Nat → Nat), p ≤ n → (0 < p → K (p - 1) ≤ k) → Rise n m p k κ → Ris n (fun j => v (if j < p then K j else κ j)) := fun p k κ hp hk hκ j j' a b => by
    by_cases y : j' < p
    · have z : j < p := by omega
      simp only [if_pos y, if_pos z]
      exact hvle _ _ (hKm j j' a b) (hK j' b)
    · by_cases z : j < p
      · simp only [if_neg y, if_pos z]
        have h1 := hKm j (p - 1) (by omega) (by omega)
        have h2 := hk (by omega)
        have h3 := hκ.1 j' (by omega) b
        exact hvle _ _ (by omega) h3.2
      · simp only [if_neg y, if_neg z]
        exact hvle _ _ (hκ.2 j j' (by omega) a b) (hκ.1 j' (by omega) b).2
  have hsum : ∀ (p : Nat) (κ : Nat → Nat), p ≤ n → smf n (fun j => ab (v (if j < p then K j else κ j) - l j)) 0 = smf n (fun j => ab (v (K j) - l j)) 0 - smf n (fun j => ab (v (K j) - l j)) p + smf n (fun j => ab (v (κ j) - l j)) p := fun p κ hp => by
    have e1 := smf_pre (n := n) (f := fun j => ab (v (if j < p then K j else κ j) - l j)) (g := fun j => ab (v (K j) - l j)) hp (fun j hj => by simp only [if_pos hj])
    have e2 : smf n (fun j => ab (v (if j < p then K j else κ j) - l j)) p = smf n (fun j => ab (v (κ j) - l j)) p := smf_congr fun j j1 j2 => by rw [if_neg (by omega)]
    omega
  have hA : ∀ p k, p ≤ n → k < m → ((p = 0 ∧ k = 0) ∨ (0 < p ∧ k = K (p - 1))) → T p k = smf n (fun j => ab (v (K j) - l j)) p := fun p k hp hkm hk => by
    have ep : n - (n - p) = p := by omega
    have hRK : Rise n m p k K := ⟨fun j j1 j2 => ⟨by
      rcases hk with ⟨_, rfl⟩ | ⟨h0, rfl⟩
      · exact Nat.zero_le _
      · exact hKm _ _ (by omega) j2, hK j j2⟩, fun j j' a b c => hKm j j' b c⟩
    have h1 := h.le (n - p) (by omega) k hkm K (by rw [ep]; exact hRK)
    obtain ⟨κ, hκ, e⟩ := h.att (n - p) (by omega) k hkm
    rw [ep] at h1 hκ e
    have h2 := (hB.le (hmix p k κ hp (fun h0 => by rcases hk with ⟨e, _⟩ | ⟨_, e⟩ <;> omega) hκ)).1
    rw [hcost K, hcost, hsum p κ hp] at h2
    omega
  have hk0m : k0 < m := by
    rcases hk0 with ⟨_, rfl⟩ | ⟨h0, rfl⟩
    · have := hK i hi; omega
    · exact hK _ (by omega)
  have hk0K : k0 ≤ K i := by
    rcases hk0 with ⟨_, rfl⟩ | ⟨h0, rfl⟩
    · exact Nat.zero_le _
    · exact hKm _ _ (by omega) hi
  have h1 := hA i k0 (by omega) hk0m hk0
  have h2 := hA (i + 1) (K i) (by omega) (hK i hi) (.inr ⟨by omega, rfl⟩)
  have h3 := smf_step (f := fun j => ab (v (K j) - l j)) hi
  refine ⟨hk0K, by omega, fun k k1 k2 he => ?_⟩
  have hkm : k < m := by have := hK i hi; omega
  obtain ⟨κ, hκ, e⟩ := h.att (n - (i + 1)) (by omega) k hkm
  rw [show n - (n - (i + 1)) = i + 1 by omega] at hκ e
  have hR2 : Rise n m i k (fun j => if j = i then k else κ j) := ⟨fun j j1 j2 => by
    by_cases z : j = i
    · simp only [if_pos z]; exact ⟨Nat.le_refl _, hkm⟩
    · simp only [if_neg z]; exact hκ.1 j (by omega) j2, fun j j' a b c => by
    by_cases z : j = i
    · by_cases y : j' = i
      · simp only [if_pos z, if_pos y]; exact Nat.le_refl _
      · simp only [if_pos z, if_neg y]; exact (hκ.1 j' (by omega) c).1
    · have y : ¬ j' = i := by omega
      simp only [if_neg z, if_neg y]; exact hκ.2 j j' (by omega) b c⟩
  have hRis := hmix i k _ (by omega) (fun h0 => by rcases hk0 with ⟨e, _⟩ | ⟨_, e⟩ <;> omega) hR2
  have h4 := (hB.le hRis).2
  have e3 : smf n (fun j => ab (v (if j = i then k else κ j) - l j)) i = ab (v k - l i) + T (i + 1) k := by
    rw [smf_step hi, e]
    simp only [if_true]
    rw [Int.add_comm]
    congr 1
    refine smf_congr fun j j1 j2 => ?_
    rw [if_neg (show ¬ j = i by omega)]
  rw [hcost K, hcost, hsum i _ (by omega), e3] at h4
  have h5 := h4 (by omega) i hi
  simp only [Nat.lt_irrefl, if_false, if_true] at h5
  have := hv k (K i) k2 (hK i hi)
  omega
end Go.DB
