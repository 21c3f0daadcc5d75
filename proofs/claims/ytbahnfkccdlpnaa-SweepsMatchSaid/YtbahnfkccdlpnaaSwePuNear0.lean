/-
  Rising places that are as near as can be: sums over thresholds.
-/
import Derived.Test.YtbahnfkccdlpnaaPu0
set_option linter.unusedSimpArgs false
set_option linter.unusedVariables false
namespace Go.DB
open Go Go.RowKit

/-! Sums. -/
def sm (f : Nat → Int) : Nat → Int
  | 0 => 0
  | n + 1 => sm f n + f n
theorem sm_congr {f g : Nat → Int} : ∀ {n : Nat}, (∀ i, i < n → f i = g i) → sm f n = sm g n
  | 0, _ => rfl
  | n + 1, h => by
    show sm f n + f n = sm g n + g n
    rw [sm_congr (fun i hi => h i (by omega)), h n (by omega)]
theorem sm_add (f g : Nat → Int) : ∀ n : Nat, sm (fun i => f i + g i) n = sm f n + sm g n
  | 0 => rfl
  | n + 1 => by
    show sm (fun i => f i + g i) n + (f n + g n) = (sm f n + f n) + (sm g n + g n)
    rw [sm_add f g n]; omega
theorem sm_le {f g : Nat → Int} : ∀ {n : Nat}, (∀ i, i < n → f i ≤ g i) → sm f n ≤ sm g n
  | 0, _ => Int.le_refl _
  | n + 1, h => by
    show sm f n + f n ≤ sm g n + g n
    have := sm_le (n := n) (fun i hi => h i (by omega))
    have := h n (by omega)
    omega
/-- Sums that are as great have parts that are as great. -/
theorem sm_eq {f g : Nat → Int} {n : Nat} (h : ∀ i, i < n → f i ≤ g i) (he : sm g n ≤ sm f n) (i : Nat) (hi : i < n) : f i = g i := by
  induction n with
  | zero => omega
  | succ n ih =>
    have h1 : sm f n ≤ sm g n := sm_le (fun i hi => h i (by omega))
    have h2 := h n (by omega)
    have he' : sm g n + g n ≤ sm f n + f n := he
    by_cases c : i = n
    · subst c; omega
    · exact ih (fun i hi => h i (by omega)) (by omega) (by omega)
theorem sm_zero : ∀ n : Nat, sm (fun _ => 0) n = 0
  | 0 => rfl
  | n + 1 => by show sm (fun _ => 0) n + 0 = 0; rw [sm_zero n]; rfl
theorem sm_swap (f : Nat → Nat → Int) (n : Nat) : ∀ m : Nat, sm (fun i => sm (fun j => f i j) m) n = sm (fun j => sm (fun i => f i j) n) m
  | 0 => sm_zero n
  | m + 1 => by
    show sm (fun i => sm (fun j => f i j) m + f i m) n = sm (fun j => sm (fun i => f i j) n) m + sm (fun i => f i m) n
    rw [sm_add, sm_swap f n m]
/-! Costs. -/
def ab (n : Int) : Int := max n (-n)
def sgT (l t : Int) : Int := if l < t then 1 else -1
def costN (n : Nat) (z l : Nat → Int) : Int := sm (fun i => ab (z i - l i)) n
/-- The sum from p on, at a threshold. -/
def sufT (n : Nat) (l : Nat → Int) (t : Int) (p : Nat) : Int := sm (fun i => if p ≤ i then sgT (l i) t else 0) n
theorem ab_tel (l lo z : Int) (h : lo ≤ z) : ∀ N : Nat, ab (min z (lo + N) - l) = ab (lo - l) + sm (fun j => if lo + j + 1 ≤ z then sgT l (lo + j + 1) else 0) N
  | 0 => by
    show _ = _ + 0
    rw [Int.min_eq_right (by omega)]; simp
  | N + 1 => by
    have ih := ab_tel l lo z h N
    show _ = _ + (sm (fun j => if lo + j + 1 ≤ z then sgT l (lo + j + 1) else 0) N + (if lo + N + 1 ≤ z then sgT l (lo + N + 1) else 0))
    generalize sm (fun j => if lo + j + 1 ≤ z then sgT l (lo + j + 1) else 0) N = S at *
    unfold ab sgT at *
    push_cast
    split <;> (try split) <;> omega
/-- A rising row: from where on it is as great as t. -/
def Ris (n : Nat) (z : Nat → Int) : Prop := ∀ i j, i ≤ j → j < n → z i ≤ z j
def StA (n : Nat) (z : Nat → Int) (t : Int) (p : Nat) : Prop := p ≤ n ∧ ∀ i, i < n → (t ≤ z i ↔ p ≤ i)
theorem Ris.start {n : Nat} {z : Nat → Int} (h : Ris n z) (t : Int) : ∃ p, StA n z t p := by
  induction n with
  | zero => exact ⟨0, Nat.le_refl _, fun i hi => by omega⟩
  | succ n ih =>
    obtain ⟨p, hp, hs⟩ := ih (fun i j a b => h i j a (by omega))
    by_cases c : t ≤ z n
    · refine ⟨p, by omega, fun i hi => ?_⟩
      by_cases d : i = n
      · subst d; exact ⟨fun _ => hp, fun _ => c⟩
      · exact hs i (by omega)
    · refine ⟨n + 1, Nat.le_refl _, fun i hi => ⟨fun hh => ?_, fun hh => by omega⟩⟩
      have := h i n (by omega) (by omega)
      omega
theorem cost_dec {n : Nat} {z l : Nat → Int} {lo : Int} {N : Nat} (hb : ∀ i, i < n → lo ≤ z i ∧ z i ≤ lo + N) {st : Int → Nat} (hs : ∀ t, StA n z t (st t)) :
    costN n z l = sm (fun i => ab (lo - l i)) n + sm (fun j => sufT n l (lo + (j : Nat) + 1) (st (lo + (j : Nat) + 1))) N := by
  have h1 : costN n z l = sm (fun i => ab (lo - l i) + sm (fun j => if lo + (j : Nat) + 1 ≤ z i then sgT (l i) (lo + (j : Nat) + 1) else 0) N) n := by
    refine sm_congr fun i hi => ?_
    rw [← ab_tel (l i) lo (z i) (hb i hi).1 N, Int.min_eq_left (hb i hi).2]
  rw [h1, sm_add, sm_swap]
  congr 1
  refine sm_congr fun j hj => sm_congr fun i hi => ?_
  have := (hs (lo + (j : Nat) + 1)).2 i hi
  by_cases c : lo + (j : Nat) + 1 ≤ z i
  · rw [if_pos c, if_pos (this.1 c)]
  · rw [if_neg c, if_neg (fun h => c (this.2 h))]

/-- From p on it is least, and from no later place on. -/
def Arg (n : Nat) (l : Nat → Int) (t : Int) (p : Nat) : Prop := p ≤ n ∧ (∀ q, q ≤ n → sufT n l t p ≤ sufT n l t q) ∧ ∀ q, p < q → q ≤ n → sufT n l t p < sufT n l t q
/-- At each threshold a row begins where it is best. -/
structure Bst (n : Nat) (g l : Nat → Int) : Prop where
  ris : Ris n g
  arg : ∀ t p, StA n g t p → Arg n l t p
theorem bounds (n : Nat) (z w : Nat → Int) : ∃ lo : Int, ∃ N : Nat, ∀ i, i < n → (lo ≤ z i ∧ z i ≤ lo + N) ∧ lo ≤ w i ∧ w i ≤ lo + N := by
  induction n with
  | zero => exact ⟨0, 0, fun i hi => by omega⟩
  | succ n ih =>
    obtain ⟨lo, N, h⟩ := ih
    refine ⟨min lo (min (z n) (w n)), N + (max (z n) (w n) - lo).toNat + (lo - min (z n) (w n)).toNat, fun i hi => ?_⟩
    by_cases c : i = n
    · subst c; push_cast; omega
    · have := h i (by omega); push_cast; omega
theorem Bst.le {n : Nat} {g l z : Nat → Int} (hg : Bst n g l) (hz : Ris n z) : costN n g l ≤ costN n z l ∧ (costN n z l ≤ costN n g l → ∀ i, i < n → g i ≤ z i) := by
  classical
  have hgs := fun t => hg.ris.start t
  have hzs := fun t => hz.start t
  obtain ⟨sg, hsg⟩ : ∃ st : Int → Nat, ∀ t, StA n g t (st t) := ⟨fun t => (hgs t).choose, fun t => (hgs t).choose_spec⟩
  obtain ⟨sz, hsz⟩ : ∃ st : Int → Nat, ∀ t, StA n z t (st t) := ⟨fun t => (hzs t).choose, fun t => (hzs t).choose_spec⟩
  obtain ⟨lo, N, hb⟩ := bounds n g z
  rw [cost_dec (fun i hi => (hb i hi).1) hsg, cost_dec (fun i hi => (hb i hi).2) hsz]
  have hle : ∀ j, j < N → sufT n l (lo + (j : Nat) + 1) (sg (lo + (j : Nat) + 1)) ≤ sufT n l (lo + (j : Nat) + 1) (sz (lo + (j : Nat) + 1)) := fun j hj => (hg.arg _ _ (hsg _)).2.1 _ (hsz _).1
  refine ⟨by have := sm_le hle; omega, fun he i hi => ?_⟩
  have heq := sm_eq hle (by omega)
  rcases Int.lt_or_le lo (g i) with c | c
  · have hbi := (hb i hi).1
    have e : lo + ((g i - lo - 1).toNat : Nat) + 1 = g i := by omega
    have := heq (g i - lo - 1).toNat (by omega)
    rw [e] at this
    have h1 := (hg.arg _ _ (hsg (g i))).2.2 (sz (g i))
    have h2 : sz (g i) ≤ sg (g i) := by
      rcases Nat.lt_or_ge (sg (g i)) (sz (g i)) with d | d
      · have := h1 d (hsz _).1; omega
      · exact d
    have h3 := ((hsg (g i)).2 i hi).1 (Int.le_refl _)
    exact ((hsz (g i)).2 i hi).2 (by omega)
  · have := (hb i hi).2; omega
theorem sufT_shift {n : Nat} {l : Nat → Int} {t d : Int} {p : Nat} : sufT n (fun i => l i + d) (t + d) p = sufT n l t p := by
  refine sm_congr fun i hi => ?_
  unfold sgT
  by_cases c : l i < t
  · rw [if_pos c, if_pos (show l i + d < t + d by omega)]
  · rw [if_neg c, if_neg (show ¬ l i + d < t + d by omega)]
theorem Bst.shift {n : Nat} {g l : Nat → Int} (h : Bst n g l) (d : Int) : Bst n (fun i => g i + d) (fun i => l i + d) where
  ris i j a b := by have := h.ris i j a b; show g i + d ≤ g j + d; omega
  arg t p hp := by
    have h0 : StA n g (t - d) p := ⟨hp.1, fun i hi => by rw [← hp.2 i hi]; show t - d ≤ g i ↔ t ≤ g i + d; omega⟩
    obtain ⟨a1, a2, a3⟩ := h.arg _ _ h0
    have e : t = t - d + d := by omega
    rw [e]
    refine ⟨a1, fun q hq => ?_, fun q hq hq' => ?_⟩
    · rw [sufT_shift, sufT_shift]; exact a2 q hq
    · rw [sufT_shift, sufT_shift]; exact a3 q hq hq'

/-- At a greater threshold it begins no earlier. -/
theorem Arg.mono {n : Nat} {l : Nat → Int} {t t' : Int} {p q : Nat} (ht : t ≤ t') (h : Arg n l t p) (h' : Arg n l t' q) : p ≤ q := by
  rcases Nat.lt_or_ge q p with c | c
  · exfalso
    have h1 := h'.2.2 p c h.1
    have h2 := h.2.1 q h'.1
    -- between q and p the sum at t' is not less than that at t
    have key : sufT n l t q - sufT n l t p ≤ sufT n l t' q - sufT n l t' p := by
      have e1 : sufT n l t q + sufT n l t' p ≤ sufT n l t' q + sufT n l t p := by
        unfold sufT
        rw [← sm_add, ← sm_add]
        refine sm_le fun i hi => ?_
        unfold sgT
        by_cases a : p ≤ i
        · have : q ≤ i := by omega
          simp only [a, this, if_true]; omega
        · by_cases b : q ≤ i
          · simp only [a, b, if_true, if_false]
            split <;> split <;> omega
          · simp only [a, b, if_false]; omega
      omega
    omega
  · exact c
theorem suf_low {n : Nat} {l : Nat → Int} {t : Int} (hl : ∀ i, i < n → t ≤ l i) (q : Nat) : sufT n l t q = sm (fun i => if q ≤ i then -1 else 0) n := by
  refine sm_congr fun i hi => ?_
  unfold sgT
  rw [if_neg (show ¬ l i < t by have := hl i hi; omega)]
theorem sm_tail (c : Int) (q : Nat) : ∀ n : Nat, sm (fun i => if q ≤ i then c else 0) n = c * ((n - q : Nat) : Int)
  | 0 => by simp [sm]
  | n + 1 => by
    show sm (fun i => if q ≤ i then c else 0) n + (if q ≤ n then c else 0) = _
    rw [sm_tail c q n]
    by_cases h : q ≤ n
    · rw [if_pos h, show n + 1 - q = (n - q) + 1 by omega]
      push_cast
      rw [Int.mul_add, Int.mul_one]
    · rw [if_neg h, show n + 1 - q = 0 by omega, show n - q = 0 by omega]; simp
theorem Arg.low {n : Nat} {l : Nat → Int} {t : Int} (hl : ∀ i, i < n → t ≤ l i) : Arg n l t 0 := by
  refine ⟨Nat.zero_le _, fun q hq => ?_, fun q h0 hq => ?_⟩ <;> rw [suf_low hl, suf_low hl, sm_tail, sm_tail] <;> omega
end Go.DB
