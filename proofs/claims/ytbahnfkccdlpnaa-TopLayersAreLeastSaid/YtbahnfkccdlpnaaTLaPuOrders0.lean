/-
  Orders of few nodes: least sums over sets; pairs of links that cross.
-/
import Derived.Test.YtbahnfkccdlpnaaTLaPuBits
import Derived.Test.YtbahnfkccdlpnaaTLaPuNear0
set_option linter.unusedSimpArgs false
set_option linter.unusedVariables false
namespace Go.DB
open Go Go.RowKit

/-! Sums over lists. -/
section
variable {α β : Type}
def ls (f : α → Int) : List α → Int
  | [] => 0
  | x :: l => f x + ls f l
/-- Pairs: a later one with an earlier one. -/
def prs (f : α → α → Int) : List α → Int
  | [] => 0
  | x :: l => ls (fun y => f y x) l + prs f l
end

/-! Least sums over sets. -/
def cst (m : Nat) (B : Nat → Nat → Int) (T : Nat → Int) (s k : Nat) : Int := T (rem s k) + sm (fun j => if (rem s k).testBit j = true then B k j else 0) m
structure Dp2 (m : Nat) (B : Nat → Nat → Int) (T : Nat → Int) (F : Nat → Nat) : Prop where
  t0 : T 0 = 0
  mem : ∀ s, 0 < s → s < 2 ^ m → s.testBit (F s) = true
  eq : ∀ s, 0 < s → s < 2 ^ m → T s = cst m B T s (F s)
  le : ∀ s k, s < 2 ^ m → s.testBit k = true → T s ≤ cst m B T s k
  first : ∀ s k, s < 2 ^ m → s.testBit k = true → k < F s → T s < cst m B T s k
theorem Dp2.uni {m : Nat} {B B' : Nat → Nat → Int} {T T' : Nat → Int} {F F' : Nat → Nat} (h : Dp2 m B T F) (h' : Dp2 m B' T' F') (hB : ∀ k j, k < m → j < m → k ≠ j → B k j = B' k j) :
    ∀ s, s < 2 ^ m → T s = T' s ∧ (0 < s → F s = F' s) := by
  intro s
  induction s using Nat.strongRecOn with
  | _ s ih =>
    intro hs
    by_cases h0 : s = 0
    · subst h0; exact ⟨h.t0.trans h'.t0.symm, fun h => by omega⟩
    · have hc : ∀ k, s.testBit k = true → cst m B T s k = cst m B' T' s k := fun k hk => by
        unfold cst
        have hr := rem_lt hk
        rw [(ih _ hr (by omega)).1]
        congr 1
        refine sm_congr fun j hj => ?_
        by_cases c : (rem s k).testBit j = true
        · rw [if_pos c, if_pos c]
          rw [rem_bit] at c
          exact hB k j (bit_lt hs hk) hj (fun e => by simp [e] at c)
        · rw [if_neg c, if_neg c]
      have m1 := h.mem s (by omega) hs
      have m2 := h'.mem s (by omega) hs
      have e1 := h.eq s (by omega) hs
      have e2 := h'.eq s (by omega) hs
      have l1 := h.le s _ hs m2
      have l2 := h'.le s _ hs m1
      rw [hc _ m1] at e1
      rw [hc _ m2] at l1
      have eT : T s = T' s := by omega
      refine ⟨eT, fun _ => ?_⟩
      rcases Nat.lt_trichotomy (F s) (F' s) with c | c | c
      · have := h'.first s _ hs m1 c; omega
      · exact c
      · have := h.first s _ hs m2 c
        rw [hc _ m2] at this; omega
/-- The order that the first ones tell. -/
inductive Lst (F : Nat → Nat) : Nat → List Nat → Prop
  | nil : Lst F 0 []
  | cons {s o} : 0 < s → Lst F (rem s (F s)) o → Lst F s (F s :: o)
theorem Lst.uni {F F' : Nat → Nat} {m : Nat} (hF : ∀ s, 0 < s → s < 2 ^ m → F s = F' s) {s : Nat} {o : List Nat} (h : Lst F s o) : ∀ {o'}, s < 2 ^ m → Lst F' s o' → o = o' := by
  induction h with
  | nil => intro o' _ h'; cases h' with
    | nil => rfl
    | cons a _ => omega
  | @cons s o h0 _ ih =>
    intro o' hs h'
    cases h' with
    | nil => omega
    | cons a b =>
      rw [hF s h0 hs] at ih ⊢
      rw [ih (by have := rem_le (s := s) (k := F' s); omega) b]
def Cov (s : Nat) (o : List Nat) : Prop := o.Nodup ∧ ∀ i, i ∈ o ↔ s.testBit i = true
theorem Cov.tail {s k : Nat} {o : List Nat} (h : Cov s (k :: o)) : s.testBit k = true ∧ Cov (rem s k) o := by
  obtain ⟨h1, h2⟩ := h
  obtain ⟨n1, n2⟩ := List.nodup_cons.1 h1
  refine ⟨(h2 k).1 (by simp), n2, fun i => ?_⟩
  rw [rem_bit]
  have := h2 i
  by_cases e : k = i
  · subst e; simp [n1]
  · rw [List.mem_cons] at this
    have e' : ¬ i = k := fun h => e h.symm
    simp only [e', false_or] at this
    simp [e, this]
theorem Cov.nil {s : Nat} (h : Cov s []) : s = 0 := Nat.eq_of_testBit_eq fun i => by
  have := h.2 i
  simp at this
  simp [this]
theorem sm_single {k : Nat} (c : Int) : ∀ {m : Nat}, k < m → sm (fun j => if j = k then c else 0) m = c
  | 0, h => by omega
  | m + 1, h => by
    show sm (fun j => if j = k then c else 0) m + (if m = k then c else 0) = c
    by_cases e : m = k
    · have : sm (fun j => if j = k then c else 0) m = sm (fun _ => 0) m := sm_congr fun j hj => by rw [if_neg (by omega)]
      rw [this, sm_zero, if_pos e]; omega
    · rw [sm_single c (by omega), if_neg e]; omega
theorem Cov.sum {m : Nat} (f : Nat → Int) : ∀ {o : List Nat} {s : Nat}, s < 2 ^ m → Cov s o → ls f o = sm (fun j => if s.testBit j = true then f j else 0) m
  | [], s, hs, h => by
    rw [h.nil]
    have : sm (fun j => if (0 : Nat).testBit j = true then f j else 0) m = sm (fun _ => 0) m := sm_congr fun j hj => by simp
    rw [this, sm_zero]; rfl
  | k :: o, s, hs, h => by
    obtain ⟨h1, h2⟩ := h.tail
    have := rem_lt h1
    show f k + ls f o = _
    rw [h2.sum (m := m) f (by omega), ← sm_single (f k) (bit_lt hs h1), ← sm_add]
    refine sm_congr fun j hj => ?_
    rw [rem_bit]
    by_cases e : j = k
    · subst e; simp [h1]
    · have e' : ¬ k = j := fun h => e h.symm
      simp [e, e']
def cr (B : Nat → Nat → Int) : List Nat → Int
  | [] => 0
  | k :: o => ls (B k) o + cr B o
theorem Dp2.low {m : Nat} {B : Nat → Nat → Int} {T : Nat → Int} {F : Nat → Nat} (h : Dp2 m B T F) : ∀ {o : List Nat} {s : Nat}, s < 2 ^ m → Cov s o → T s ≤ cr B o
  | [], s, hs, hc => by rw [hc.nil, h.t0]; exact Int.le_refl _
  | k :: o, s, hs, hc => by
    obtain ⟨h1, h2⟩ := hc.tail
    have hr := rem_lt h1
    have i1 := h.low (by omega) h2
    have i2 := h.le s k hs h1
    have i3 := h2.sum (m := m) (B k) (by omega)
    unfold cst at i2
    show T s ≤ ls (B k) o + cr B o
    omega
/-! Links that cross. -/
def cntI (O : List Int) (v : Int) : Int := ls (fun b => if v = b then 1 else 0) O
def pairI : List Int → Int → Int → Int
  | [], _, _ => 0
  | k :: O, u, v => (if u = k then cntI O v else 0) + pairI O u v
def crV (B : Int → Int → Int) : List Int → Int
  | [] => 0
  | k :: O => ls (B k) O + crV B O
section
variable {α : Type} (l : List α) (q : α → α → Prop) [∀ x y, Decidable (q x y)] (to_ : α → Int)
/-- How many links to a stand with how many to b so that q. -/
def Bv (a b : Int) : Int := ls (fun x => ls (fun y => if q x y then (if to_ x = a then (if to_ y = b then 1 else 0) else 0) else 0) l) l
end

/-- Where x lies in a list. -/
def ps (O : List Int) (x : Int) : Nat := O.findIdx (fun z => decide (x = z))
theorem ps_lt {O : List Int} {x : Int} (h : x ∈ O) : ps O x < O.length := List.findIdx_lt_length_of_exists ⟨x, h, by simp⟩
theorem ps_get {O : List Int} {x : Int} (h : ps O x < O.length) : O[ps O x] = x := by
  have := List.findIdx_getElem (xs := O) (p := fun z => decide (x = z)) (w := h)
  have h2 : decide (x = O[ps O x]) = true := this
  exact (of_decide_eq_true h2).symm
end Go.DB
