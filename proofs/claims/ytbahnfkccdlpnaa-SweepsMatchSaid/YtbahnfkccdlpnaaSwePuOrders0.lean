/-
  Orders of few nodes: least sums over sets; pairs of links that cross.
-/
import Derived.Test.YtbahnfkccdlpnaaSwePuBits
import Derived.Test.YtbahnfkccdlpnaaSwePuNear0
set_option linter.unusedSimpArgs false
set_option linter.unusedVariables false
namespace Go.DB
open Go Go.RowKit

/-! Sums over lists. -/
section
variable {α β : Type}
def ls (f : α → Int) : List α → Int
  | [] => 0
  | x :: l => f x + ls f l
theorem ls_add (f g : α → Int) : ∀ l : List α, ls (fun x => f x + g x) l = ls f l + ls g l
  | [] => rfl
  | x :: l => by show f x + g x + ls _ l = f x + ls f l + (g x + ls g l); rw [ls_add f g l]; omega
theorem ls_congr {f g : α → Int} : ∀ {l : List α}, (∀ x ∈ l, f x = g x) → ls f l = ls g l
  | [], _ => rfl
  | x :: l, h => by show f x + ls f l = g x + ls g l; rw [h x (by simp), ls_congr (fun y hy => h y (by simp [hy]))]
theorem ls_zero : ∀ l : List α, ls (fun _ => 0) l = 0
  | [] => rfl
  | x :: l => by show 0 + ls _ l = 0; rw [ls_zero l]; rfl
theorem ls_append (f : α → Int) : ∀ l m : List α, ls f (l ++ m) = ls f l + ls f m
  | [], m => by show ls f m = 0 + ls f m; omega
  | x :: l, m => by show f x + ls f (l ++ m) = f x + ls f l + ls f m; rw [ls_append f l m]; omega
theorem ls_swap (f : α → β → Int) (m : List β) : ∀ l : List α, ls (fun x => ls (f x) m) l = ls (fun y => ls (fun x => f x y) l) m
  | [] => (ls_zero m).symm
  | x :: l => by
    show ls (f x) m + ls (fun x => ls (f x) m) l = ls (fun y => f x y + ls (fun x => f x y) l) m
    rw [ls_add, ls_swap f m l]
/-- Pairs: a later one with an earlier one. -/
def prs (f : α → α → Int) : List α → Int
  | [] => 0
  | x :: l => ls (fun y => f y x) l + prs f l
theorem prs_snoc (f : α → α → Int) (x : α) : ∀ l : List α, prs f (l ++ [x]) = prs f l + ls (f x) l
  | [] => rfl
  | z :: l => by
    show ls (fun y => f y z) (l ++ [x]) + prs f (l ++ [x]) = ls (fun y => f y z) l + prs f l + (f x z + ls (f x) l)
    rw [ls_append, prs_snoc f x l]
    have : ls (fun y => f y z) [x] = f x z + 0 := rfl
    omega
theorem prs_all {f g : α → α → Int} (hg : ∀ x, g x x = 0) : ∀ {l : List α}, (∀ x ∈ l, ∀ y ∈ l, f x y = g x y + g y x) → prs f l = ls (fun x => ls (fun y => g x y) l) l
  | [], _ => rfl
  | x :: l, h => by
    show ls (fun y => f y x) l + prs f l = (g x x + ls (fun y => g x y) l) + ls (fun z => g z x + ls (fun y => g z y) l) l
    rw [prs_all hg (fun a ha b hb => h a (by simp [ha]) b (by simp [hb])), hg, ls_add]
    have : ls (fun y => f y x) l = ls (fun y => g y x) l + ls (fun y => g x y) l := by
      rw [← ls_add]
      exact ls_congr fun y hy => h y (by simp [hy]) x (by simp)
    omega
end

/-! Least sums over sets. -/
def cst (m : Nat) (B : Nat → Nat → Int) (T : Nat → Int) (s k : Nat) : Int := T (rem s k) + sm (fun j => if (rem s k).testBit j = true then B k j else 0) m
structure Dp2 (m : Nat) (B : Nat → Nat → Int) (T : Nat → Int) (F : Nat → Nat) : Prop where
  t0 : T 0 = 0
  mem : ∀ s, 0 < s → s < 2 ^ m → s.testBit (F s) = true
  eq : ∀ s, 0 < s → s < 2 ^ m → T s = cst m B T s (F s)
  le : ∀ s k, s < 2 ^ m → s.testBit k = true → T s ≤ cst m B T s k
  first : ∀ s k, s < 2 ^ m → s.testBit k = true → k < F s → T s < cst m B T s k
/-- The order that the first ones tell. -/
inductive Lst (F : Nat → Nat) : Nat → List Nat → Prop
  | nil : Lst F 0 []
  | cons {s o} : 0 < s → Lst F (rem s (F s)) o → Lst F s (F s :: o)
def Cov (s : Nat) (o : List Nat) : Prop := o.Nodup ∧ ∀ i, i ∈ o ↔ s.testBit i = true
theorem Cov.tail {s k : Nat} {o : List Nat} (h : Cov s (k :: o)) : s.testBit k = true ∧ Cov (rem s k) o := by
  obtain ⟨h1, h2⟩ := h
  obtain ⟨n1, n2⟩ := List.nodup_cons.1 h1
  refine ⟨(h2 k).1 (by simp), n2, fun i => ?_⟩
  rw [rem_bit]
  have := h2 i
  by_cases e : k = i
  · subst e; simp [n1]
  · rw [List.mem_cons] at this
    have e' : ¬ i = k := fun h => e h.symm
    simp only [e', false_or] at this
    simp [e, this]
theorem Cov.nil {s : Nat} (h : Cov s []) : s = 0 := Nat.eq_of_testBit_eq fun i => by
  have := h.2 i
  simp at this
  simp [this]
theorem sm_single {k : Nat} (c : Int) : ∀ {m : Nat}, k < m → sm (fun j => if j = k then c else 0) m = c
  | 0, h => by omega
  | m + 1, h => by
    show sm (fun j => if j = k then c else 0) m + (if m = k then c else 0) = c
    by_cases e : m = k
    · have : sm (fun j => if j = k then c else 0) m = sm (fun _ => 0) m := sm_congr fun j hj => by rw [if_neg (by omega)]
      rw [this, sm_zero, if_pos e]; omega
    · rw [sm_single c (by omega), if_neg e]; omega
theorem Cov.sum {m : Nat} (f : Nat → Int) : ∀ {o : List Nat} {s : Nat}, s < 2 ^ m → Cov s o → ls f o = sm (fun j => if s.testBit j = true then f j else 0) m
  | [], s, hs, h => by
    rw [h.nil]
    have : sm (fun j => if (0 : Nat).testBit j = true then f j else 0) m = sm (fun _ => 0) m := sm_congr fun j hj => by simp
    rw [this, sm_zero]; rfl
  | k :: o, s, hs, h => by
    obtain ⟨h1, h2⟩ := h.tail
    have := rem_lt h1
    show f k + ls f o = _
    rw [h2.sum (m := m) f (by omega), ← sm_single (f k) (bit_lt hs h1), ← sm_add]
    refine sm_congr fun j hj => ?_
    rw [rem_bit]
    by_cases e : j = k
    · subst e; simp [h1]
    · have e' : ¬ k = j := fun h => e h.symm
      simp [e, e']
def cr (B : Nat → Nat → Int) : List Nat → Int
  | [] => 0
  | k :: o => ls (B k) o + cr B o
theorem Dp2.low {m : Nat} {B : Nat → Nat → Int} {T : Nat → Int} {F : Nat → Nat} (h : Dp2 m B T F) : ∀ {o : List Nat} {s : Nat}, s < 2 ^ m → Cov s o → T s ≤ cr B o
  | [], s, hs, hc => by rw [hc.nil, h.t0]; exact Int.le_refl _
  | k :: o, s, hs, hc => by
    obtain ⟨h1, h2⟩ := hc.tail
    have hr := rem_lt h1
    have i1 := h.low (by omega) h2
    have i2 := h.le s k hs h1
    have i3 := h2.sum (m := m) (B k) (by omega)
    unfold cst at i2
    show T s ≤ ls (B k) o + cr B o
    omega
/-! Links that cross. -/
def cntI (O : List Int) (v : Int) : Int := ls (fun b => if v = b then 1 else 0) O
def pairI : List Int → Int → Int → Int
  | [], _, _ => 0
  | k :: O, u, v => (if u = k then cntI O v else 0) + pairI O u v
def crV (B : Int → Int → Int) : List Int → Int
  | [] => 0
  | k :: O => ls (B k) O + crV B O
section
variable {α : Type} (l : List α) (q : α → α → Prop) [∀ x y, Decidable (q x y)] (to_ : α → Int)
/-- How many links to a stand with how many to b so that q. -/
def Bv (a b : Int) : Int := ls (fun x => ls (fun y => if q x y then (if to_ x = a then (if to_ y = b then 1 else 0) else 0) else 0) l) l
theorem crV_pairs : ∀ O : List Int, crV (Bv l q to_) O = ls (fun x => ls (fun y => if q x y then pairI O (to_ x) (to_ y) else 0) l) l
  | [] => by
    have : ls (fun x => ls (fun y => if q x y then pairI [] (to_ x) (to_ y) else 0) l) l = ls (fun _ => 0) l := ls_congr fun x _ => by
      refine (ls_congr (g := fun _ => 0) fun y _ => ?_).trans (ls_zero l)
      by_cases c : q x y
      · simp only [c, if_true]; rfl
      · simp only [c, if_false]
    rw [this, ls_zero]; rfl
  | k :: O => by
    show ls (Bv l q to_ k) O + crV (Bv l q to_) O = _
    rw [crV_pairs O]
    have e1 : ls (Bv l q to_ k) O = ls (fun x => ls (fun y => if q x y then (if to_ x = k then cntI O (to_ y) else 0) else 0) l) l := by
      unfold Bv
      rw [ls_swap]
      refine ls_congr fun x _ => ?_
      rw [ls_swap]
      refine ls_congr fun y _ => ?_
      by_cases c : q x y
      · simp only [c, if_true]
        by_cases d : to_ x = k
        · simp only [d, if_true]; rfl
        · simp only [d, if_false]; exact ls_zero O
      · simp only [c, if_false]; exact ls_zero O
    rw [e1, ← ls_add]
    refine ls_congr fun x _ => ?_
    rw [← ls_add]
    refine ls_congr fun y _ => ?_
    by_cases c : q x y
    · simp only [c, if_true]; rfl
    · simp only [c, if_false]; rfl
end

/-- Where x lies in a list. -/
def ps (O : List Int) (x : Int) : Nat := O.findIdx (fun z => decide (x = z))
theorem ps_cons {k x : Int} {O : List Int} : ps (k :: O) x = if x = k then 0 else ps O x + 1 := by
  unfold ps
  rw [List.findIdx_cons]
  by_cases h : x = k <;> simp [h]
theorem ps_lt {O : List Int} {x : Int} (h : x ∈ O) : ps O x < O.length := List.findIdx_lt_length_of_exists ⟨x, h, by simp⟩
theorem ps_get {O : List Int} {x : Int} (h : ps O x < O.length) : O[ps O x] = x := by
  have := List.findIdx_getElem (xs := O) (p := fun z => decide (x = z)) (w := h)
  have h2 : decide (x = O[ps O x]) = true := this
  exact (of_decide_eq_true h2).symm
theorem ps_at {O : List Int} (hn : O.Nodup) {i : Nat} (hi : i < O.length) : ps O O[i] = i := by
  have h1 := ps_lt (List.getElem_mem hi)
  have h2 := ps_get h1
  rcases Nat.lt_trichotomy (ps O O[i]) i with c | c | c
  · exact absurd h2 (List.pairwise_iff_getElem.1 hn _ _ h1 hi c)
  · exact c
  · exact absurd h2.symm (List.pairwise_iff_getElem.1 hn _ _ hi h1 c)
theorem cntI_mem : ∀ {O : List Int} {v : Int}, O.Nodup → cntI O v = if v ∈ O then 1 else 0
  | [], v, _ => rfl
  | k :: O, v, h => by
    obtain ⟨h1, h2⟩ := List.nodup_cons.1 h
    show (if v = k then 1 else 0) + cntI O v = _
    rw [cntI_mem h2]
    by_cases e : v = k
    · subst e; simp [h1]
    · simp [e]
theorem pairI_lt : ∀ {O : List Int} {u v : Int}, O.Nodup → u ∈ O → v ∈ O → pairI O u v = if ps O u < ps O v then 1 else 0
  | [], u, v, _, h, _ => by simp at h
  | k :: O, u, v, hn, hu, hv => by
    obtain ⟨h1, h2⟩ := List.nodup_cons.1 hn
    show (if u = k then cntI O v else 0) + pairI O u v = _
    rw [ps_cons, ps_cons]
    have hout : ∀ u v, u ∉ O → pairI O u v = 0 := by
      intro u v
      clear h1 h2 hn hu hv
      induction O with
      | nil => intro _; rfl
      | cons z O ih =>
        intro h
        show (if u = z then cntI O v else 0) + pairI O u v = 0
        rw [ih (fun h' => h (by simp [h'])), if_neg (fun e => h (by simp [e]))]; rfl
    have hout2 : ∀ u v, v ∉ O → pairI O u v = 0 := by
      intro u v
      clear h1 h2 hn hu hv hout
      induction O with
      | nil => intro _; rfl
      | cons z O ih =>
        intro h
        show (if u = z then cntI O v else 0) + pairI O u v = 0
        have hz : ∀ P : List Int, v ∉ P → cntI P v = 0 := by
          intro P
          induction P with
          | nil => intro _; rfl
          | cons w P ihP =>
            intro h
            show (if v = w then 1 else 0) + cntI P v = 0
            rw [ihP (fun h' => h (by simp [h'])), if_neg (fun e => h (by simp [e]))]; rfl
        rw [ih (fun h' => h (by simp [h'])), hz O (fun h' => h (by simp [h']))]
        simp
    by_cases eu : u = k
    · subst eu
      rw [if_pos rfl, if_pos rfl, hout _ _ h1, cntI_mem h2]
      by_cases ev : v = u
      · subst ev; rw [if_pos rfl, if_neg h1]; simp
      · rw [if_neg ev]
        have : v ∈ O := by simpa [ev] using hv
        rw [if_pos this, if_pos (by omega)]; rfl
    · have hu' : u ∈ O := by simpa [eu] using hu
      rw [if_neg eu, if_neg eu]
      by_cases ev : v = k
      · subst ev
        rw [hout2 _ _ h1, if_pos rfl, if_neg (by omega)]; rfl
      · have hv' : v ∈ O := by simpa [ev] using hv
        rw [if_neg ev, pairI_lt h2 hu' hv']
        by_cases c : ps O u < ps O v
        · rw [if_pos c, if_pos (by omega)]; rfl
        · rw [if_neg c, if_neg (by omega)]; rfl
/-- The product of two differences is below 0. -/
theorem prod_neg (a b c d : Int) : (if (a - b) * (c - d) < 0 then (1 : Int) else 0) = (if b < a then (if c < d then 1 else 0) else 0) + (if a < b then (if d < c then 1 else 0) else 0) := by
  rcases Int.lt_trichotomy a b with h | h | h
  · rcases Int.lt_trichotomy c d with k | k | k
    · have := Int.mul_pos_of_neg_of_neg (show a - b < 0 by omega) (show c - d < 0 by omega)
      rw [if_neg (by omega), if_neg (by omega), if_pos h, if_neg (by omega)]; rfl
    · subst k; rw [Int.sub_self, Int.mul_zero, if_neg (by omega), if_neg (by omega), if_pos h, if_neg (by omega)]; rfl
    · have := Int.mul_neg_of_neg_of_pos (show a - b < 0 by omega) (show 0 < c - d by omega)
      rw [if_pos (by omega), if_neg (by omega), if_pos h, if_pos (by omega)]; rfl
  · subst h; rw [Int.sub_self, Int.zero_mul]; simp
  · rcases Int.lt_trichotomy c d with k | k | k
    · have := Int.mul_neg_of_pos_of_neg (show 0 < a - b by omega) (show c - d < 0 by omega)
      rw [if_pos (by omega), if_pos h, if_pos k, if_neg (by omega)]; rfl
    · subst k; rw [Int.sub_self, Int.mul_zero, if_neg (by omega), if_pos h, if_neg (by omega), if_neg (by omega)]; rfl
    · have := Int.mul_pos (show 0 < a - b by omega) (show 0 < c - d by omega)
      rw [if_neg (by omega), if_pos h, if_neg (by omega), if_neg (by omega)]; rfl
end Go.DB
