/-
  What the functions on points and boxes compute.
-/
import Derived.Test.YtieepiblancbpaaGeo
set_option linter.unusedSimpArgs false
set_option linter.unusedVariables false
namespace Go.DB
open Go Go.RowKit

def sgn (n : Int) : Int := if 0 < n then 1 else if n < 0 then -1 else 0
def outB (n : Int) : Bool := decide (n < -1000000) || decide (1000000 < n)
def ptErr (p : Pt) : Int := if outB p.x || outB p.y then 3 else 0
def inB (n lo hi : Int) : Bool := decide (lo ≤ n) && decide (n ≤ hi)
def whenE (b : Bool) (e : Int) : Int := if b then e else 0
theorem outB_in (n : Int) : (!inB n (-1000000) 1000000) = outB n := by
  unfold inB outB
  rw [Bool.eq_iff_iff]; simp only [Bool.not_eq_true', Bool.and_eq_false_iff, Bool.or_eq_true, decide_eq_true_eq, decide_eq_false_iff_not]; omega
theorem ptErr_eq (p : Pt) : ptErr p = whenE (!inB p.x (-1000000) 1000000 || !inB p.y (-1000000) 1000000) 3 := by
  rw [outB_in, outB_in]; rfl

def ptsErr : List Pt → Int
  | [] => 0
  | p :: l => if ptErr p = 0 then ptsErr l else ptErr p
theorem ptsErr_append (l r : List Pt) : ptsErr (l ++ r) = if ptsErr l = 0 then ptsErr r else ptsErr l := by
  induction l with
  | nil => simp [ptsErr]
  | cons p l ih => by_cases h : ptErr p = 0 <;> simp [ptsErr, h, ih]
theorem take_gx {α : Type} [Inhabited α] {l : List α} {i : Nat} (h : i < l.length) : l.take (i + 1) = l.take i ++ [gx l (i : Int)] := by
  rw [List.take_succ_eq_append_getElem h]; simp [gx, h]
theorem split_gx {α : Type} [Inhabited α] {l : List α} {i : Nat} (h : i < l.length) : l = l.take i ++ gx l (i : Int) :: l.drop (i + 1) := by
  have : gx l (i : Int) = l[i] := by simp [gx, h]
  rw [this, List.getElem_cons_drop, List.take_append_drop]
theorem ptsErr_next {l : List Pt} {i : Nat} (h : ptsErr (l.take i) = 0) (hi : i < l.length) (he : ptErr (gx l (i : Int)) = 0) : ptsErr (l.take (i + 1)) = 0 := by
  rw [take_gx hi, ptsErr_append, h]; simp [ptsErr, he]
theorem ptsErr_found {l : List Pt} {i : Nat} (h : ptsErr (l.take i) = 0) (hi : i < l.length) (he : ¬ ptErr (gx l (i : Int)) = 0) : ptsErr l = ptErr (gx l (i : Int)) := by
  rw [split_gx hi, ptsErr_append, h]
  have : gx (List.take i l ++ gx l (i : Int) :: List.drop (i + 1) l) (i : Int) = gx l (i : Int) := by rw [← split_gx hi]
  rw [this]
  simp [ptsErr, he]
theorem ptsErr_none {l : List Pt} {i : Nat} (h : i ≤ l.length ∧ ptsErr (l.take i) = 0) (hi : l.length ≤ i) : ptsErr l = 0 := by
  have := h.2; rwa [List.take_of_length_le hi] at this

def firstE : List Int → Int
  | [] => 0
  | e :: l => if e = 0 then firstE l else e
theorem firstE_append (l r : List Int) : firstE (l ++ r) = if firstE l = 0 then firstE r else firstE l := by
  induction l with
  | nil => simp [firstE]
  | cons p l ih => by_cases h : p = 0 <;> simp [firstE, h, ih]
theorem firstE_next {l : List Int} {i : Nat} (h : firstE (l.take i) = 0) (hi : i < l.length) (he : gx l (i : Int) = 0) : firstE (l.take (i + 1)) = 0 := by
  rw [take_gx hi, firstE_append, h]; simp [firstE, he]
theorem firstE_found {l : List Int} {i : Nat} (h : firstE (l.take i) = 0) (hi : i < l.length) (he : ¬ gx l (i : Int) = 0) : firstE l = gx l (i : Int) := by
  rw [split_gx hi, firstE_append, h]
  have : gx (List.take i l ++ gx l (i : Int) :: List.drop (i + 1) l) (i : Int) = gx l (i : Int) := by rw [← split_gx hi]
  rw [this]
  simp [firstE, he]
theorem firstE_none {l : List Int} {i : Nat} (h : i ≤ l.length ∧ firstE (l.take i) = 0) (hi : l.length ≤ i) : firstE l = 0 := by
  have := h.2; rwa [List.take_of_length_le hi] at this

def bendW (a b c : Pt) : Int := sgn (W (W (W (b.x - a.x) * W (c.y - b.y)) - W (W (b.y - a.y) * W (c.x - b.x))))
def sideW (a b p : Pt) : Int := sgn (W (W (W (b.x - a.x) * W (p.y - a.y)) - W (W (b.y - a.y) * W (p.x - a.x))))
def betweenB (a b p : Pt) : Bool := inB p.x (min a.x b.x) (max a.x b.x) && inB p.y (min a.y b.y) (max a.y b.y)
theorem betweenB_eq (a b p : Pt) : (((decide (min a.x b.x ≤ p.x) && decide (p.x ≤ max a.x b.x)) && decide (min a.y b.y ≤ p.y)) && decide (p.y ≤ max a.y b.y)) = betweenB a b p := by
  simp [betweenB, inB, Bool.and_assoc]
def onW (a b p : Pt) : Bool := decide (W (W (b.x - a.x) * W (p.y - a.y)) = W (W (b.y - a.y) * W (p.x - a.x))) && betweenB a b p
theorem onW_eq (a b p : Pt) : onW a b p = ((decide (W (W (b.x - a.x) * W (p.y - a.y)) = W (W (b.y - a.y) * W (p.x - a.x))) && inB p.x (min a.x b.x) (max a.x b.x)) && inB p.y (min a.y b.y) (max a.y b.y)) := by
  simp [onW, betweenB, Bool.and_assoc]
def meetW (a b c d : Pt) : Bool :=
  if onW a b c || onW a b d || onW c d a || onW c d b then true
  else decide (W (sideW a b c * sideW a b d) < 0) && decide (W (sideW c d a * sideW c d b) < 0)

def isE {α : Type} [DecidableEq α] (z got : α) (e want : Int) (x : α) : Bool :=
  if want = 0 then decide (e = 0) && decide (got = x) else decide (got = z) && decide (e = want)

theorem ptsErr_first (l : List Pt) : ptsErr l = firstE (l.map ptErr) := by
  induction l with
  | nil => rfl
  | cons p l ih => simp only [ptsErr, firstE, List.map_cons, ih]
theorem isE_if {α : Type} [DecidableEq α] (z x : α) (e : Int) : isE z (if e = 0 then x else z) e e x = true := by
  unfold isE; by_cases h : e = 0 <;> simp [h]
theorem stretches_true (a b c d : Pt) : ((true && isE 0 (if ptsErr [a, b, c] = 0 then bendW a b c else 0) (ptsErr [a, b, c]) (firstE [ptErr a, ptErr b, ptErr c]) (bendW a b c)) &&
    isE false (if ptsErr [a, b, c, d] = 0 then meetW a b c d else false) (ptsErr [a, b, c, d]) (firstE [firstE [ptErr a, ptErr b, ptErr c], ptErr d]) (meetW a b c d)) = true := by
  have h1 : firstE [ptErr a, ptErr b, ptErr c] = ptsErr [a, b, c] := (ptsErr_first [a, b, c]).symm
  have h2 : firstE [firstE [ptErr a, ptErr b, ptErr c], ptErr d] = ptsErr [a, b, c, d] := by
    rw [ptsErr_first]
    simp only [firstE, List.map_cons, List.map_nil]
    by_cases ha : ptErr a = 0 <;> by_cases hb : ptErr b = 0 <;> by_cases hc : ptErr c = 0 <;> simp [ha, hb, hc]
  rw [h1] at h2 ⊢
  rw [h2, isE_if, isE_if]; rfl

/-! Turns and grids. -/

theorem ptErr_in {p : Pt} (h : ptErr p = 0) : -1000000 ≤ p.x ∧ p.x ≤ 1000000 ∧ -1000000 ≤ p.y ∧ p.y ≤ 1000000 := by
  unfold ptErr outB at h
  split at h
  · cases h
  · rename_i hn
    simp only [Bool.or_eq_true, decide_eq_true_eq, not_or] at hn
    omega
theorem ptsErr_zero {l : List Pt} (h : ptsErr l = 0) : ∀ p ∈ l, ptErr p = 0 := by
  induction l with
  | nil => intro p hp; cases hp
  | cons q l ih =>
    unfold ptsErr at h
    intro p hp
    by_cases hq : ptErr q = 0
    · rw [if_pos hq] at h
      rcases List.mem_cons.1 hp with rfl | hp
      · exact hq
      · exact ih h p hp
    · rw [if_neg hq] at h; exact absurd h hq
theorem pts2_in {p q : Pt} (h : ptsErr [p, q] = 0) : (-1000000 ≤ p.x ∧ p.x ≤ 1000000 ∧ -1000000 ≤ p.y ∧ p.y ≤ 1000000) ∧ (-1000000 ≤ q.x ∧ q.x ≤ 1000000 ∧ -1000000 ≤ q.y ∧ q.y ≤ 1000000) :=
  ⟨ptErr_in (ptsErr_zero h p (by simp)), ptErr_in (ptsErr_zero h q (by simp))⟩

def rot : Nat → Int × Int → Int × Int
  | 0, q => q
  | n + 1, q => (-(rot n q).2, (rot n q).1)
theorem rot_bd (n : Nat) {x y : Int} (hx : -2000000 ≤ x ∧ x ≤ 2000000) (hy : -2000000 ≤ y ∧ y ≤ 2000000) :
    (-2000000 ≤ (rot n (x, y)).1 ∧ (rot n (x, y)).1 ≤ 2000000) ∧ (-2000000 ≤ (rot n (x, y)).2 ∧ (rot n (x, y)).2 ≤ 2000000) := by
  induction n with
  | zero => exact ⟨hx, hy⟩
  | succ n ih => simp only [rot]; omega

def turnPt (p a : Pt) (q : Int) : Pt := ⟨a.x + (rot (q % 4).toNat (p.x - a.x, p.y - a.y)).1, a.y + (rot (q % 4).toNat (p.x - a.x, p.y - a.y)).2⟩
def turnE (p a : Pt) (q : Int) : Int := if ptsErr [p, a] = 0 then ptErr (turnPt p a q) else ptsErr [p, a]
def turnV (p a : Pt) (q : Int) : Pt := if turnE p a q = 0 then turnPt p a q else ⟨0, 0⟩

theorem tmod4_bd (q : Int) : -4 < q.tmod 4 ∧ q.tmod 4 < 4 := by
  have h1 := Int.tmod_lt_of_pos q (show (0 : Int) < 4 by decide)
  have h2 := Int.lt_tmod_of_pos q (show (0 : Int) < 4 by decide)
  omega
theorem rem4 (q : Int) : (q.tmod 4 + 4).tmod 4 = q % 4 := by
  have h := tmod4_bd q
  rw [Int.tmod_eq_emod_of_nonneg (by omega)]
  have h2 := Int.mul_tdiv_add_tmod q 4
  omega

theorem tdiv_floor {a b : Int} (hb : 0 < b) : (if a.tmod b < 0 then a.tdiv b - 1 else a.tdiv b) = a / b := by
  rcases Int.le_total 0 a with h | h
  · rw [if_neg (by have := Int.tmod_nonneg b h; omega), Int.tdiv_eq_ediv_of_nonneg h]
  · obtain ⟨k, rfl⟩ : ∃ k, a = -k := ⟨-a, by omega⟩
    have hk : 0 ≤ k := by omega
    rw [Int.neg_tmod, Int.neg_tdiv, Int.tdiv_eq_ediv_of_nonneg hk, Int.tmod_eq_emod_of_nonneg hk]
    have h1 := Int.emod_nonneg k (show b ≠ 0 by omega)
    have h2 := Int.emod_lt_of_pos k hb
    have h3 := Int.mul_ediv_add_emod k b
    by_cases h0 : k % b = 0
    · rw [if_neg (by omega)]
      refine (((Int.ediv_emod_unique (r := 0) hb).2 ⟨?_, by omega, hb⟩).1).symm
      rw [Int.mul_neg]; omega
    · rw [if_pos (by omega)]
      refine (((Int.ediv_emod_unique (r := b - k % b) hb).2 ⟨?_, by omega, by omega⟩).1).symm
      rw [Int.mul_sub, Int.mul_neg, Int.mul_one]; omega
theorem tdiv_down {a b : Int} (hb : 0 < b) : (if a < a.tdiv b * b then a.tdiv b - 1 else a.tdiv b) = a / b := by
  rw [← tdiv_floor hb]
  have h := Int.mul_tdiv_add_tmod a b
  rw [Int.mul_comm] at h
  by_cases h1 : a.tmod b < 0
  · rw [if_pos h1, if_pos (by omega)]
  · rw [if_neg h1, if_neg (by omega)]
theorem tdiv_mul_in {a b : Int} (ha : -1000000000 ≤ a ∧ a ≤ 1000000000) (hb : 0 < b) : InI (a.tdiv b * b) := by
  have h := Int.mul_tdiv_add_tmod a b
  rw [Int.mul_comm] at h
  have h1 : (a.tmod b).natAbs ≤ a.natAbs := by rw [Int.natAbs_tmod]; exact Nat.mod_le _ _
  unfold InI; omega

def snapC (x g : Int) : Int := (2 * x + g) / (2 * g) * g
def snapPt (p : Pt) (g : Int) : Pt := ⟨snapC p.x g, snapC p.y g⟩
theorem snapC_in {x g : Int} (hx : -1000000 ≤ x ∧ x ≤ 1000000) (hg : 1 ≤ g ∧ g ≤ 20000) : InI ((2 * x + g) / (2 * g) * g) := by
  have h1 := Int.mul_ediv_add_emod (2 * x + g) (2 * g)
  have h2 := Int.emod_nonneg (2 * x + g) (show 2 * g ≠ 0 by omega)
  have h3 := Int.emod_lt_of_pos (2 * x + g) (show 0 < 2 * g by omega)
  rw [Int.mul_assoc, Int.mul_comm g] at h1
  unfold InI; omega
def snapE (p : Pt) (g : Int) : Int := if ptErr p = 0 then (if 1 ≤ g ∧ g ≤ 20000 then ptErr (snapPt p g) else 3) else ptErr p
def snapV (p : Pt) (g : Int) : Pt := if snapE p g = 0 then snapPt p g else ⟨0, 0⟩

theorem first2 (a b : Int) : firstE [a, b] = if a = 0 then b else a := by
  unfold firstE; by_cases h : a = 0
  · rw [if_pos h, if_pos h]; unfold firstE; by_cases hb : b = 0
    · rw [if_pos hb, hb]; rfl
    · rw [if_neg hb]
  · rw [if_neg h, if_neg h]
theorem ptsErr2 (p q : Pt) : ptsErr [p, q] = firstE [ptErr p, ptErr q] := ptsErr_first [p, q]

theorem floor_lo {a b : Int} (h : 0 < b ∧ -1000000000 ≤ a ∧ a ≤ 1000000000) : -1000000000 ≤ a.tdiv b ∧ a.tdiv b ≤ 1000000000 := by
  have := Int.natAbs_tdiv_le_natAbs a b
  omega
theorem turns_a1 {p a : Pt} {q : Int} (h : ptsErr [p, a] = 0) : isE (⟨0, 0⟩ : Pt) (turnV p a q) (turnE p a q) (ptErr (turnPt p a q)) (turnPt p a q) = true := by
  unfold isE turnV turnE
  simp only [h, if_true]
  by_cases hq : ptErr (turnPt p a q) = 0 <;> simp [hq]
theorem turns_a2 {p a : Pt} {q : Int} (h : ¬ firstE [ptErr p, ptErr a] = 0) : isE (⟨0, 0⟩ : Pt) (turnV p a q) (turnE p a q) (firstE [ptErr p, ptErr a]) ⟨0, 0⟩ = true := by
  unfold isE turnV turnE
  rw [ptsErr2]
  simp [h]
theorem snap_ok {p : Pt} {g : Int} (h : firstE [ptErr p, whenE (!inB g 1 20000) 3] = 0) : (-1000000 ≤ p.x ∧ p.x ≤ 1000000 ∧ -1000000 ≤ p.y ∧ p.y ≤ 1000000) ∧ (1 ≤ g ∧ g ≤ 20000) := by
  rw [first2] at h
  by_cases hp : ptErr p = 0
  · refine ⟨ptErr_in hp, ?_⟩
    rw [if_pos hp] at h
    unfold whenE inB at h
    by_cases h1 : 1 ≤ g <;> by_cases h2 : g ≤ 20000 <;> simp [h1, h2] at h
    exact ⟨h1, h2⟩
  · rw [if_neg hp] at h; exact absurd h hp
theorem turns_b1 {p : Pt} {g : Int} (h : firstE [ptErr p, whenE (!inB g 1 20000) 3] = 0) : isE (⟨0, 0⟩ : Pt) (snapV p g) (snapE p g) (ptErr (snapPt p g)) (snapPt p g) = true := by
  have h1 := (snap_ok h).2
  have hp : ptErr p = 0 := by
    rw [first2] at h
    by_cases hp : ptErr p = 0
    · exact hp
    · rw [if_neg hp] at h; exact absurd h hp
  unfold isE snapV snapE
  simp only [hp, h1, and_self, if_true]
  by_cases hq : ptErr (snapPt p g) = 0 <;> simp [hq]
theorem turns_b2 {p : Pt} {g : Int} (h : ¬ firstE [ptErr p, whenE (!inB g 1 20000) 3] = 0) : isE (⟨0, 0⟩ : Pt) (snapV p g) (snapE p g) (firstE [ptErr p, whenE (!inB g 1 20000) 3]) ⟨0, 0⟩ = true := by
  rw [first2] at *
  unfold isE snapV snapE
  by_cases hp : ptErr p = 0
  · rw [if_pos hp] at *
    have hg : ¬ (1 ≤ g ∧ g ≤ 20000) := by
      intro hg
      apply h
      simp [whenE, inB, hg]
    have hw : whenE (!inB g 1 20000) 3 = 3 := by
      unfold whenE inB
      by_cases h1 : 1 ≤ g <;> by_cases h2 : g ≤ 20000 <;> simp [h1, h2]
      exact hg ⟨h1, h2⟩
    rw [hw]
    simp [hp, hg]
  · rw [if_neg hp] at *
    simp [hp]

/-! Boxes. -/

def bxErr (b : Bx) : Int := if outB b.x || outB b.y || decide (b.w < 1) || decide (20000 < b.w) || decide (b.h < 1) || decide (20000 < b.h) then 3 else 0
theorem bxErr_ref (b : Bx) : firstE [ptErr ⟨b.x, b.y⟩, whenE (!inB b.w 1 20000 || !inB b.h 1 20000) 3] = bxErr b := by
  rw [first2]
  unfold ptErr bxErr whenE inB outB
  by_cases h1 : b.x < -1000000 <;> by_cases h2 : 1000000 < b.x <;> by_cases h3 : b.y < -1000000 <;> by_cases h4 : 1000000 < b.y <;> simp [h1, h2, h3, h4] <;>
    (by_cases h5 : b.w < 1 <;> by_cases h6 : 20000 < b.w <;> by_cases h7 : b.h < 1 <;> by_cases h8 : 20000 < b.h <;> simp [h5, h6, h7, h8] <;> omega)
def BxIn (b : Bx) : Prop := -1000000 ≤ b.x ∧ b.x ≤ 1000000 ∧ -1000000 ≤ b.y ∧ b.y ≤ 1000000 ∧ 1 ≤ b.w ∧ b.w ≤ 20000 ∧ 1 ≤ b.h ∧ b.h ≤ 20000
theorem bxErr_in {b : Bx} (h : bxErr b = 0) : BxIn b := by
  unfold bxErr outB at h
  split at h
  · cases h
  · rename_i hn
    simp only [Bool.or_eq_true, decide_eq_true_eq, not_or] at hn
    unfold BxIn; omega

def bxsErr : List Bx → Int
  | [] => 0
  | p :: l => if bxErr p = 0 then bxsErr l else bxErr p
theorem bxsErr_append (l r : List Bx) : bxsErr (l ++ r) = if bxsErr l = 0 then bxsErr r else bxsErr l := by
  induction l with
  | nil => simp [bxsErr]
  | cons p l ih => by_cases h : bxErr p = 0 <;> simp [bxsErr, h, ih]
theorem bxsErr_next {l : List Bx} {i : Nat} (h : bxsErr (l.take i) = 0) (hi : i < l.length) (he : bxErr (gx l (i : Int)) = 0) : bxsErr (l.take (i + 1)) = 0 := by
  rw [take_gx hi, bxsErr_append, h]; simp [bxsErr, he]
theorem bxsErr_found {l : List Bx} {i : Nat} (h : bxsErr (l.take i) = 0) (hi : i < l.length) (he : ¬ bxErr (gx l (i : Int)) = 0) : bxsErr l = bxErr (gx l (i : Int)) := by
  rw [split_gx hi, bxsErr_append, h]
  have : gx (List.take i l ++ gx l (i : Int) :: List.drop (i + 1) l) (i : Int) = gx l (i : Int) := by rw [← split_gx hi]
  rw [this]
  simp [bxsErr, he]
theorem bxsErr_none {l : List Bx} {i : Nat} (h : i ≤ l.length ∧ bxsErr (l.take i) = 0) (hi : l.length ≤ i) : bxsErr l = 0 := by
  have := h.2; rwa [List.take_of_length_le hi] at this
theorem bxsErr_zero {l : List Bx} (h : bxsErr l = 0) : ∀ p ∈ l, BxIn p := by
  induction l with
  | nil => intro p hp; cases hp
  | cons q l ih =>
    unfold bxsErr at h
    intro p hp
    by_cases hq : bxErr q = 0
    · rw [if_pos hq] at h
      rcases List.mem_cons.1 hp with rfl | hp
      · exact bxErr_in hq
      · exact ih h p hp
    · rw [if_neg hq] at h; exact absurd h hq
theorem bxsErr2 (a b : Bx) : bxsErr [a, b] = firstE [bxErr a, bxErr b] := by
  rw [first2]; unfold bxsErr; by_cases h : bxErr a = 0
  · rw [if_pos h, if_pos h]; unfold bxsErr; by_cases hb : bxErr b = 0
    · rw [if_pos hb, hb]; rfl
    · rw [if_neg hb]
  · rw [if_neg h, if_neg h]
theorem gx_mem {α : Type} [Inhabited α] {l : List α} {k : Int} (h0 : 0 ≤ k) (h : k < l.length) : gx l k ∈ l := by
  have hlt : k.toNat < l.length := by omega
  unfold gx
  rw [List.getElem?_eq_getElem hlt]; simp

def hullStep (h b : Bx) : Bx := ⟨min h.x b.x, min h.y b.y, max (h.x + h.w) (b.x + b.w) - min h.x b.x, max (h.y + h.h) (b.y + b.h) - min h.y b.y⟩
def hullAcc (l : List Bx) (i : Nat) : Bx := (l.take i).foldl hullStep (gx l 0)
def HullIn (h : Bx) : Prop := -1000000 ≤ h.x ∧ h.x ≤ 1000000 ∧ -1000000 ≤ h.y ∧ h.y ≤ 1000000 ∧ 1 ≤ h.w ∧ h.x + h.w ≤ 1020000 ∧ 1 ≤ h.h ∧ h.y + h.h ≤ 1020000
theorem hullAcc_next {l : List Bx} {i : Nat} (hi : i < l.length) : hullAcc l (i + 1) = hullStep (hullAcc l i) (gx l (i : Int)) := by
  unfold hullAcc; rw [take_gx hi, List.foldl_append]; rfl
theorem hullAcc_in {l : List Bx} (hl : bxsErr l = 0) (hne : 0 < l.length) : ∀ i, i ≤ l.length → HullIn (hullAcc l i)
  | 0, _ => by
    have := bxsErr_zero hl _ (gx_mem (k := 0) (by omega) (by omega))
    unfold BxIn at this
    show HullIn (gx l 0)
    unfold HullIn; omega
  | i + 1, hi => by
    have ih := hullAcc_in hl hne i (by omega)
    have := bxsErr_zero hl _ (gx_mem (k := (i : Int)) (by omega) (by omega))
    rw [hullAcc_next (by omega)]
    unfold HullIn BxIn at *
    simp only [hullStep]
    omega
/-- The corners, as the plain text counts them. -/
def cornAcc (l : List Bx) (i : Nat) : Int × Int × Int × Int :=
  (l.take i).foldl (fun c b => (min c.1 b.x, min c.2.1 b.y, max c.2.2.1 (b.x + b.w), max c.2.2.2 (b.y + b.h))) ((gx l 0).x, (gx l 0).y, (gx l 0).x, (gx l 0).y)
theorem cornAcc_next {l : List Bx} {i : Nat} (hi : i < l.length) : cornAcc l (i + 1) =
    (min (cornAcc l i).1 (gx l (i : Int)).x, min (cornAcc l i).2.1 (gx l (i : Int)).y, max (cornAcc l i).2.2.1 ((gx l (i : Int)).x + (gx l (i : Int)).w), max (cornAcc l i).2.2.2 ((gx l (i : Int)).y + (gx l (i : Int)).h)) := by
  unfold cornAcc; rw [take_gx hi, List.foldl_append]; rfl
theorem cornAcc_hull {l : List Bx} (hl : bxsErr l = 0) : ∀ i, i + 1 ≤ l.length → cornAcc l (i + 1) = ((hullAcc l (i + 1)).x, (hullAcc l (i + 1)).y, (hullAcc l (i + 1)).x + (hullAcc l (i + 1)).w, (hullAcc l (i + 1)).y + (hullAcc l (i + 1)).h)
  | 0, h => by
    rw [cornAcc_next (by omega), hullAcc_next (by omega)]
    have := bxsErr_zero hl _ (gx_mem (k := 0) (by omega) (by omega))
    unfold BxIn at this
    simp only [cornAcc, hullAcc, List.take_zero, List.foldl_nil, hullStep, Prod.mk.injEq, Int.natCast_zero]
    refine ⟨trivial, trivial, ?_, ?_⟩ <;> omega
  | i + 1, h => by
    rw [cornAcc_next (by omega), hullAcc_next (by omega), cornAcc_hull hl i (by omega)]
    simp only [hullStep, Prod.mk.injEq]
    refine ⟨trivial, trivial, ?_, ?_⟩ <;> omega
theorem cornAcc_in {l : List Bx} (hl : bxsErr l = 0) (hne : 0 < l.length) (i : Nat) (hi : i ≤ l.length) :
    (-1000000 ≤ (cornAcc l i).1 ∧ (cornAcc l i).1 ≤ 1000000) ∧ (-1000000 ≤ (cornAcc l i).2.1 ∧ (cornAcc l i).2.1 ≤ 1000000) ∧ (-1000000 ≤ (cornAcc l i).2.2.1 ∧ (cornAcc l i).2.2.1 ≤ 1020000) ∧ (-1000000 ≤ (cornAcc l i).2.2.2 ∧ (cornAcc l i).2.2.2 ≤ 1020000) := by
  cases i with
  | zero =>
    have := bxsErr_zero hl _ (gx_mem (k := 0) (by omega) (by omega))
    unfold BxIn at this
    simp only [cornAcc, List.take_zero, List.foldl_nil]
    omega
  | succ i =>
    have := hullAcc_in hl hne (i + 1) hi
    rw [cornAcc_hull hl i hi]
    unfold HullIn at this
    simp only
    omega

def hullF (l : List Bx) : Bx := hullAcc l l.length
def hullE (l : List Bx) : Int := if l.length = 0 then 9 else if 20000 < (hullF l).w ∨ 20000 < (hullF l).h then 4 else 0
def hullV (l : List Bx) : Bx := if hullE l = 0 then hullF l else ⟨0, 0, 0, 0⟩
def listE (l : List Bx) : Int := if 1000 < l.length then 4 else bxsErr l

def commW (a b : Bx) : Bx := ⟨max a.x b.x, max a.y b.y, W (min (W (a.x + a.w)) (W (b.x + b.w)) - max a.x b.x), W (min (W (a.y + a.h)) (W (b.y + b.h)) - max a.y b.y)⟩
def commSome (a b : Bx) : Bool := !(decide ((commW a b).w < 1) || decide ((commW a b).h < 1))
def commV (a b : Bx) : Bx := if commSome a b then commW a b else ⟨0, 0, 0, 0⟩
def gapX (a b : Bx) : Int := max (max 0 (W (W (b.x - a.x) - a.w))) (W (W (a.x - b.x) - b.w))
def gapY (a b : Bx) : Int := max (max 0 (W (W (b.y - a.y) - a.h))) (W (W (a.y - b.y) - b.h))
theorem gap_eq {a b : Bx} (ha : BxIn a) (hb : BxIn b) : max (max a.x b.x - min (a.x + a.w) (b.x + b.w)) 0 = gapX a b ∧ max (max a.y b.y - min (a.y + a.h) (b.y + b.h)) 0 = gapY a b := by
  unfold BxIn at ha hb
  have w1 : W (b.x - a.x) = b.x - a.x := W_eq (by unfold InI; omega)
  have w2 : W (b.x - a.x - a.w) = b.x - a.x - a.w := W_eq (by unfold InI; omega)
  have w3 : W (a.x - b.x) = a.x - b.x := W_eq (by unfold InI; omega)
  have w4 : W (a.x - b.x - b.w) = a.x - b.x - b.w := W_eq (by unfold InI; omega)
  have w5 : W (b.y - a.y) = b.y - a.y := W_eq (by unfold InI; omega)
  have w6 : W (b.y - a.y - a.h) = b.y - a.y - a.h := W_eq (by unfold InI; omega)
  have w7 : W (a.y - b.y) = a.y - b.y := W_eq (by unfold InI; omega)
  have w8 : W (a.y - b.y - b.h) = a.y - b.y - b.h := W_eq (by unfold InI; omega)
  unfold gapX gapY
  rw [w1, w2, w3, w4, w5, w6, w7, w8]
  constructor <;> omega
def growF (b : Bx) (n : Int) : Bx := ⟨b.x - n, b.y - n, b.w + 2 * n, b.h + 2 * n⟩
def growE (b : Bx) (n : Int) : Int :=
  if bxErr b = 0 then (if -20000 ≤ n ∧ n ≤ 20000 then (if (growF b n).w < 1 ∨ (growF b n).h < 1 then 9 else bxErr (growF b n)) else 3) else bxErr b
def growV (b : Bx) (n : Int) : Bx := if growE b n = 0 then growF b n else ⟨0, 0, 0, 0⟩

theorem bxs2_in {p q : Bx} (h : bxsErr [p, q] = 0) : BxIn p ∧ BxIn q := ⟨bxsErr_zero h p (by simp), bxsErr_zero h q (by simp)⟩
theorem corn_hull {l : List Bx} (hl : bxsErr l = 0) (hne : 0 < l.length) : cornAcc l l.length = ((hullF l).x, (hullF l).y, (hullF l).x + (hullF l).w, (hullF l).y + (hullF l).h) := by
  obtain ⟨n, hn⟩ : ∃ n, l.length = n + 1 := ⟨l.length - 1, by omega⟩
  unfold hullF
  rw [hn]; exact cornAcc_hull hl n (by omega)
theorem corn_bx {l : List Bx} (hl : bxsErr l = 0) (hne : 0 < l.length) :
    (⟨(cornAcc l l.length).1, (cornAcc l l.length).2.1, (cornAcc l l.length).2.2.1 - (cornAcc l l.length).1, (cornAcc l l.length).2.2.2 - (cornAcc l l.length).2.1⟩ : Bx) = hullF l := by
  rw [corn_hull hl hne]
  cases hh : hullF l with
  | mk x y w h => simp only [Bx.mk.injEq]; refine ⟨trivial, trivial, ?_, ?_⟩ <;> omega

theorem corn_parts {l : List Bx} (hl : bxsErr l = 0) (hne : 0 < l.length) : (cornAcc l l.length).1 = (hullAcc l l.length).x ∧ (cornAcc l l.length).2.1 = (hullAcc l l.length).y ∧
    (cornAcc l l.length).2.2.1 = (hullAcc l l.length).x + (hullAcc l l.length).w ∧ (cornAcc l l.length).2.2.2 = (hullAcc l l.length).y + (hullAcc l l.length).h := by
  rw [corn_hull hl hne]; exact ⟨rfl, rfl, rfl, rfl⟩

theorem comm_no {a b : Bx} (h : W (min (W (a.x + a.w)) (W (b.x + b.w)) - max a.x b.x) < 1 ∨ W (min (W (a.y + a.h)) (W (b.y + b.h)) - max a.y b.y) < 1) : commSome a b = false ∧ commV a b = ⟨0, 0, 0, 0⟩ := by
  have h1 : commSome a b = false := by
    unfold commSome commW
    simp only [Bool.not_eq_false', Bool.or_eq_true, decide_eq_true_eq]; exact h
  exact ⟨h1, by unfold commV; rw [h1]; rfl⟩
theorem comm_yes {a b : Bx} (h : 1 ≤ W (min (W (a.x + a.w)) (W (b.x + b.w)) - max a.x b.x) ∧ 1 ≤ W (min (W (a.y + a.h)) (W (b.y + b.h)) - max a.y b.y)) : commSome a b = true ∧ commV a b = commW a b := by
  have h1 : commSome a b = true := by
    unfold commSome commW
    simp only [Bool.not_eq_true', Bool.or_eq_false_iff, decide_eq_false_iff_not]; omega
  exact ⟨h1, by unfold commV; rw [h1]; rfl⟩

theorem listE_zero {l : List Bx} (h : listE l = 0) : bxsErr l = 0 := by
  unfold listE at h
  split at h
  · cases h
  · exact h
theorem boxes_a1 {l : List Bx} (h : listE l = 0) : isE (⟨0, 0, 0, 0⟩ : Bx) (if listE l = 0 then hullV l else ⟨0, 0, 0, 0⟩) (if listE l = 0 then hullE l else listE l) (hullE l) (hullV l) = true := by
  rw [if_pos h, if_pos h]
  unfold isE hullV
  by_cases hE : hullE l = 0 <;> simp [hE]
theorem boxes_a2 {l : List Bx} (h : ¬ listE l = 0) : isE (⟨0, 0, 0, 0⟩ : Bx) (if listE l = 0 then hullV l else ⟨0, 0, 0, 0⟩) (if listE l = 0 then hullE l else listE l) (listE l) ⟨0, 0, 0, 0⟩ = true := by
  rw [if_neg h, if_neg h]
  unfold isE
  simp [h]
theorem grow_ok {a : Bx} {n : Int} (h : firstE [bxErr a, whenE (!inB n (-20000) 20000) 3] = 0) : bxErr a = 0 ∧ BxIn a ∧ (-20000 ≤ n ∧ n ≤ 20000) := by
  rw [first2] at h
  by_cases hp : bxErr a = 0
  · refine ⟨hp, bxErr_in hp, ?_⟩
    rw [if_pos hp] at h
    unfold whenE inB at h
    by_cases h1 : -20000 ≤ n <;> by_cases h2 : n ≤ 20000 <;> simp [h1, h2] at h
    exact ⟨h1, h2⟩
  · rw [if_neg hp] at h; exact absurd h hp
theorem boxes_g1 {a : Bx} {n : Int} (h : firstE [bxErr a, whenE (!inB n (-20000) 20000) 3] = 0) :
    isE (⟨0, 0, 0, 0⟩ : Bx) (growV a n) (growE a n) (firstE [whenE (decide ((growF a n).w < 1) || decide ((growF a n).h < 1)) 9, bxErr (growF a n)]) (growF a n) = true := by
  obtain ⟨h1, _, h3⟩ := grow_ok h
  have hw : firstE [whenE (decide ((growF a n).w < 1) || decide ((growF a n).h < 1)) 9, bxErr (growF a n)] = growE a n := by
    rw [first2, growE, if_pos h1, if_pos h3]
    unfold whenE
    by_cases h4 : (growF a n).w < 1
    · simp [h4]
    · by_cases h5 : (growF a n).h < 1
      · simp [h4, h5]
      · simp [h4, h5]
  rw [hw]
  unfold isE growV
  by_cases hE : growE a n = 0 <;> simp [hE]
theorem boxes_g2 {a : Bx} {n : Int} (h : ¬ firstE [bxErr a, whenE (!inB n (-20000) 20000) 3] = 0) :
    isE (⟨0, 0, 0, 0⟩ : Bx) (growV a n) (growE a n) (firstE [bxErr a, whenE (!inB n (-20000) 20000) 3]) ⟨0, 0, 0, 0⟩ = true := by
  rw [first2] at *
  unfold isE growV growE
  by_cases hp : bxErr a = 0
  · rw [if_pos hp] at *
    have hg : ¬ (-20000 ≤ n ∧ n ≤ 20000) := by
      intro hg
      apply h
      simp [whenE, inB, hg]
    have hw : whenE (!inB n (-20000) 20000) 3 = 3 := by
      unfold whenE inB
      by_cases h1 : -20000 ≤ n <;> by_cases h2 : n ≤ 20000 <;> simp [h1, h2]
      exact hg ⟨h1, h2⟩
    rw [hw]
    simp [hp, hg]
  · rw [if_neg hp] at *
    simp [hp]

end Go.DB
