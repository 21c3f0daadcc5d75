/-
  What the functions on points and boxes compute.
-/
import Derived.Test.YtieepiblancbpaaGeo
set_option linter.unusedSimpArgs false
set_option linter.unusedVariables false
namespace Go.DB
open Go Go.RowKit

def sgn (n : Int) : Int := if 0 < n then 1 else if n < 0 then -1 else 0
def outB (n : Int) : Bool := decide (n < -1000000) || decide (1000000 < n)
def ptErr (p : Pt) : Int := if outB p.x || outB p.y then 3 else 0
def inB (n lo hi : Int) : Bool := decide (lo ≤ n) && decide (n ≤ hi)
def whenE (b : Bool) (e : Int) : Int := if b then e else 0
theorem outB_in (n : Int) : (!inB n (-1000000) 1000000) = outB n := by
  unfold inB outB
  rw [Bool.eq_iff_iff]; simp only [Bool.not_eq_true', Bool.and_eq_false_iff, Bool.or_eq_true, decide_eq_true_eq, decide_eq_false_iff_not]; omega
theorem ptErr_eq (p : Pt) : ptErr p = whenE (!inB p.x (-1000000) 1000000 || !inB p.y (-1000000) 1000000) 3 := by
  rw [outB_in, outB_in]; rfl

def ptsErr : List Pt → Int
  | [] => 0
  | p :: l => if ptErr p = 0 then ptsErr l else ptErr p
theorem ptsErr_append (l r : List Pt) : ptsErr (l ++ r) = if ptsErr l = 0 then ptsErr r else ptsErr l := by
  induction l with
  | nil => simp [ptsErr]
  | cons p l ih => by_cases h : ptErr p = 0 <;> simp [ptsErr, h, ih]
theorem take_gx {α : Type} [Inhabited α] {l : List α} {i : Nat} (h : i < l.length) : l.take (i + 1) = l.take i ++ [gx l (i : Int)] := by
  rw [List.take_succ_eq_append_getElem h]; simp [gx, h]
theorem split_gx {α : Type} [Inhabited α] {l : List α} {i : Nat} (h : i < l.length) : l = l.take i ++ gx l (i : Int) :: l.drop (i + 1) := by
  have : gx l (i : Int) = l[i] := by simp [gx, h]
  rw [this, List.getElem_cons_drop, List.take_append_drop]
theorem ptsErr_next {l : List Pt} {i : Nat} (h : ptsErr (l.take i) = 0) (hi : i < l.length) (he : ptErr (gx l (i : Int)) = 0) : ptsErr (l.take (i + 1)) = 0 := by
  rw [take_gx hi, ptsErr_append, h]; simp [ptsErr, he]
theorem ptsErr_found {l : List Pt} {i : Nat} (h : ptsErr (l.take i) = 0) (hi : i < l.length) (he : ¬ ptErr (gx l (i : Int)) = 0) : ptsErr l = ptErr (gx l (i : Int)) := by
  rw [split_gx hi, ptsErr_append, h]
  have : gx (List.take i l ++ gx l (i : Int) :: List.drop (i + 1) l) (i : Int) = gx l (i : Int) := by rw [← split_gx hi]
  rw [this]
  simp [ptsErr, he]
theorem ptsErr_none {l : List Pt} {i : Nat} (h : i ≤ l.length ∧ ptsErr (l.take i) = 0) (hi : l.length ≤ i) : ptsErr l = 0 := by
  have := h.2; rwa [List.take_of_length_le hi] at this

def firstE : List Int → Int
  | [] => 0
  | e :: l => if e = 0 then firstE l else e
theorem firstE_append (l r : List Int) : firstE (l ++ r) = if firstE l = 0 then firstE r else firstE l := by
  induction l with
  | nil => simp [firstE]
  | cons p l ih => by_cases h : p = 0 <;> simp [firstE, h, ih]
theorem firstE_next {l : List Int} {i : Nat} (h : firstE (l.take i) = 0) (hi : i < l.length) (he : gx l (i : Int) = 0) : firstE (l.take (i + 1)) = 0 := by
  rw [take_gx hi, firstE_append, h]; simp [firstE, he]
theorem firstE_found {l : List Int} {i : Nat} (h : firstE (l.take i) = 0) (hi : i < l.length) (he : ¬ gx l (i : Int) = 0) : firstE l = gx l (i : Int) := by
  rw [split_gx hi, firstE_append, h]
  have : gx (List.take i l ++ gx l (i : Int) :: List.drop (i + 1) l) (i : Int) = gx l (i : Int) := by rw [← split_gx hi]
  rw [this]
  simp [firstE, he]
theorem firstE_none {l : List Int} {i : Nat} (h : i ≤ l.length ∧ firstE (l.take i) = 0) (hi : l.length ≤ i) : firstE l = 0 := by
  have := h.2; rwa [List.take_of_length_le hi] at this

def bendW (a b c : Pt) : Int := sgn (W (W (W (b.x - a.x) * W (c.y - b.y)) - W (W (b.y - a.y) * W (c.x - b.x))))
def sideW (a b p : Pt) : Int := sgn (W (W (W (b.x - a.x) * W (p.y - a.y)) - W (W (b.y - a.y) * W (p.x - a.x))))
def betweenB (a b p : Pt) : Bool := inB p.x (min a.x b.x) (max a.x b.x) && inB p.y (min a.y b.y) (max a.y b.y)
theorem betweenB_eq (a b p : Pt) : (((decide (min a.x b.x ≤ p.x) && decide (p.x ≤ max a.x b.x)) && decide (min a.y b.y ≤ p.y)) && decide (p.y ≤ max a.y b.y)) = betweenB a b p := by
  simp [betweenB, inB, Bool.and_assoc]
def onW (a b p : Pt) : Bool := decide (W (W (b.x - a.x) * W (p.y - a.y)) = W (W (b.y - a.y) * W (p.x - a.x))) && betweenB a b p
theorem onW_eq (a b p : Pt) : onW a b p = ((decide (W (W (b.x - a.x) * W (p.y - a.y)) = W (W (b.y - a.y) * W (p.x - a.x))) && inB p.x (min a.x b.x) (max a.x b.x)) && inB p.y (min a.y b.y) (max a.y b.y)) := by
  simp [onW, betweenB, Bool.and_assoc]
def meetW (a b c d : Pt) : Bool :=
  if onW a b c || onW a b d || onW c d a || onW c d b then true
  else decide (W (sideW a b c * sideW a b d) < 0) && decide (W (sideW c d a * sideW c d b) < 0)

def isE {α : Type} [DecidableEq α] (z got : α) (e want : Int) (x : α) : Bool :=
  if want = 0 then decide (e = 0) && decide (got = x) else decide (got = z) && decide (e = want)

theorem ptsErr_first (l : List Pt) : ptsErr l = firstE (l.map ptErr) := by
  induction l with
  | nil => rfl
  | cons p l ih => simp only [ptsErr, firstE, List.map_cons, ih]
theorem isE_if {α : Type} [DecidableEq α] (z x : α) (e : Int) : isE z (if e = 0 then x else z) e e x = true := by
  unfold isE; by_cases h : e = 0 <;> simp [h]
theorem stretches_true (a b c d : Pt) : ((true && isE 0 (if ptsErr [a, b, c] = 0 then bendW a b c else 0) (ptsErr [a, b, c]) (firstE [ptErr a, ptErr b, ptErr c]) (bendW a b c)) &&
    isE false (if ptsErr [a, b, c, d] = 0 then meetW a b c d else false) (ptsErr [a, b, c, d]) (firstE [firstE [ptErr a, ptErr b, ptErr c], ptErr d]) (meetW a b c d)) = true := by
  have h1 : firstE [ptErr a, ptErr b, ptErr c] = ptsErr [a, b, c] := (ptsErr_first [a, b, c]).symm
  have h2 : firstE [firstE [ptErr a, ptErr b, ptErr c], ptErr d] = ptsErr [a, b, c, d] := by
    rw [ptsErr_first]
    simp only [firstE, List.map_cons, List.map_nil]
    by_cases ha : ptErr a = 0 <;> by_cases hb : ptErr b = 0 <;> by_cases hc : ptErr c = 0 <;> simp [ha, hb, hc]
  rw [h1] at h2 ⊢
  rw [h2, isE_if, isE_if]; rfl

end Go.DB
