/-
  Signs of a diagram: numbers, bounds, grids.
-/
import Derived.Test.YtbogpbomhmabhaaGreatDoorSkePuDoc4
import Derived.Test.YtbogpbomhmabhaaGreatDoorCore49
import Derived.Test.YtbogpbomhmabhaaGreatDoorExRepeat
set_option linter.unusedSimpArgs false
set_option linter.unusedVariables false
namespace Go.DB
open Go Go.RowKit

theorem sk_floor {a b : Int} (hb : 1 ≤ b) (h1 : -1000000000000 ≤ a) (h2 : a ≤ 1000000000000) (h3 : b ≤ 1000000000000) : desk_floor a b = some (a / b) := by
  have h := Down_eq hb h1 h2 h3
  unfold ref_Down at h
  rw [need_of (by omega)] at h
  simp only [bnd_eq] at h
  have e1 := Int.mul_tdiv_add_tmod a b
  have t1 : -b < a.tmod b := by have := Int.tmod_lt_of_pos (-a) (show 0 < b by omega); rw [Int.neg_tmod] at this; omega
  have t2 := Int.tmod_lt_of_pos a (show 0 < b by omega)
  have e3 : a.tdiv b * b = a - a.tmod b := by rw [Int.mul_comm]; omega
  rw [e3, Wk (n := a - a.tmod b) (by omega) (by omega)] at h
  unfold desk_floor
  rw [need_of (by omega), bnd_eq, need_of (by omega)]
  have : decide (a.tmod b < 0) = decide (a < a - a.tmod b) := decide_eq_decide.2 (by omega)
  rw [this]
  simp only [bnd_eq]
  exact h
theorem neg_div {n w : Int} (hw : 1 ≤ w) : -((-n) / w) = (n + w - 1) / w := by
  have e1 := Int.mul_ediv_add_emod (-n) w
  have m1 := Int.emod_nonneg (-n) (show w ≠ 0 by omega)
  have m2 := Int.emod_lt_of_pos (-n) (show 0 < w by omega)
  have e2 := Int.mul_ediv_add_emod (n + w - 1) w
  have n1 := Int.emod_nonneg (n + w - 1) (show w ≠ 0 by omega)
  have n2 := Int.emod_lt_of_pos (n + w - 1) (show 0 < w by omega)
  generalize (-n) / w = p at *
  generalize (n + w - 1) / w = q at *
  have e : w * (p + q) = w * p + w * q := Int.mul_add _ _ _
  have a1 : w * (p + q) < w * 1 := by omega
  have a2 : w * (-1) < w * (p + q) := by omega
  have := Int.lt_of_mul_lt_mul_left a1 (by omega)
  have := Int.lt_of_mul_lt_mul_left a2 (by omega)
  omega
theorem div_le_iff {a w k : Int} (hw : 1 ≤ w) : a / w ≤ k ↔ a < k * w + w := by
  have h := Int.ediv_lt_iff_lt_mul (a := a) (b := k + 1) (show 0 < w by omega)
  rw [Int.add_mul, Int.one_mul] at h
  omega

/-! The bounds of boxes. -/

def bd0 (b : Box) : Int × Int × Int × Int := (b.X, b.Y, b.X + b.W_, b.Y + b.H)
def bd1 (s : Int × Int × Int × Int) (b : Box) : Int × Int × Int × Int := (min s.1 b.X, min s.2.1 b.Y, max s.2.2.1 (b.X + b.W_), max s.2.2.2 (b.Y + b.H))
def bdL : List Box → Int × Int × Int × Int
  | [] => (0, 0, 0, 0)
  | b :: l => l.foldl bd1 (bd0 b)
def bxL (l : List DNode) : List Box := (l.filter (fun n => decide (n.Kind ≠ 6))).map (·.Box)
theorem bxL_snoc {l : List DNode} {n : DNode} : bxL (l ++ [n]) = if n.Kind ≠ 6 then bxL l ++ [n.Box] else bxL l := by
  unfold bxL
  by_cases h : n.Kind = 6 <;> simp [List.filter_append, h]
theorem bdL_snoc {l : List Box} {b : Box} : bdL (l ++ [b]) = if l = [] then bd0 b else bd1 (bdL l) b := by
  cases l with
  | nil => rfl
  | cons c l => simp [bdL, List.foldl_append]
def bdOK (s : Int × Int × Int × Int) : Prop := -1000000 ≤ s.1 ∧ s.1 ≤ 1000000 ∧ s.1 + 1 ≤ s.2.2.1 ∧ s.2.2.1 ≤ 1020000 ∧ -1000000 ≤ s.2.1 ∧ s.2.1 ≤ 1000000 ∧ s.2.1 + 1 ≤ s.2.2.2 ∧ s.2.2.2 ≤ 1020000
theorem bdL_ok : ∀ {l : List Box}, (∀ b ∈ l, okB b) → l ≠ [] → bdOK (bdL l)
  | [], _, h => absurd rfl h
  | b :: l, hok, _ => by
    have key : ∀ (l : List Box) (s : Int × Int × Int × Int), (∀ b ∈ l, okB b) → bdOK s → bdOK (l.foldl bd1 s) := by
      intro l
      induction l with
      | nil => intro s _ h; exact h
      | cons c l ih =>
        intro s hc hs
        refine ih _ (fun x hx => hc x (by simp [hx])) ?_
        obtain ⟨x1, x2, y1, y2, w1, w2, g1, g2⟩ := hc c (by simp)
        obtain ⟨a1, a2, a3, a4, a5, a6, a7, a8⟩ := hs
        unfold bdOK bd1
        simp only
        omega
    refine key l _ (fun x hx => hok x (by simp [hx])) ?_
    obtain ⟨x1, x2, y1, y2, w1, w2, g1, g2⟩ := hok b (by simp)
    unfold bdOK bd0
    simp only
    omega

/-! Grids. -/

def rwF (C : Nat) (f : Nat → UInt8) : List (KI .u8) := (List.range C).map (fun k => ⟨((f k).toNat : Int)⟩)
def gdF (R C : Nat) (F : Nat → Nat → UInt8) : List (List (KI .u8)) := (List.range R).map (fun i => rwF C (F i))
theorem rwF_len {C : Nat} {f : Nat → UInt8} : (rwF C f).length = C := by simp [rwF]
theorem gdF_len {R C : Nat} {F : Nat → Nat → UInt8} : (gdF R C F).length = R := by simp [gdF]
theorem rwF_bytes {C : Nat} {f : Nat → UInt8} : rwF C f = bytesL ⟨(List.range C).map f⟩ := by simp [rwF, bytesL, List.map_map, Function.comp_def]
theorem strB_rwF {C : Nat} {f : Nat → UInt8} : strB (rwF C f) = ⟨(List.range C).map f⟩ := by rw [rwF_bytes, strB_bytes]
theorem rwF_congr {C : Nat} {f g : Nat → UInt8} (h : ∀ k, k < C → f k = g k) : rwF C f = rwF C g := List.map_congr_left fun k hk => by rw [h k (by simpa using hk)]
theorem gdF_congr {R C : Nat} {F G : Nat → Nat → UInt8} (h : ∀ i, i < R → ∀ k, k < C → F i k = G i k) : gdF R C F = gdF R C G := List.map_congr_left fun i hi => rwF_congr (h i (by simpa using hi))
theorem gdF_at {R C : Nat} {F : Nat → Nat → UInt8} {i : Nat} (hi : i < R) : gx (gdF R C F) (i : Int) = rwF C (F i) := by
  rw [gx_nat (by rw [gdF_len]; exact hi)]; simp [gdF]
theorem rwF_set {C : Nat} {f : Nat → UInt8} {k : Nat} (v : UInt8) : (rwF C f).set k ⟨(v.toNat : Int)⟩ = rwF C (fun j => if j = k then v else f j) := by
  apply List.ext_getElem
  · simp [rwF]
  · intro j h1 h2
    rw [List.getElem_set]
    by_cases e : k = j
    · subst e; simp [rwF]
    · have : ¬ j = k := fun h => e h.symm
      simp [rwF, e, this]
theorem gdF_set {R C : Nat} {F : Nat → Nat → UInt8} {i : Nat} (g : Nat → UInt8) : (gdF R C F).set i (rwF C g) = gdF R C (fun j => if j = i then g else F j) := by
  apply List.ext_getElem
  · simp [gdF]
  · intro j h1 h2
    rw [List.getElem_set]
    by_cases e : i = j
    · subst e; simp [gdF]
    · have : ¬ j = i := fun h => e h.symm
      simp [gdF, e, this]
theorem repeat_dots (C : Nat) : bytesL (repeatS (⟨[46]⟩ : Str) (C : Int)) = rwF C (fun _ => 46) := by
  rw [rwF_bytes]
  congr 1
  have : ∀ n, Go.Lib.repeatL ([46] : List UInt8) n = (List.range n).map (fun _ => (46 : UInt8)) := by
    intro n
    have h : (List.range n).map (fun _ => (46 : UInt8)) = List.replicate n 46 := by simp [List.map_const']
    rw [h]
    induction n with
    | zero => rfl
    | succ n ih => rw [Go.Lib.repeatL, ih (by simp [List.map_const'])]; rfl
  simp [repeatS, this]
end Go.DB
