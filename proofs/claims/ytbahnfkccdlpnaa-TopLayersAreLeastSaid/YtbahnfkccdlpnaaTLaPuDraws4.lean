/-
  Draw's parts: where a node wants to be, one row that is placed.
-/
import Derived.Test.YtbahnfkccdlpnaaTLaPuDraws3
set_option linter.unusedSimpArgs false
set_option linter.unusedVariables false
namespace Go.DB
open Go Go.RowKit

/-- What Draw is called with. -/
structure DrawIn (n : Nat) (sizes : List Point) (l : List Link) (r : List Int) (gapx gapy : Int) : Prop where
  n1 : 1 ≤ n ∧ n ≤ 60
  slen : sizes.length = n
  sB : ∀ k : Int, 0 ≤ k → k < n → (1 ≤ (gx sizes k).X ∧ (gx sizes k).X ≤ 1000) ∧ 1 ≤ (gx sizes k).Y ∧ (gx sizes k).Y ≤ 1000
  gx1 : 0 ≤ gapx ∧ gapx ≤ 1000
  gy1 : 0 ≤ gapy ∧ gapy ≤ 1000
  ok : OKl n l
  rlen : r.length = n
  rB : ∀ k : Int, 0 ≤ k → k < n → 0 ≤ gx r k ∧ gx r k ≤ 60
  kept : ∀ i, inR l i → gx r (gx l i).From + 1 ≤ gx r (gx l i).To

theorem tdiv_bd {a b M : Int} (hb : 1 ≤ b) (h1 : -(b * M) ≤ a) (h2 : a ≤ b * M) (hM : 0 ≤ M) : -M ≤ a.tdiv b ∧ a.tdiv b ≤ M := by
  have e := Int.mul_tdiv_add_tmod a b
  have t2 := Int.tmod_lt_of_pos a (show 0 < b by omega)
  have t1 : -b < a.tmod b := by have := Int.tmod_lt_of_pos (-a) (show 0 < b by omega); rw [Int.neg_tmod] at this; omega
  constructor
  · rcases Int.lt_or_le (a.tdiv b) (-M) with c | c
    · exfalso
      have h3 : b * (a.tdiv b + 1) ≤ b * (-M) := Int.mul_le_mul_of_nonneg_left (by omega) (by omega)
      rw [Int.mul_add, Int.mul_one, Int.mul_neg] at h3
      omega
    · exact c
  · rcases Int.lt_or_le M (a.tdiv b) with c | c
    · exfalso
      have h3 : b * (M + 1) ≤ b * (a.tdiv b) := Int.mul_le_mul_of_nonneg_left (by omega) (by omega)
      rw [Int.mul_add, Int.mul_one] at h3
      omega
    · exact c
theorem half_bd {a : Int} (h1 : 0 ≤ a) (h2 : a ≤ 1000) : 0 ≤ a.tdiv 2 ∧ a.tdiv 2 ≤ 500 := by
  rw [Int.tdiv_eq_ediv_of_nonneg h1]; omega

section
variable {n : Nat} {sizes : List Point} {l : List Link} {r : List Int} {gapx gapy : Int}

/-- Where a node wants to be lies near those above it. -/
theorem middle_eq (h : DrawIn n sizes l r gapx gapy) {out : List Point} (ho : out.length = n) {k M : Int} (k0 : 0 ≤ k) (k1 : k < n) (hM : 0 ≤ M ∧ M ≤ 1000000) (hX : ∀ j : Int, 0 ≤ j → j < n → gx r j < gx r k → -M ≤ (gx out j).X ∧ (gx out j).X ≤ M) :
    ∃ w, layer_middle k r l out sizes = some w ∧ -(M + 1000) ≤ w ∧ w ≤ M + 1000 := by
  have hll := h.ok.1
  unfold layer_middle
  obtain ⟨s, s1, s2, s3, s4, s5⟩ := rfor_inv (n := (l.length : Int)) (step := layer_middle_L1 k l r out sizes) (s0 := ((0 : Int), (0 : Int))) (fun i s => 0 ≤ s.2 ∧ s.2 ≤ i ∧ -(s.2 * (M + 500)) ≤ s.1 ∧ s.1 ≤ s.2 * (M + 500)) (by omega) (by simp) (fun i s hi hI => by
    obtain ⟨i1, i2, i3, i4⟩ := hI
    have hi' : inR l (i : Int) := ⟨by omega, hi⟩
    obtain ⟨a, b, d⟩ := h.ok.2 _ hi'
    have hk := h.rlen
    have hF : inR r (gx l (i : Int)).From := ⟨a.1, by rw [hk]; exact a.2⟩
    unfold layer_middle_L1
    rw [need_of hi', bnd_eq, need_of (fun _ => hF), need_of (fun _ => ⟨k0, by rw [hk]; exact k1⟩)]
    have hmul : s.2 * (M + 500) ≤ 200 * 1000500 := Int.mul_le_mul (by omega) (by omega) (by omega) (by omega)
    by_cases c : (gx l (i : Int)).To = k ∧ gx r (gx l (i : Int)).From < gx r k
    · rw [decide_eq_true c.1, decide_eq_true c.2, Bool.and_self, cond_true, need_of ⟨a.1, by rw [ho]; exact a.2⟩, need_of ⟨a.1, by rw [h.slen]; exact a.2⟩]
      have hx := hX _ a.1 a.2 c.2
      have hs := (h.sB _ a.1 a.2).1
      have hh := half_bd (by omega) hs.2
      have e : (s.2 + 1) * (M + 500) = s.2 * (M + 500) + (M + 500) := by rw [Int.add_mul, Int.one_mul]
      rw [Wk (n := (gx out (gx l (i : Int)).From).X + ((gx sizes (gx l (i : Int)).From).X).tdiv 2) (by omega) (by omega), Wk (by omega) (by omega), bnd_eq, Wk (by omega) (by omega), bnd_eq]
      refine ⟨_, rfl, ?_⟩
      simp only
      rw [e]
      push_cast
      omega
    · have : (decide ((gx l (i : Int)).To = k) && decide (gx r (gx l (i : Int)).From < gx r k)) = false := by
        rw [← Bool.not_eq_true, Bool.and_eq_true, decide_eq_true_iff, decide_eq_true_iff]; exact c
      rw [this, cond_false]
      refine ⟨_, rfl, ?_⟩
      simp only
      push_cast
      omega)
  rw [s1, Option.bind_some]
  by_cases c : s.2 = 0
  · rw [decide_eq_true c, cond_true]
    exact ⟨0, rfl, by omega, by omega⟩
  · rw [decide_eq_false c, cond_false, need_of (by omega), need_of ⟨k0, by rw [h.slen]; exact k1⟩]
    have hq := tdiv_bd (a := s.1) (b := s.2) (M := M + 500) (by omega) s4 s5 (by omega)
    have hs := (h.sB k k0 k1).1
    have hh := half_bd (by omega) hs.2
    refine ⟨_, rfl, ?_⟩
    rw [Wk (by omega) (by omega)]
    omega

/-- Offsets of small boxes. -/
theorem offF_small {size : List Int} {gap : Int} (hg : 0 ≤ gap ∧ gap ≤ 1000) : ∀ {i : Nat}, (∀ j : Nat, j < i → 1 ≤ gx size (j : Int) ∧ gx size (j : Int) ≤ 1000) → 0 ≤ offF size gap i ∧ offF size gap i ≤ i * 2000
  | 0, _ => by simp [offF]
  | i + 1, hs => by
    have ih := offF_small hg (i := i) (fun j hj => hs j (by omega))
    have := hs i (by omega)
    have e : offF size gap (i + 1) = offF size gap i + gx size (i : Int) + gap := rfl
    rw [e]; push_cast; omega
theorem offF_mono {size : List Int} {gap : Int} (hg : 0 ≤ gap) {m : Nat} (hs : ∀ j : Nat, j < m → 1 ≤ gx size (j : Int)) : ∀ {i j : Nat}, i ≤ j → j ≤ m → offF size gap i ≤ offF size gap j := by
  intro i j hij hj
  induction j with
  | zero => rw [Nat.le_zero.1 hij]; exact Int.le_refl _
  | succ j ih =>
    rcases Nat.lt_or_ge i (j + 1) with c | c
    · have := ih (by omega) (by omega)
      have := hs j (by omega)
      have e : offF size gap (j + 1) = offF size gap j + gx size (j : Int) + gap := rfl
      omega
    · rw [show i = j + 1 by omega]; exact Int.le_refl _
/-- Boxes that are placed by near keep their gaps and stay near what they want. -/
theorem near_place {want size : List Int} {gap B : Int} (hlen : want.length = size.length) (hle : want.length ≤ 60) (h1 : 1 ≤ want.length) (hB : 0 ≤ B ∧ B ≤ 1000000) (hw : ∀ i : Nat, i < want.length → -B ≤ gx want (i : Int) ∧ gx want (i : Int) ≤ B)
    (hs : ∀ i : Nat, i < want.length → 1 ≤ gx size (i : Int) ∧ gx size (i : Int) ≤ 1000) (hg : 0 ≤ gap ∧ gap ≤ 1000) : ∃ out, layer_near want size gap = some out ∧ out.length = want.length ∧
    (∀ i : Nat, i < want.length → -(B + want.length * 2000) ≤ gx out (i : Int) ∧ gx out (i : Int) ≤ B + want.length * 2000) ∧ ∀ i j : Nat, i < j → j < want.length → gx out (i : Int) + gx size (i : Int) + gap ≤ gx out (j : Int) := by
  have hN : NearOK want size gap := ⟨hlen, by omega, fun i hi => by have := hw i hi; omega, fun i hi => by have := hs i hi; omega, hg⟩
  obtain ⟨out, K, o1, o2, o3, o4, _⟩ := near_eq hN h1
  obtain ⟨_, v2, _, _⟩ := vals_facts hN
  have hm : ∀ x, x ∈ vals want size gap → ∃ i : Nat, i < want.length ∧ lvl want size gap i = x := fun x hx => by
    obtain ⟨_, a2⟩ := compactI_strict (sortI_pw (tabI want.length (lvl want size gap)))
    obtain ⟨i, hi, e⟩ := List.mem_map.1 (sortI_mem.1 ((a2 x).1 hx))
    exact ⟨i, List.mem_range.1 hi, e⟩
  have hoff : ∀ i : Nat, i ≤ want.length → 0 ≤ offF size gap i ∧ offF size gap i ≤ want.length * 2000 := fun i hi => by
    have := offF_small (size := size) hg (i := i) (fun j hj => hs j (by omega))
    omega
  refine ⟨out, o1, o2, fun i hi => ?_, fun i j hij hj => ?_⟩
  · obtain ⟨a, b⟩ := o3 i hi
    obtain ⟨t, t1, t2⟩ := hm _ (gx_mem (l := vals want size gap) (k := (K i : Int)) ⟨by omega, by omega⟩)
    have := hw t t1
    have := hoff t (by omega)
    have := hoff i (by omega)
    unfold vl at b
    unfold lvl at t2
    omega
  · obtain ⟨a, b⟩ := o3 i (by omega)
    obtain ⟨a', b'⟩ := o3 j hj
    have hk := o4 i j (by omega) hj
    have hv : vl want size gap (K i) ≤ vl want size gap (K j) := by
      unfold vl
      rcases Nat.lt_or_eq_of_le hk with c | c
      · have := v2 (K i) (K j) c a'; omega
      · rw [c]; exact Int.le_refl _
    have hmo := offF_mono (size := size) hg.1 (m := want.length) (fun j hj => (hs j hj).1) (i := i + 1) (j := j) (by omega) (by omega)
    have e : offF size gap (i + 1) = offF size gap i + gx size (i : Int) + gap := rfl
    omega
end
end Go.DB
