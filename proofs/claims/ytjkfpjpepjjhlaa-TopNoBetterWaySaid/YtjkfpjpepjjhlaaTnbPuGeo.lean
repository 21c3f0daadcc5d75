/-
  Points and paths are looked at alike.
-/
import Derived.Test.YtjkfpjpepjjhlaaTnbPuRef
set_option linter.unusedSimpArgs false
set_option linter.unusedVariables false
namespace Go.DB
open Go Go.RowKit

def outC (n : Int) : Bool := decide (n < -1000000) || decide (1000000 < n)
def ptErr (p : Point) : Int := if outC p.X = true ∨ outC p.Y = true then 3 else 0
def okP (p : Point) : Prop := -1000000 ≤ p.X ∧ p.X ≤ 1000000 ∧ -1000000 ≤ p.Y ∧ p.Y ≤ 1000000
theorem ptErr_zero {p : Point} : ptErr p = 0 ↔ okP p := by
  unfold ptErr okP outC
  simp only [Bool.or_eq_true, decide_eq_true_eq]
  constructor
  · intro h
    by_cases a : (p.X < -1000000 ∨ 1000000 < p.X) ∨ p.Y < -1000000 ∨ 1000000 < p.Y
    · rw [if_pos a] at h; omega
    · omega
  · intro h
    rw [if_neg (by omega)]
def ptsErr (l : List Point) : Int := if 1000 < l.length then 4 else firstErr (l.map ptErr)
theorem ptsErr_zero {l : List Point} : ptsErr l = 0 ↔ l.length ≤ 1000 ∧ ∀ p ∈ l, okP p := by
  unfold ptsErr
  by_cases h : 1000 < l.length
  · simp [h]; omega
  · rw [if_neg h, firstErr_zero]
    constructor
    · intro h2; exact ⟨by omega, fun p hp => ptErr_zero.1 (h2 _ (List.mem_map_of_mem hp))⟩
    · rintro ⟨_, h2⟩ e he
      obtain ⟨p, hp, rfl⟩ := List.mem_map.1 he
      exact ptErr_zero.2 (h2 p hp)

theorem CheckPoint_eq (p : Point) : geom_CheckPoint p = some (ptErr p) := by
  unfold geom_CheckPoint geom_out ptErr outC
  simp only [bind_sm]
  cases h1 : (decide (p.X < -1000000) || decide (1000000 < p.X)) <;> cases h2 : (decide (p.Y < -1000000) || decide (1000000 < p.Y)) <;> simp [h1, h2]
theorem points_eq {l : List Point} (hl : (l.length : Int) ≤ 9223372036854775807) : geom_points l = some (firstErr (l.map ptErr)) := by
  unfold geom_points
  rw [rforE_err ptErr (fun e => Res.ab e) hl (fun i hi => by
    unfold geom_points_L1
    rw [need_of hi]
    simp only [bnd_eq, CheckPoint_eq, bind_sm]
    by_cases h : ptErr (gx l i) = 0 <;> simp [h])]
  by_cases h : firstErr (l.map ptErr) = 0
  · simp only [if_pos h, bindR_nx]; rw [h]
  · simp only [if_neg h, bindR_ab]
theorem CheckPoints_eq (l : List Point) : geom_CheckPoints l = some (ptsErr l) := by
  unfold geom_CheckPoints ptsErr
  by_cases h : 1000 < l.length
  · have : (1000 : Int) < l.length := by omega
    simp [h, this]
  · have : ¬ (1000 : Int) < l.length := by omega
    simp only [this, decide_false, cond_false, if_neg h]
    rw [points_eq (by omega)]; rfl

/-! Paths. -/

/-- At i a path doesn't go across or down. -/
def badAt (l : List Point) (i : Nat) : Prop := decide ((gx l i).X = (gx l ((i : Int) - 1)).X) = decide ((gx l i).Y = (gx l ((i : Int) - 1)).Y)
instance (l : List Point) : DecidablePred (badAt l) := fun i => by unfold badAt; infer_instance
open Classical in
noncomputable def isPath (l : List Point) : Bool := decide (1 < l.length ∧ ¬ ∃ i, 1 ≤ i ∧ i < l.length ∧ badAt l i)
noncomputable def pathErr (l : List Point) : Int := if ptsErr l = 0 then (if isPath l = true then 0 else 2) else ptsErr l
theorem pathErr_zero {l : List Point} : pathErr l = 0 ↔ ptsErr l = 0 ∧ isPath l = true := by
  unfold pathErr
  by_cases h : ptsErr l = 0
  · by_cases h2 : isPath l = true <;> simp [h, h2]
  · simp [h]
theorem isPath_iff {l : List Point} : isPath l = true ↔ 1 < l.length ∧ ∀ i, 1 ≤ i → i < l.length → ¬ badAt l i := by
  simp only [isPath, decide_eq_true_eq]
  exact ⟨fun ⟨h1, h2⟩ => ⟨h1, fun i a b c => h2 ⟨i, a, b, c⟩⟩, fun ⟨h1, h2⟩ => ⟨h1, fun ⟨i, a, b, c⟩ => h2 i a b c⟩⟩

theorem CheckPath_eq (l : List Point) : geom_CheckPath l = some (pathErr l) := by
  unfold geom_CheckPath pathErr
  rw [CheckPoints_eq]
  simp only [bind_sm]
  by_cases h : ptsErr l = 0
  · have hl := (ptsErr_zero.1 h).1
    simp only [h, decide_true, Bool.not_true, cond_false, if_true]
    by_cases h2 : l.length < 2
    · have : (l.length : Int) < 2 := by omega
      have h3 : ¬ isPath l = true := fun h => by have := (isPath_iff.1 h).1; omega
      simp [this, h3]
    · have : ¬ (l.length : Int) < 2 := by omega
      simp only [this, decide_false, cond_false]
      classical
      rw [show (1 : Int) = ((1 : Nat) : Int) from rfl, loop_all (ρ := Int) 1 l.length (badAt l) 2 (fun i h1 h2 => by
        unfold geom_CheckPath_L1 badAt
        have e1 : decide ((i : Int) < (l.length : Int)) = true := by simp; omega
        have e2 : W ((i : Int) - 1) = (i : Int) - 1 := Wk (by omega) (by omega)
        have e3 : W ((i : Int) + 1) = (i : Int) + 1 := Wk (by omega) (by omega)
        simp only [e1, e2, e3, cond_true, bnd_eq]
        rw [need_of ⟨by omega, by omega⟩, need_of ⟨by omega, by omega⟩, need_of ⟨by omega, by omega⟩, need_of ⟨by omega, by omega⟩]
        by_cases hb : decide ((gx l i).X = (gx l ((i : Int) - 1)).X) = decide ((gx l i).Y = (gx l ((i : Int) - 1)).Y)
        · simp [hb]
        · simp only [hb, decide_false, cond_false, if_false]) (fun i h => by
        unfold geom_CheckPath_L1
        have e1 : decide ((i : Int) < (l.length : Int)) = false := by simp; omega
        simp only [e1, cond_false])]
      by_cases hb : ∃ i, 1 ≤ i ∧ i < l.length ∧ badAt l i
      · have h3 : ¬ isPath l = true := fun h => by obtain ⟨i, a, b, c⟩ := hb; exact (isPath_iff.1 h).2 i a b c
        rw [if_pos hb, bindR_ab, if_neg h3]
      · have h3 : isPath l = true := isPath_iff.2 ⟨by omega, fun i a b c => hb ⟨i, a, b, c⟩⟩
        rw [if_neg hb, bindR_nx, if_pos h3]
  · simp [h]

theorem okP_at {l : List Point} (h : ptsErr l = 0) {i : Int} (hi : inR l i) : okP (gx l i) := (ptsErr_zero.1 h).2 _ (gx_mem hi)

/-- How far apart two points are, across and down. -/
def farI (a b : Point) : Int := max (a.X - b.X) (-(a.X - b.X)) + max (a.Y - b.Y) (-(a.Y - b.Y))
theorem farI_bd {a b : Point} (ha : okP a) (hb : okP b) : 0 ≤ farI a b ∧ farI a b ≤ 4000000 := by unfold farI okP at *; omega
theorem apart_eq {a b : Point} (ha : okP a) (hb : okP b) : geom_apart a b = some (farI a b) := by
  unfold okP at ha hb
  unfold geom_apart
  simp only [bnd_eq]
  rw [Wk (n := a.X - b.X) (by omega) (by omega), Wk (n := a.Y - b.Y) (by omega) (by omega), Wk (n := -(a.X - b.X)) (by omega) (by omega), Wk (n := -(a.Y - b.Y)) (by omega) (by omega), Wk (by omega) (by omega)]; rfl

/-- How long a path is up to its point i - 1. -/
def lenUpto (l : List Point) : Nat → Int
  | 0 => 0
  | i + 1 => lenUpto l i + (if i = 0 then 0 else farI (gx l ((i : Int) - 1)) (gx l i))
theorem lenUpto_bd {l : List Point} (h : ptsErr l = 0) : ∀ i : Nat, i ≤ l.length → 0 ≤ lenUpto l i ∧ lenUpto l i ≤ i * 4000000
  | 0, _ => by simp [lenUpto]
  | i + 1, hi => by
    have ih := lenUpto_bd h i (by omega)
    unfold lenUpto
    by_cases h0 : i = 0
    · subst h0; simp at ih ⊢; omega
    · have hb := farI_bd (okP_at h (i := (i : Int) - 1) ⟨by omega, by omega⟩) (okP_at h (i := (i : Int)) ⟨by omega, by omega⟩)
      rw [if_neg h0]
      push_cast
      omega

theorem length_eq {l : List Point} (h : ptsErr l = 0) (h1 : 1 ≤ l.length) : geom_length l = some (lenUpto l l.length) := by
  have hl := (ptsErr_zero.1 h).1
  unfold geom_length
  obtain ⟨e, he, hp⟩ := loop_nat (body := geom_length_L1 l) (fun i => (lenUpto l i, (i : Int))) (fun e => e = lenUpto l l.length) 1 l.length h1 (fun i a b => by
    left
    have hb := lenUpto_bd h i (by omega)
    have k1 := okP_at h (i := (i : Int) - 1) ⟨by omega, by omega⟩
    have k2 := okP_at h (i := (i : Int)) ⟨by omega, by omega⟩
    have hf := farI_bd k1 k2
    unfold geom_length_L1
    have e1 : decide ((i : Int) < (l.length : Int)) = true := by simp; omega
    have e2 : W ((i : Int) - 1) = (i : Int) - 1 := Wk (by omega) (by omega)
    have e3 : W ((i : Int) + 1) = (i : Int) + 1 := Wk (by omega) (by omega)
    simp only [e1, e2, e3, cond_true, bnd_eq]
    rw [need_of ⟨by omega, by omega⟩, need_of ⟨by omega, by omega⟩, apart_eq k1 k2]
    simp only [bind_sm]
    rw [Wk (by omega) (by omega)]
    have : ¬ i = 0 := by omega
    simp [lenUpto, this]) ⟨_, by unfold geom_length_L1; simp, rfl⟩
  have : ((0 : Int), (1 : Int)) = (lenUpto l 1, ((1 : Nat) : Int)) := by simp [lenUpto]
  rw [this, he, hp]; rfl
theorem Length_eq (l : List Point) : geom_Length l = some (if pathErr l = 0 then lenUpto l l.length else 0, pathErr l) := by
  unfold geom_Length
  rw [CheckPath_eq]
  simp only [bind_sm]
  by_cases h : pathErr l = 0
  · obtain ⟨h1, h2⟩ := pathErr_zero.1 h
    simp only [h, decide_true, Bool.not_true, cond_false, if_true]
    rw [length_eq h1 (by have := (isPath_iff.1 h2).1; omega)]; rfl
  · simp [h]
end Go.DB
