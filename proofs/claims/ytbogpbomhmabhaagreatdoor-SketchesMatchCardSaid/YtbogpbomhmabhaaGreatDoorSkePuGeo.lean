/-
  Points and paths are looked at alike.
-/
import Derived.Test.YtbogpbomhmabhaaGreatDoorSkePuRef
set_option linter.unusedSimpArgs false
set_option linter.unusedVariables false
namespace Go.DB
open Go Go.RowKit

def outC (n : Int) : Bool := decide (n < -1000000) || decide (1000000 < n)
def ptErr (p : Point) : Int := if outC p.X = true ∨ outC p.Y = true then 3 else 0
def okP (p : Point) : Prop := -1000000 ≤ p.X ∧ p.X ≤ 1000000 ∧ -1000000 ≤ p.Y ∧ p.Y ≤ 1000000
theorem ptErr_zero {p : Point} : ptErr p = 0 ↔ okP p := by
  unfold ptErr okP outC
  simp only [Bool.or_eq_true, decide_eq_true_eq]
  constructor
  · intro h
    by_cases a : (p.X < -1000000 ∨ 1000000 < p.X) ∨ p.Y < -1000000 ∨ 1000000 < p.Y
    · rw [if_pos a] at h; omega
    · omega
  · intro h
    rw [if_neg (by omega)]
theorem ptErr_cases (p : Point) : ptErr p = 0 ∨ ptErr p = 3 := by unfold ptErr; split <;> simp
def ptsErr (l : List Point) : Int := if 1000 < l.length then 4 else firstErr (l.map ptErr)
theorem ptsErr_zero {l : List Point} : ptsErr l = 0 ↔ l.length ≤ 1000 ∧ ∀ p ∈ l, okP p := by
  unfold ptsErr
  by_cases h : 1000 < l.length
  · simp [h]; omega
  · rw [if_neg h, firstErr_zero]
    constructor
    · intro h2; exact ⟨by omega, fun p hp => ptErr_zero.1 (h2 _ (List.mem_map_of_mem hp))⟩
    · rintro ⟨_, h2⟩ e he
      obtain ⟨p, hp, rfl⟩ := List.mem_map.1 he
      exact ptErr_zero.2 (h2 p hp)

theorem CheckPoint_eq (p : Point) : geom_CheckPoint p = some (ptErr p) := by
  unfold geom_CheckPoint geom_out ptErr outC
  simp only [bind_sm]
  cases h1 : (decide (p.X < -1000000) || decide (1000000 < p.X)) <;> cases h2 : (decide (p.Y < -1000000) || decide (1000000 < p.Y)) <;> simp [h1, h2]
theorem PointError_eq (p : Point) : ref_PointError p = some (ptErr p) := by
  unfold ref_PointError ptErr
  simp only [In_eq, bind_sm, When_eq]
  by_cases h1 : -1000000 ≤ p.X ∧ p.X ≤ 1000000
  · have h1' : outC p.X = false := by unfold outC; simp; omega
    by_cases h2 : -1000000 ≤ p.Y ∧ p.Y ≤ 1000000
    · have h2' : outC p.Y = false := by unfold outC; simp; omega
      simp [h1, h2, h1', h2']
    · have h2' : outC p.Y = true := by unfold outC; simp; omega
      simp [h1, h2, h1', h2']
  · have h1' : outC p.X = true := by unfold outC; simp; omega
    simp [h1, h1']
theorem points_eq {l : List Point} (hl : (l.length : Int) ≤ 9223372036854775807) : geom_points l = some (firstErr (l.map ptErr)) := by
  unfold geom_points
  rw [rforE_err ptErr (fun e => Res.ab e) hl (fun i hi => by
    unfold geom_points_L1
    rw [need_of hi]
    simp only [bnd_eq, CheckPoint_eq, bind_sm]
    by_cases h : ptErr (gx l i) = 0 <;> simp [h])]
  by_cases h : firstErr (l.map ptErr) = 0
  · simp only [if_pos h, bindR_nx]; rw [h]
  · simp only [if_neg h, bindR_ab]
theorem CheckPoints_eq (l : List Point) : geom_CheckPoints l = some (ptsErr l) := by
  unfold geom_CheckPoints ptsErr
  by_cases h : 1000 < l.length
  · have : (1000 : Int) < l.length := by omega
    simp [h, this]
  · have : ¬ (1000 : Int) < l.length := by omega
    simp only [this, decide_false, cond_false, if_neg h]
    rw [points_eq (by omega)]; rfl
theorem PointsError_eq (l : List Point) : ref_PointsError l = some (ptsErr l) := by
  unfold ref_PointsError ptsErr
  by_cases h : 1000 < l.length
  · have : (1000 : Int) < l.length := by omega
    simp [h, this]
  · have : ¬ (1000 : Int) < l.length := by omega
    simp only [this, decide_false, cond_false, if_neg h]
    rw [rforE_err ptErr (fun e => Res.ab e) (by omega) (fun i hi => by
      unfold ref_PointsError_L1
      rw [need_of hi]
      simp only [bnd_eq, PointError_eq, bind_sm]
      by_cases h : ptErr (gx l i) = 0 <;> simp [h])]
    by_cases h : firstErr (l.map ptErr) = 0
    · simp only [if_pos h, bindR_nx]; rw [h]
    · simp only [if_neg h, bindR_ab]

/-! Paths. -/

/-- At i a path doesn't go across or down. -/
def badAt (l : List Point) (i : Nat) : Prop := decide ((gx l i).X = (gx l ((i : Int) - 1)).X) = decide ((gx l i).Y = (gx l ((i : Int) - 1)).Y)
instance (l : List Point) : DecidablePred (badAt l) := fun i => by unfold badAt; infer_instance
open Classical in
noncomputable def isPath (l : List Point) : Bool := decide (1 < l.length ∧ ¬ ∃ i, 1 ≤ i ∧ i < l.length ∧ badAt l i)
noncomputable def pathErr (l : List Point) : Int := if ptsErr l = 0 then (if isPath l = true then 0 else 2) else ptsErr l
/-- How far apart two points are, across and down. -/
def farI (a b : Point) : Int := max (a.X - b.X) (-(a.X - b.X)) + max (a.Y - b.Y) (-(a.Y - b.Y))
/-- How long a path is up to its point i - 1. -/
def lenUpto (l : List Point) : Nat → Int
  | 0 => 0
  | i + 1 => lenUpto l i + (if i = 0 then 0 else farI (gx l ((i : Int) - 1)) (gx l i))
end Go.DB
