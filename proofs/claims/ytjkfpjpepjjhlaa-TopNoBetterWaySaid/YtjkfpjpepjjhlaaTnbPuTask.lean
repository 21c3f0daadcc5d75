/-
  Tasks are checked, in plain words.
-/
import Derived.Test.YtjkfpjpepjjhlaaTnbPuBox
set_option linter.unusedSimpArgs false
set_option linter.unusedVariables false
namespace Go.DB
open Go Go.RowKit

def sideErr (s : Int) : Int := if 1 ≤ s ∧ s ≤ 4 then 0 else 3
def tow (s : Int) : Point := if s = 1 then ⟨0, -1⟩ else if s = 2 then ⟨1, 0⟩ else if s = 3 then ⟨0, 1⟩ else ⟨-1, 0⟩
def farP (p d : Point) (n : Int) : Point := ⟨p.X + n * d.X, p.Y + n * d.Y⟩
def startP (t : Task) : Point := farP t.From (tow t.FromSide) t.Clear
def endP (t : Task) : Point := farP t.To (tow t.ToSide) t.Clear
theorem sideErr_zero {s : Int} : sideErr s = 0 ↔ 1 ≤ s ∧ s ≤ 4 := by unfold sideErr; split <;> simp_all
theorem tow_cases (s : Int) : tow s = ⟨0, -1⟩ ∨ tow s = ⟨1, 0⟩ ∨ tow s = ⟨0, 1⟩ ∨ tow s = ⟨-1, 0⟩ := by
  unfold tow
  by_cases h1 : s = 1
  · simp [h1]
  · by_cases h2 : s = 2
    · simp [h2]
    · by_cases h3 : s = 3
      · simp [h3]
      · simp [h1, h2, h3]
def endsErr (t : Task) : Int := if 1 ≤ t.Clear ∧ t.Clear ≤ 200 then firstErr [ptErr (startP t), ptErr (endP t)] else 3
def taskErr (t : Task) : Int := firstErr [ptErr t.From, sideErr t.FromSide, ptErr t.To, sideErr t.ToSide, if 100 < t.Walls.length then 4 else 0, firstErr (t.Walls.map boxErr), endsErr t]
/-- A point that is away from a right one. -/
theorem far_in {p : Point} (hp : okP p) {n : Int} (h1 : 0 ≤ n) (h2 : n ≤ 10000000) (s : Int) : W (p.X + W (n * (tow s).X)) = (farP p (tow s) n).X ∧ W (p.Y + W (n * (tow s).Y)) = (farP p (tow s) n).Y := by
  unfold okP at hp
  unfold farP
  rcases tow_cases s with h | h | h | h <;> rw [h] <;> simp only <;> refine ⟨?_, ?_⟩ <;> (rw [Wk (n := n * _) (by omega) (by omega), Wk (by omega) (by omega)])
theorem toward_eq {s : Int} (h1 : 1 ≤ s) (h2 : s ≤ 4) : route_toward s = some (tow s) := by
  unfold route_toward tow
  simp only [bnd_eq]
  rw [need_of ⟨by omega, by omega⟩]
  have : s = 1 ∨ s = 2 ∨ s = 3 ∨ s = 4 := by omega
  rcases this with rfl | rfl | rfl | rfl <;> rfl
theorem ends_eq {t : Task} (hf : okP t.From) (ht : okP t.To) (h1 : sideErr t.FromSide = 0) (h2 : sideErr t.ToSide = 0) (h3 : 0 ≤ t.Clear) (h4 : t.Clear ≤ 10000000) : route_ends t = some (startP t, endP t) := by
  have a1 := sideErr_zero.1 h1
  have a2 := sideErr_zero.1 h2
  unfold route_ends route_away
  rw [toward_eq a1.1 a1.2, toward_eq a2.1 a2.2]
  simp only [bnd_eq, bind_sm]
  obtain ⟨e1, e2⟩ := far_in hf h3 h4 t.FromSide
  obtain ⟨e3, e4⟩ := far_in ht h3 h4 t.ToSide
  rw [e1, e2, e3, e4]; rfl
theorem route_Check_eq {t : Task} (hw : (t.Walls.length : Int) ≤ 9223372036854775807) : route_Check t = some (taskErr t) := by
  unfold route_Check
  simp only [bnd_eq]
  rw [rforE_err (fun x : Anon_p_side => firstErr [ptErr x.p, sideErr x.side]) (fun e => (Res.ab e : Res Unit Int)) (by simp) (fun i hi => by
    unfold route_Check_L1 route_isSide
    rw [need_of hi]
    simp only [bnd_eq, CheckPoint_eq, bind_sm]
    generalize gx ([(⟨t.From, t.FromSide⟩ : Anon_p_side), (⟨t.To, t.ToSide⟩ : Anon_p_side)]) i = x
    by_cases c : ptErr x.p = 0
    · by_cases c2 : 1 ≤ x.side ∧ x.side ≤ 4
      · have e1 : (decide (1 ≤ x.side) && decide (x.side ≤ 4)) = true := by simpa using c2
        have e2 : sideErr x.side = 0 := sideErr_zero.2 c2
        simp [c, e1, e2]
      · have e1 : (decide (1 ≤ x.side) && decide (x.side ≤ 4)) = false := by simp; omega
        have e2 : sideErr x.side = 3 := by unfold sideErr; rw [if_neg c2]
        simp [c, e1, e2]
    · simp [c])]
  simp only [List.map_cons, List.map_nil]
  unfold taskErr
  by_cases c1 : ptErr t.From = 0
  · by_cases c2 : sideErr t.FromSide = 0
    · by_cases c3 : ptErr t.To = 0
      · by_cases c4 : sideErr t.ToSide = 0
        · simp only [c1, c2, c3, c4, firstErr_cons, firstErr_nil, if_true, bindR_nx]
          by_cases c5 : 100 < t.Walls.length
          · have e5 : decide ((100 : Int) < (t.Walls.length : Int)) = true := by simp; omega
            simp [e5, c5]
          · have e5 : decide ((100 : Int) < (t.Walls.length : Int)) = false := by simp; omega
            simp only [e5, cond_false, c5, if_false, if_true]
            rw [rforE_err boxErr (fun e => (Res.ab e : Res Unit Int)) hw (fun i hi => by
              unfold route_Check_L2
              rw [need_of hi]
              simp only [bnd_eq, CheckBox_eq, bind_sm]
              by_cases c : boxErr (gx t.Walls i) = 0 <;> simp [c])]
            by_cases c6 : firstErr (t.Walls.map boxErr) = 0
            · simp only [c6, if_true, bindR_nx]
              unfold endsErr
              by_cases c7 : 1 ≤ t.Clear ∧ t.Clear ≤ 200
              · have e7 : (decide (t.Clear < 1) || decide (200 < t.Clear)) = false := by simp; omega
                simp only [e7, cond_false, if_pos c7]
                rw [ends_eq (ptErr_zero.1 c1) (ptErr_zero.1 c3) c2 c4 (by omega) (by omega)]
                simp only [bind_sm, CheckPoint_eq]
                by_cases c8 : ptErr (startP t) = 0
                · by_cases c9 : ptErr (endP t) = 0 <;> simp [c8, c9]
                · simp [c8]
              · have e7 : (decide (t.Clear < 1) || decide (200 < t.Clear)) = true := by simp; omega
                simp [e7, c7]
            · simp [c6]
        · simp [c1, c2, c3, c4]
      · simp [c1, c2, c3]
    · simp [c1, c2]
  · simp [c1]

end Go.DB
