/-
  A way has the fewest bends, and of these the least length: the law in plain words.
-/
import Derived.Test.YtjkfpjpepjjhlaaRabPuCheap2
import Derived.Test.YtjkfpjpepjjhlaaRabPuBend2
import Derived.Test.YtjkfpjpepjjhlaaRabPuIsWay
set_option linter.unusedSimpArgs false
set_option linter.unusedVariables false
namespace Go.DB
open Go Go.RowKit

theorem BendsOf_eq {t : Task} {l : List Point} (hw : WayC t l) : ref_BendsOf l = some ((l.length : Int) - 2) := by
  obtain ⟨h1, h2⟩ := pathErr_zero.1 hw.path
  have hl := (ptsErr_zero.1 h1).1
  have h1l := (isPath_iff.1 h2).1
  obtain ⟨e, he, hp⟩ := loop_nat (body := ref_BendsOf_L1 l) (fun i => ((i : Int) - 1, (i : Int))) (fun e => e = (l.length : Int) - 2) 1 (l.length - 1) (by omega) (fun i a b => by
    left
    have hf := hw.turns i a b
    unfold flagAt at hf
    have hf' : decide ((decide (((gx l ((i : Int) - 1)).X) = ((gx l (i : Int)).X))) = (decide (((gx l (i : Int)).X) = ((gx l ((i : Int) + 1)).X)))) = false := by
      rw [decide_eq_false_iff_not]; exact hf
    unfold ref_BendsOf_L1
    rw [Wk (n := (i : Int) + 1) (by omega) (by omega), Wk (n := (i : Int) - 1) (by omega) (by omega), decide_eq_true (show (i : Int) + 1 < (l.length : Int) by omega)]
    simp only [cond_true, bnd_eq]
    rw [need_of ⟨by omega, by omega⟩, need_of ⟨by omega, by omega⟩, need_of ⟨by omega, by omega⟩, need_of ⟨by omega, by omega⟩, hf']
    simp only [Bool.not_false, cond_true, bind_sm]
    rw [Wk (by omega) (by omega), show (i : Int) - 1 + 1 = ((i + 1 : Nat) : Int) - 1 by omega, show (i : Int) + 1 = ((i + 1 : Nat) : Int) by omega]) ⟨_, by
      unfold ref_BendsOf_L1
      rw [Wk (n := ((l.length - 1 : Nat) : Int) + 1) (by omega) (by omega), decide_eq_false (show ¬ ((l.length - 1 : Nat) : Int) + 1 < (l.length : Int) by omega)]; rfl, by omega⟩
  unfold ref_BendsOf
  rw [show ((0 : Int), (1 : Int)) = ((((1 : Nat) : Int) - 1), ((1 : Nat) : Int)) from rfl, he, hp]; rfl

theorem RoutesAreBest_true (t : Task) (other : List Point) (ht : fits t) : law_RoutesAreBest t other = some true := by
  have hwl : (t.Walls.length : Int) ≤ 9223372036854775807 := by
    have := ht.2.2.2.2.1.1
    omega
  unfold law_RoutesAreBest
  rw [TaskError_eq hwl, routes_eq]
  by_cases hc : taskErr t = 0
  · have h := task_ok hc
    obtain ⟨fr, to, hE, r, hr, hcase⟩ := Route_eq h hc hwl
    obtain ⟨rc, hrc, k1, k2⟩ := Cheapest_eq h hE
    have hfew : law_few t = some (decide ((t.Walls.length : Int) ≤ 6)) := rfl
    rw [hr, bind_sm, hc, bind_sm, bind_sm, hfew, bind_sm]
    simp only [decide_true, Bool.not_true, Bool.or_self, cond_false]
    rcases hcase with ⟨rfl, hno⟩ | ⟨b1, b2, way, b, n, hF, rfl⟩
    · rw [hrc, k1 hno]
      cases decide ((t.Walls.length : Int) ≤ 6) <;> simp
    · have hfb := few_bends h hE hF
      obtain ⟨hW, hlen, hlu⟩ := hF.right h hE hfb
      have e2 := (k2 b1 b2 way b n hF)
      generalize t.From :: cor t way ++ [t.To] = l at *
      have hp := hW.path
      have hpts := (pathErr_zero.1 hp).1
      have hll := (ptsErr_zero.1 hpts).1
      have h1l := (isPath_iff.1 (pathErr_zero.1 hp).2).1
      have hub := lenUpto_bd hpts l.length (Nat.le_refl _)
      have c1 := h.c1
      have e2 := e2 (by omega)
      subst e2
      obtain ⟨iw, hiw, iwi⟩ := IsWay_val h hpts
      have := iwi.2 hW
      subst this
      rw [hrc, hiw]
      cases decide ((t.Walls.length : Int) ≤ 6) with
      | false => simp
      | true =>
        simp only [Bool.not_true, cond_false, bind_sm, decide_true, gd_true, Bool.or_self, Bool.not_false]
        rw [BendsOf_eq hW, LengthOf_eq hpts (by omega)]
        simp only [bind_sm]
        rw [show (l.length : Int) - 2 = b by omega, decide_eq_true rfl, hlu]
        simp only [decide_true, Bool.not_true, Bool.or_self, Bool.not_false, gd_true, bind_sm, cond_false]
        rw [PointsError_eq]
        simp only [bind_sm]
        by_cases c : ptsErr other = 0
        · obtain ⟨io, hio, ioi⟩ := IsWay_val h c
          rw [c, hio]
          cases io with
          | false => simp
          | true =>
            have hWo := ioi.1 rfl
            have hon := (isPath_iff.1 (pathErr_zero.1 hWo.path).2).1
            simp only [decide_true, Bool.not_true, Bool.not_false, gd_true, bind_sm, Bool.or_self, cond_false]
            rw [BendsOf_eq hWo, LengthOf_eq c (by omega)]
            simp only [bind_sm]
            obtain ⟨w, b', n', htr, hle⟩ := path_rch h hWo hE
            have := hF.least _ _ _ htr
            by_cases c3 : b < (other.length : Int) - 2
            · rw [decide_eq_true c3]; rfl
            · rw [decide_eq_false c3, decide_eq_true (by omega), decide_eq_true (by omega)]; rfl
        · rw [decide_eq_false c]; simp
  · unfold route_Route
    rw [route_Check_eq hwl, bind_sm]
    simp [hc]
end Go.DB
