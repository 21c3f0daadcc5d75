/-
  What Route returns is tidy: the law in plain words.
-/
import Derived.Test.YtjkfpjpepjjhlaaLitPuBend2
set_option linter.unusedSimpArgs false
set_option linter.unusedVariables false
namespace Go.DB
open Go Go.RowKit

theorem tidy_step (l : List Point) (i : Nat) : tidyUpto l (i + 1) = tidyUpto l i ++ (if kept l i = true then [gx l (i : Int)] else []) := by
  rw [tidyUpto]; split <;> simp
theorem Tidy_eq (l : List Point) : geom_Tidy l = some (if pathErr l = 0 then tidyUpto l l.length else [], pathErr l) := by
  unfold geom_Tidy
  rw [CheckPath_eq]
  simp only [bind_sm]
  by_cases h : pathErr l = 0
  · obtain ⟨h1, h2⟩ := pathErr_zero.1 h
    have hl := (ptsErr_zero.1 h1).1
    have h1l := (isPath_iff.1 h2).1
    simp only [h, decide_true, Bool.not_true, cond_false, if_true, bnd_eq]
    rw [need_of ⟨by omega, by omega⟩]
    have en : W ((l.length : Int) - 1) = (l.length : Int) - 1 := Wk (by omega) (by omega)
    rw [en]
    obtain ⟨e, he, hp⟩ := loop_nat (body := geom_Tidy_L1 l) (fun i => (tidyUpto l i, (i : Int))) (fun e => e = tidyUpto l (l.length - 1)) 1 (l.length - 1) (by omega) (fun i a b => by
      left
      have ht := tidyUpto_len l i
      unfold geom_Tidy_L1
      have e0 : decide ((i : Int) < (l.length : Int) - 1) = true := by simp; omega
      have e2 : W ((i : Int) - 1) = (i : Int) - 1 := Wk (by omega) (by omega)
      have e3 : W ((i : Int) + 1) = (i : Int) + 1 := Wk (by omega) (by omega)
      simp only [en, e0, e2, e3, cond_true, bnd_eq]
      have g1 : inR l ((i : Int) - 1) := ⟨by omega, by omega⟩
      have g2 : inR l (i : Int) := ⟨by omega, by omega⟩
      have g3 : inR l ((i : Int) + 1) := ⟨by omega, by omega⟩
      rw [need_of g1, need_of g2, need_of g3]
      have k1 := okP_at h1 g1
      have k2 := okP_at h1 g2
      have k3 := okP_at h1 g3
      have hk : kept l i = !decide (wayI (gx l ((i : Int) - 1)) (gx l i) = wayI (gx l i) (gx l ((i : Int) + 1))) := by
        unfold kept
        have c1 : ¬ i = 0 := by omega
        have c2 : ¬ l.length ≤ i + 1 := by omega
        simp [c1, c2]
      simp only [tidy_step, hk]
      generalize gx l ((i : Int) - 1) = a1 at *
      generalize gx l (i : Int) = a2 at *
      generalize gx l ((i : Int) + 1) = a3 at *
      unfold okP at k1 k2 k3
      simp only [gsign_eq, bind_sm]
      rw [Wk (n := a2.X - a1.X) (by omega) (by omega), Wk (n := a3.X - a2.X) (by omega) (by omega), Wk (n := a2.Y - a1.Y) (by omega) (by omega), Wk (n := a3.Y - a2.Y) (by omega) (by omega)]
      rw [need_of (by rw [room_iff]; simp; omega)]
      by_cases c : sg (a2.X - a1.X) = sg (a3.X - a2.X)
      · by_cases d : sg (a2.Y - a1.Y) = sg (a3.Y - a2.Y)
        · have hw : wayI a1 a2 = wayI a2 a3 := by unfold wayI; rw [c, d]
          unfold sg at c d
          simp [c, d, hw]
        · have hw : ¬ wayI a1 a2 = wayI a2 a3 := fun e => d (congrArg Point.Y e)
          unfold sg at c d
          simp [c, d, hw]
      · have hw : ¬ wayI a1 a2 = wayI a2 a3 := fun e => c (congrArg Point.X e)
        unfold sg at c
        simp [c, hw]) ⟨_, by
          unfold geom_Tidy_L1
          have e0 : decide (((l.length - 1 : Nat) : Int) < (l.length : Int) - 1) = false := by simp; omega
          simp only [en, e0, cond_false], rfl⟩
    have hstart : ([gx l 0], (1 : Int)) = (tidyUpto l 1, ((1 : Nat) : Int)) := by simp [tidy_step, tidyUpto, kept]
    rw [hstart, he, hp]
    simp only [bind_sm]
    have ht := tidyUpto_len l (l.length - 1)
    rw [need_of ⟨by omega, by omega⟩, need_of (by rw [room_iff]; simp; omega)]
    have hfin : tidyUpto l l.length = tidyUpto l (l.length - 1) ++ [gx l ((l.length : Int) - 1)] := by
      have hx : l.length = (l.length - 1) + 1 := by omega
      conv => lhs; rw [hx]
      have hk : kept l (l.length - 1) = true := by
        unfold kept
        have : l.length ≤ l.length - 1 + 1 := by omega
        simp [this]
      have hc : ((l.length - 1 : Nat) : Int) = (l.length : Int) - 1 := by omega
      simp only [tidy_step, hk, if_true, hc]
    rw [hfin]
  · simp [h]

/-- At its whole length a path has its last point. -/
theorem At_end {l : List Point} (h : pathErr l = 0) : geom_At l (lenUpto l l.length) = some (gx l ((l.length : Int) - 1), 0) := by
  obtain ⟨h1, h2⟩ := pathErr_zero.1 h
  have hl := (ptsErr_zero.1 h1).1
  have h1l := (isPath_iff.1 h2).1
  have hlb := lenUpto_bd h1 l.length (Nat.le_refl _)
  have hlast : inR l ((l.length : Int) - 1) := ⟨by omega, by omega⟩
  obtain ⟨e, he, hp⟩ := loop_nat (body := geom_At_L1 l) (fun i => (lenUpto l l.length - lenUpto l i, (i : Int))) (fun e => e = .ab (gx l ((l.length : Int) - 1), 0)) 1 (l.length - 1) (by omega) (fun i a b => by
    left
    have g1 : inR l ((i : Int) - 1) := ⟨by omega, by omega⟩
    have g2 : inR l (i : Int) := ⟨by omega, by omega⟩
    have k1 := okP_at h1 g1
    have k2 := okP_at h1 g2
    have hb := lenUpto_bd h1 i (by omega)
    have hnext := lenUpto_next (l := l) a
    have hm := lenUpto_mono h (show 1 ≤ i + 1 by omega) l.length (by omega) (Nat.le_refl _)
    have hf := farI_bd k1 k2
    unfold geom_At_L1
    rw [decide_eq_true (show ((i : Nat) : Int) < (l.length : Int) by omega), cond_true, Wk (n := (i : Int) - 1) (by omega) (by omega), need_of g1, bnd_eq, need_of g2, bnd_eq, apart_eq k1 k2, bind_sm, decide_eq_false (by omega), cond_false, bnd_eq, bnd_eq, Wk (by omega) (by omega), Wk (by omega) (by omega)]
    rw [show lenUpto l l.length - lenUpto l (i + 1) = lenUpto l l.length - lenUpto l i - farI (gx l ((i : Int) - 1)) (gx l (i : Int)) by omega]
    rfl) (by
    have g1 : inR l (((l.length - 1 : Nat) : Int) - 1) := ⟨by omega, by omega⟩
    have g2 : inR l ((l.length - 1 : Nat) : Int) := ⟨by omega, by omega⟩
    have k1 := okP_at h1 g1
    have k2 := okP_at h1 g2
    have hnext := lenUpto_next (l := l) (i := l.length - 1) (by omega)
    rw [show l.length - 1 + 1 = l.length by omega] at hnext
    obtain ⟨s, hs, h3⟩ := stretch_way h (i := l.length - 1) (by omega) (by omega)
    have hd : lenUpto l l.length - lenUpto l (l.length - 1) = farI (gx l (((l.length - 1 : Nat) : Int) - 1)) (gx l ((l.length - 1 : Nat) : Int)) := by omega
    unfold geom_At_L1
    rw [decide_eq_true (show ((l.length - 1 : Nat) : Int) < (l.length : Int) by omega), cond_true, Wk (n := ((l.length - 1 : Nat) : Int) - 1) (by omega) (by omega), need_of g1, bnd_eq, need_of g2, bnd_eq, apart_eq k1 k2, bind_sm]
    simp only
    rw [hd, decide_eq_true (Int.le_refl _), cond_true, gsign_eq, bind_sm, gsign_eq, bind_sm, bnd_eq]
    refine ⟨_, rfl, ?_⟩
    rw [show (l.length : Int) - 1 = ((l.length - 1 : Nat) : Int) by omega]
    have hf := farI_bd k1 k2
    generalize gx l (((l.length - 1 : Nat) : Int) - 1) = a at *
    generalize gx l ((l.length - 1 : Nat) : Int) = b at *
    unfold okP at k1 k2
    rw [Wk (n := b.X - a.X) (by omega) (by omega), Wk (n := b.Y - a.Y) (by omega) (by omega)]
    unfold wayI sg at h3
    simp only [Point.mk.injEq] at h3
    generalize farI a b = f at *
    have hb : b = ⟨b.X, b.Y⟩ := rfl
    congr 2
    rw [hb]
    simp only [Point.mk.injEq]
    rcases h3 with ⟨⟨e1, e2⟩, e3, e4⟩ | ⟨⟨e1, e2⟩, e3, e4⟩ <;> rw [e1, e2] <;> rcases hs with rfl | rfl <;> refine ⟨?_, ?_⟩ <;> (rw [Wk (n := _ * f) (by omega) (by omega), Wk (by omega) (by omega)]; omega))
  have hstart : (lenUpto l l.length, (1 : Int)) = (lenUpto l l.length - lenUpto l 1, ((1 : Nat) : Int)) := by simp [lenUpto]
  unfold geom_At
  rw [Length_eq]
  have c1 : (decide (lenUpto l l.length < 0) || decide (lenUpto l l.length < lenUpto l l.length)) = false := by simp; omega
  simp only [bnd_eq, bind_sm, h, if_true, decide_true, Bool.not_true, cond_false, c1]
  rw [hstart, he, hp]
  rfl

theorem LinesAreTidy_true (t : Task) (ht : fits t) : law_LinesAreTidy t = some true := by
  have hwl : (t.Walls.length : Int) ≤ 9223372036854775807 := by
    have := ht.2.2.2.2.1.1
    omega
  unfold law_LinesAreTidy
  by_cases hc : taskErr t = 0
  · have h := task_ok hc
    obtain ⟨fr, to, hE, r, hr, hcase⟩ := Route_eq h hc hwl
    rw [hr, bind_sm]
    rcases hcase with ⟨rfl, _⟩ | ⟨_, _, way, b, n, hF, rfl⟩
    · simp
    · obtain ⟨hW, hlen, _⟩ := hF.right h hE (few_bends h hE hF)
      generalize t.From :: cor t way ++ [t.To] = l at *
      have hp := hW.path
      have hn : ¬ ∃ i, 1 ≤ i ∧ i < l.length - 1 ∧ flagAt l i := fun ⟨i, a, b, c⟩ => hW.turns i a b c
      have hll := (ptsErr_zero.1 (pathErr_zero.1 hp).1).1
      simp only [decide_true, Bool.not_true, cond_false]
      rw [Tidy_eq, if_pos hp, tidy_same hp hn, bind_sm, Length_eq, if_pos hp, bind_sm]
      simp only
      rw [At_end hp, bind_sm, hp, decide_eq_true (rfl : (0 : Int) = 0), gd_true, Equal_Point_eq _ _ (by omega), bind_sm, hW.last]
      simp
  · unfold route_Route
    rw [route_Check_eq hwl, bind_sm]
    simp [hc]
end Go.DB
