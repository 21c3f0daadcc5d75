/-
  Tasks and paths the other way round.
-/
import Derived.Test.YtjkfpjpepjjhlaaTnbPuBend2
import Derived.Test.YtjkfpjpepjjhlaaTnbPuRightV
set_option linter.unusedSimpArgs false
set_option linter.unusedVariables false
namespace Go.DB
open Go Go.RowKit

def backT (t : Task) : Task := ⟨t.To, t.ToSide, t.From, t.FromSide, t.Walls, t.Clear⟩
theorem zn_back (t : Task) : zn (backT t) = zn t := rfl
theorem XL_back {t : Task} {v : Int} : v ∈ XL (backT t) ↔ v ∈ XL t := by
  unfold XL
  rw [gridOf_mem, gridOf_mem]
  have : ∀ n, n ∈ xv (backT t) ↔ n ∈ xv t := fun n => by
    unfold xv
    show n ∈ [(endP t).X, (startP t).X] ++ _ ↔ _
    simp only [List.mem_append, List.mem_cons, List.not_mem_nil, or_false]
    rw [zn_back, show (backT t).Walls = t.Walls from rfl]
    exact ⟨fun h => h.elim (fun h => .inl h.symm) .inr, fun h => h.elim (fun h => .inl h.symm) .inr⟩
  exact ⟨fun ⟨n, h1, h2⟩ => ⟨n, (this n).1 h1, h2⟩, fun ⟨n, h1, h2⟩ => ⟨n, (this n).2 h1, h2⟩⟩
theorem YL_back {t : Task} {v : Int} : v ∈ YL (backT t) ↔ v ∈ YL t := by
  unfold YL
  rw [gridOf_mem, gridOf_mem]
  have : ∀ n, n ∈ yv (backT t) ↔ n ∈ yv t := fun n => by
    unfold yv
    show n ∈ [(endP t).Y, (startP t).Y] ++ _ ↔ _
    simp only [List.mem_append, List.mem_cons, List.not_mem_nil, or_false]
    rw [zn_back, show (backT t).Walls = t.Walls from rfl]
    exact ⟨fun h => h.elim (fun h => .inl h.symm) .inr, fun h => h.elim (fun h => .inl h.symm) .inr⟩
  exact ⟨fun ⟨n, h1, h2⟩ => ⟨n, (this n).1 h1, h2⟩, fun ⟨n, h1, h2⟩ => ⟨n, (this n).2 h1, h2⟩⟩
theorem blk_back (t : Task) (a b : Point) : blkB (backT t) a b = blkB t a b := rfl
theorem task_back {t : Task} (h : taskErr t = 0) : taskErr (backT t) = 0 := by
  unfold taskErr at h ⊢
  rw [firstErr_zero] at h ⊢
  have h7 := h (endsErr t) (by simp)
  have e7 : endsErr (backT t) = 0 := by
    unfold endsErr at h7 ⊢
    show (if 1 ≤ t.Clear ∧ t.Clear ≤ 200 then firstErr [ptErr (endP t), ptErr (startP t)] else 3) = 0
    by_cases c : 1 ≤ t.Clear ∧ t.Clear ≤ 200
    · rw [if_pos c] at h7 ⊢
      rw [firstErr_zero] at h7 ⊢
      intro e he
      simp only [List.mem_cons, List.not_mem_nil, or_false] at he
      exact h7 e (by simp; omega)
    · rw [if_neg c] at h7; omega
  intro e he
  rw [e7] at he
  simp only [List.mem_cons, List.not_mem_nil, or_false] at he
  rcases he with rfl | rfl | rfl | rfl | rfl | rfl | rfl
  · exact h _ (by simp [backT])
  · exact h _ (by simp [backT])
  · exact h _ (by simp [backT])
  · exact h _ (by simp [backT])
  · exact h (if 100 < t.Walls.length then 4 else 0) (by simp)
  · exact h (firstErr (t.Walls.map boxErr)) (by simp)
  · rfl

theorem rgx {α : Type} [Inhabited α] {l : List α} {i : Nat} (h : i < l.length) : gx l.reverse (i : Int) = gx l ((l.length - 1 - i : Nat) : Int) := by
  rw [gx_nat (by simpa using h), gx_nat (by omega), List.getElem_reverse]
theorem far_comm (a b : Point) : farI a b = farI b a := by unfold farI; omega
theorem len_rev (l : List Point) : lenUpto l.reverse l.reverse.length = lenUpto l l.length := by
  have key : ∀ k : Nat, 1 ≤ k → k ≤ l.length → lenUpto l.reverse k = lenUpto l l.length - lenUpto l (l.length - k + 1) := by
    intro k
    induction k with
    | zero => intro h; omega
    | succ k ih =>
      intro _ h2
      by_cases c : k = 0
      · subst c
        have : lenUpto l.reverse (0 + 1) = 0 := by simp [lenUpto]
        rw [this, show l.length - (0 + 1) + 1 = l.length by omega]; omega
      · have ih := ih (by omega) (by omega)
        have e1 := lenUpto_next (l := l.reverse) (i := k) (by omega)
        have e2 := lenUpto_next (l := l) (i := l.length - k) (by omega)
        rw [show ((k : Nat) : Int) - 1 = ((k - 1 : Nat) : Int) by omega, rgx (i := k - 1) (by omega), rgx (i := k) (by omega)] at e1
        rw [show ((l.length - k : Nat) : Int) - 1 = ((l.length - 1 - k : Nat) : Int) by omega] at e2
        rw [show l.length - 1 - (k - 1) = l.length - k by omega, far_comm] at e1
        rw [show l.length - (k + 1) + 1 = l.length - k by omega]
        omega
  rw [List.length_reverse]
  by_cases c : l.length = 0
  · rw [c]; rfl
  · have := key l.length (by omega) (Nat.le_refl _)
    have e : lenUpto l 1 = 0 := by simp [lenUpto]
    rw [Nat.sub_self, Nat.zero_add] at this
    omega

theorem flag_rev {l : List Point} {i : Nat} (h1 : 1 ≤ i) (h2 : i + 1 < l.length) : flagAt l.reverse i → flagAt l (l.length - 1 - i) := by
  unfold flagAt
  rw [show ((i : Nat) : Int) - 1 = ((i - 1 : Nat) : Int) by omega, show ((i : Nat) : Int) + 1 = ((i + 1 : Nat) : Int) by omega, rgx (by omega), rgx (by omega), rgx (by omega)]
  rw [show ((l.length - 1 - i : Nat) : Int) - 1 = ((l.length - 1 - (i + 1) : Nat) : Int) by omega, show ((l.length - 1 - i : Nat) : Int) + 1 = ((l.length - 1 - (i - 1) : Nat) : Int) by omega]
  intro h
  rw [decide_eq_decide] at h ⊢
  exact ⟨fun e => (h.2 e.symm).symm, fun e => (h.1 e.symm).symm⟩

theorem inner_rev {t : Task} {l : List Point} (hn : 2 ≤ l.length) {i : Nat} (hi : i < l.length) : gx (inner (backT t) l.reverse) (i : Int) = gx (inner t l) ((l.length - 1 - i : Nat) : Int) := by
  obtain ⟨a0, a1, a2⟩ := inner_at (t := t) (l := l) hn
  obtain ⟨b0, b1, b2⟩ := inner_at (t := backT t) (l := l.reverse) (by rw [List.length_reverse]; exact hn)
  rw [List.length_reverse] at b1 b2
  by_cases c0 : i = 0
  · subst c0
    rw [show (((0 : Nat) : Int)) = 0 from rfl, b0, show l.length - 1 - 0 = l.length - 1 by omega, a1]; rfl
  · by_cases c1 : i = l.length - 1
    · subst c1
      rw [b1, Nat.sub_self, show (((0 : Nat) : Int)) = 0 from rfl, a0]; rfl
    · rw [b2 i (by omega) (by omega), a2 (l.length - 1 - i) (by omega) (by omega), rgx hi]

/-- A right path, the other way round. -/
theorem WayC.rev {t : Task} {l : List Point} (h : WayC t l) : WayC (backT t) l.reverse := by
  obtain ⟨h1, h2⟩ := pathErr_zero.1 h.path
  obtain ⟨q1, q2⟩ := ptsErr_zero.1 h1
  obtain ⟨hn, hbad⟩ := isPath_iff.1 h2
  have z : ∀ k : Int, k = 0 → k = ((0 : Nat) : Int) := fun k h => h
  have e0 : gx l.reverse 0 = gx l ((l.length : Int) - 1) := by
    have := rgx (l := l) (i := 0) (by omega)
    rw [show ((l.length - 1 - 0 : Nat) : Int) = (l.length : Int) - 1 by omega] at this
    exact this
  have e1 : gx l.reverse 1 = gx l ((l.length : Int) - 2) := by
    have := rgx (l := l) (i := 1) (by omega)
    rw [show ((l.length - 1 - 1 : Nat) : Int) = (l.length : Int) - 2 by omega] at this
    exact this
  have em : gx l.reverse ((l.length : Int) - 1) = gx l 0 := by
    have := rgx (l := l) (i := l.length - 1) (by omega)
    rw [show ((l.length - 1 : Nat) : Int) = (l.length : Int) - 1 by omega, Nat.sub_self] at this
    exact this
  have ek : gx l.reverse ((l.length : Int) - 2) = gx l 1 := by
    have := rgx (l := l) (i := l.length - 2) (by omega)
    rw [show ((l.length - 2 : Nat) : Int) = (l.length : Int) - 2 by omega, show l.length - 1 - (l.length - 2) = 1 by omega] at this
    exact this
  refine ⟨pathErr_zero.2 ⟨ptsErr_zero.2 ⟨by rw [List.length_reverse]; exact q1, fun p hp => q2 p (List.mem_reverse.1 hp)⟩, isPath_iff.2 ⟨by rw [List.length_reverse]; exact hn, fun i a b hb => ?_⟩⟩, ?_, ?_, fun i a b hf => ?_, ?_, ?_, ?_, ?_, fun he => ?_, fun i a b => ?_, fun i a b => ?_⟩
  · rw [List.length_reverse] at b
    refine hbad (l.length - i) (by omega) (by omega) ?_
    unfold badAt at hb ⊢
    rw [show ((i : Nat) : Int) - 1 = ((i - 1 : Nat) : Int) by omega, rgx (by omega), rgx (by omega), show l.length - 1 - (i - 1) = l.length - i by omega, show ((l.length - 1 - i : Nat) : Int) = ((l.length - i : Nat) : Int) - 1 by omega] at hb
    rw [decide_eq_decide] at hb ⊢
    exact ⟨fun e => (hb.1 e.symm).symm, fun e => (hb.2 e.symm).symm⟩
  · rw [e0]; exact h.last
  · rw [List.length_reverse, em]; exact h.first
  · rw [List.length_reverse] at b
    exact h.turns (l.length - 1 - i) (by omega) (by omega) (flag_rev a (by omega) hf)
  · rw [e0, e1, way_back, h.in_, opp_opp]; rfl
  · rw [List.length_reverse, em, ek, way_back, h.out]; rfl
  · rw [e0, e1, far_comm]; exact h.c2
  · rw [List.length_reverse, em, ek, far_comm]; exact h.c1
  · rw [List.length_reverse] at he
    rw [e0, e1, far_comm]
    have := h.c3 he
    rw [show (l.length : Int) - 2 = 0 by omega, show (l.length : Int) - 1 = 1 by omega]
    exact this
  · rw [List.length_reverse] at b
    rw [rgx (by omega)]
    obtain ⟨m1, m2⟩ := h.marks (l.length - 1 - i) (by omega) (by omega)
    exact ⟨XL_back.2 m1, YL_back.2 m2⟩
  · rw [List.length_reverse] at b
    rw [show ((i : Nat) : Int) - 1 = ((i - 1 : Nat) : Int) by omega, inner_rev (by omega) (by omega), inner_rev (by omega) b, blk_back, blk_comm]
    have := h.free (l.length - i) (by omega) (by omega)
    rw [show l.length - 1 - (i - 1) = l.length - i by omega, show ((l.length - 1 - i : Nat) : Int) = ((l.length - i : Nat) : Int) - 1 by omega]
    exact this

theorem Bends_eq {t : Task} {l : List Point} (hw : WayC t l) : geom_Bends l = some ((l.length : Int) - 2, 0) := by
  obtain ⟨h1, h2⟩ := pathErr_zero.1 hw.path
  have hl := (ptsErr_zero.1 h1).1
  have h1l := (isPath_iff.1 h2).1
  obtain ⟨e, he, hp⟩ := loop_nat (body := geom_Bends_L1 l) (fun i => ((i : Int) - 2, (i : Int))) (fun e => e = (l.length : Int) - 2) 2 l.length (by omega) (fun i a b => by
    left
    have hf := hw.turns (i - 1) (by omega) (by omega)
    unfold flagAt at hf
    rw [show ((i - 1 : Nat) : Int) - 1 = (i : Int) - 2 by omega, show ((i - 1 : Nat) : Int) + 1 = (i : Int) by omega, show ((i - 1 : Nat) : Int) = (i : Int) - 1 by omega] at hf
    have hf' : decide ((decide (((gx l ((i : Int) - 2)).X) = ((gx l ((i : Int) - 1)).X))) = (decide (((gx l ((i : Int) - 1)).X) = ((gx l (i : Int)).X)))) = false := by
      rw [decide_eq_false_iff_not]; exact hf
    unfold geom_Bends_L1
    rw [Wk (n := (i : Int) - 2) (by omega) (by omega), Wk (n := (i : Int) - 1) (by omega) (by omega), Wk (n := (i : Int) + 1) (by omega) (by omega), decide_eq_true (show (i : Int) < (l.length : Int) by omega)]
    simp only [cond_true, bnd_eq]
    rw [need_of ⟨by omega, by omega⟩, need_of ⟨by omega, by omega⟩, need_of ⟨by omega, by omega⟩, need_of ⟨by omega, by omega⟩, hf']
    simp only [Bool.not_false, cond_true, bind_sm]
    rw [Wk (by omega) (by omega), show (i : Int) - 2 + 1 = ((i + 1 : Nat) : Int) - 2 by omega, show (i : Int) + 1 = ((i + 1 : Nat) : Int) by omega]) ⟨_, by
      unfold geom_Bends_L1
      rw [decide_eq_false (show ¬ ((l.length : Nat) : Int) < (l.length : Int) by omega)]; rfl, rfl⟩
  unfold geom_Bends
  rw [CheckPath_eq, bind_sm, hw.path]
  simp only [decide_true, Bool.not_true, cond_false]
  rw [show ((0 : Int), (2 : Int)) = ((((2 : Nat) : Int) - 2), ((2 : Nat) : Int)) from rfl, he, hp]; rfl

theorem Right_val {t : Task} (h : TaskOK t) (hc : taskErr t = 0) (hwl : (t.Walls.length : Int) ≤ 9223372036854775807) (l : List Point) : ∃ b e, route_Right t l = some (b, e) ∧ (b = true → e = 0 ∧ WayC t l) ∧ (WayC t l → b = true ∧ e = 0) := by
  unfold route_Right
  rw [route_Check_eq hwl, bind_sm, hc, CheckPoints_eq]
  simp only [decide_true, Bool.not_true, cond_false, bind_sm]
  by_cases c : ptsErr l = 0
  · obtain ⟨b, h1, h2⟩ := right_val h c
    rw [c, h1]
    exact ⟨b, 0, rfl, fun hb => ⟨rfl, h2.1 hb⟩, fun hw => ⟨h2.2 hw, rfl⟩⟩
  · rw [decide_eq_false c]
    exact ⟨false, _, rfl, fun h => (by cases h), fun hw => absurd (pathErr_zero.1 hw.path).1 c⟩

theorem no_way {t : Task} (h : TaskOK t) {fr to : Route_spot} (hE : EndsN t fr to) (hno : blkB t (startP t) (startP t) = true ∨ blkB t (endP t) (endP t) = true ∨ ∀ l b n, ¬ Tr (nxT t) fr to l to b n) {l : List Point} (hw : WayC t l) : False := by
  have hn := (isPath_iff.1 (pathErr_zero.1 hw.path).2).1
  obtain ⟨i0, i1, _⟩ := inner_at (t := t) (l := l) (by omega)
  rcases hno with hb | hb | hb
  · have hf := hw.free 1 (Nat.le_refl _) (by omega)
    rw [show ((1 : Nat) : Int) - 1 = 0 from rfl, i0, blk_comm] at hf
    rw [blk_end hf] at hb; cases hb
  · have hf := hw.free (l.length - 1) (by omega) (by omega)
    rw [i1] at hf
    rw [blk_end hf] at hb; cases hb
  · obtain ⟨w, b, n, htr, _⟩ := path_rch h hw hE
    exact hb _ _ _ htr

theorem TopNoBetterWay_true (t : Task) (other : List Point) (ht : fits t) : top_TopNoBetterWay t other = some true := by
  have hwl : (t.Walls.length : Int) ≤ 9223372036854775807 := by
    have := ht.2.2.2.2.1.1
    omega
  unfold top_TopNoBetterWay
  by_cases hc : taskErr t = 0
  · have h := task_ok hc
    obtain ⟨fr, to, hE, r, hr, hcase⟩ := Route_eq h hc hwl
    obtain ⟨ob, oe, ho1, ho2, ho3⟩ := Right_val h hc hwl other
    rw [hr, ho1, route_Check_eq hwl, hc]
    simp only [bind_sm, decide_true, Bool.not_true, cond_false]
    rcases hcase with ⟨rfl, hno⟩ | ⟨b1, b2, way, b, n, hF, rfl⟩
    · have : ob = false := by
        cases ob with
        | false => rfl
        | true => exact absurd (ho2 rfl).2 (no_way h hE hno)
      rw [this]; rfl
    · obtain ⟨hW, hlen, hlu⟩ := hF.right h hE (few_bends h hE hF)
      generalize t.From :: cor t way ++ [t.To] = l at *
      obtain ⟨lb, le, hl1, hl2, hl3⟩ := Right_val h hc hwl l
      obtain ⟨rfl, rfl⟩ := hl3 hW
      simp only [decide_true, Bool.not_true, cond_false]
      rw [hl1, bind_sm, Length_eq, Bends_eq hW, if_pos hW.path, hW.path]
      simp only [bind_sm, decide_true, Bool.not_true, cond_false, Bool.or_self]
      have hother : (bif ob && decide (oe = 0) then (Option.bind (geom_Length other) fun r7 => Option.bind (geom_Bends other) fun r8 => bif (((!decide (r7.2 = 0)) || (!decide (r8.2 = 0))) || (decide (r8.1 < (l.length : Int) - 2))) || ((decide (r8.1 = (l.length : Int) - 2)) && (decide (r7.1 < lenUpto l l.length))) then some (Res.ab false) else some (Res.nx ()))
          else some (Res.nx ()) : Option (Res Unit Bool)) = some (Res.nx ()) := by
        cases ob with
        | false => rfl
        | true =>
          obtain ⟨rfl, hWo⟩ := ho2 rfl
          obtain ⟨w, b', n', htr, hle⟩ := path_rch h hWo hE
          have := hF.least _ _ _ htr
          rw [Length_eq, Bends_eq hWo, if_pos hWo.path, hWo.path]
          simp only [bind_sm, decide_true, Bool.not_true, cond_false, Bool.or_self, Bool.and_self, cond_true, Bool.false_or]
          have c1 : (decide ((other.length : Int) - 2 < (l.length : Int) - 2) || (decide ((other.length : Int) - 2 = (l.length : Int) - 2) && decide (lenUpto other other.length < lenUpto l l.length))) = false := by
            rw [Bool.eq_false_iff]
            simp only [ne_eq, Bool.or_eq_true, Bool.and_eq_true, decide_eq_true_eq]
            omega
          rw [c1]; rfl
      rw [hother, bindR_nx]
      have hcB := task_back hc
      have hB := task_ok hcB
      obtain ⟨frB, toB, hEB, rB, hrB, hcaseB⟩ := Route_eq hB hcB hwl
      change Option.bind (route_Route (backT t)) _ = _
      rw [hrB, bind_sm]
      rcases hcaseB with ⟨rfl, hno⟩ | ⟨_, _, wayB, bB, nB, hFB, rfl⟩
      · exact absurd hW.rev (no_way hB hEB hno)
      · obtain ⟨hWB, hlenB, hluB⟩ := hFB.right hB hEB (few_bends hB hEB hFB)
        generalize (backT t).From :: cor (backT t) wayB ++ [(backT t).To] = k at *
        obtain ⟨w1, bb1, nn1, htr1, hle1⟩ := path_rch hB hW.rev hEB
        have l1 := hFB.least _ _ _ htr1
        obtain ⟨w2, bb2, nn2, htr2, hle2⟩ := path_rch h (show WayC t k.reverse from hWB.rev) hE
        have l2 := hF.least _ _ _ htr2
        rw [len_rev] at hle1 hle2
        rw [List.length_reverse] at hle1 hle2
        have hcl : (backT t).Clear = t.Clear := rfl
        rw [hcl] at hle1 hluB
        simp only
        rw [Length_eq, Bends_eq hWB, if_pos hWB.path, hWB.path]
        simp only [bind_sm, decide_true, Bool.and_self, Bool.true_and]
        rw [decide_eq_true (by omega), decide_eq_true (by omega)]; rfl
  · unfold route_Route route_Right
    rw [route_Check_eq hwl]
    simp [hc]
end Go.DB
