/-
  Outlines, ports, and sides that face each other: the law.
-/
import Derived.Test.YthopjimlhjgoiaaOutPuPort
import Derived.Test.YthopjimlhjgoiaaOutPuFont
set_option linter.unusedSimpArgs false
set_option linter.unusedVariables false
namespace Go.DB
open Go Go.RowKit

def kindErr (k : Int) : Int := if 1 ≤ k ∧ k ≤ 5 then 0 else 1
def portErr (side at_ : Int) : Int := if 1 ≤ side ∧ side ≤ 4 ∧ 0 ≤ at_ ∧ at_ ≤ 1000 then 0 else 3
theorem ShapeError_eq (k : Int) : ref_ShapeError k = some (kindErr k) := by
  unfold ref_ShapeError kindErr
  simp only [In_eq, When_eq, bind_sm]
  by_cases h : 1 ≤ k ∧ k ≤ 5 <;> simp [h]
theorem PortError_eq (side at_ : Int) : ref_PortError side at_ = some (portErr side at_) := by
  unfold ref_PortError portErr
  simp only [In_eq, When_eq, bind_sm]
  by_cases h : 1 ≤ side ∧ side ≤ 4
  · by_cases h2 : 0 ≤ at_ ∧ at_ ≤ 1000
    · have : 1 ≤ side ∧ side ≤ 4 ∧ 0 ≤ at_ ∧ at_ ≤ 1000 := ⟨h.1, h.2, h2⟩
      rw [if_pos this]; simp [h, h2]
    · have : ¬ (1 ≤ side ∧ side ≤ 4 ∧ 0 ≤ at_ ∧ at_ ≤ 1000) := fun x => h2 x.2.2
      rw [if_neg this]; simp [h, h2]
  · have : ¬ (1 ≤ side ∧ side ≤ 4 ∧ 0 ≤ at_ ∧ at_ ≤ 1000) := fun x => h ⟨x.1, x.2.1⟩
    rw [if_neg this]; simp [h]
theorem Gap_eq {a b : Box} (ha : okB a) (hb : okB b) : ∃ x y, 0 ≤ x ∧ 0 ≤ y ∧ geom_Gap a b = some (x, y, 0) ∧ ref_GapOf a b = some (x, y) := by
  have e : geom_boxes [a, b] = some 0 := by
    unfold geom_boxes
    rw [rforE_err boxErr (fun e => (Res.ab e : Res Unit Int)) (by simp) (fun i hi => by
      unfold geom_boxes_L1
      rw [need_of hi]
      simp only [bnd_eq, CheckBox_eq, bind_sm]
      by_cases c : boxErr (gx [a, b] i) = 0 <;> simp [c])]
    have : firstErr (List.map boxErr [a, b]) = 0 := by simp [boxErr_zero.2 ha, boxErr_zero.2 hb]
    rw [this]; rfl
  unfold okB at ha hb
  refine ⟨max (max a.X b.X - min (a.X + a.W_) (b.X + b.W_)) 0, max (max a.Y b.Y - min (a.Y + a.H) (b.Y + b.H)) 0, by omega, by omega, ?_, ?_⟩
  · unfold geom_Gap
    rw [e]
    simp only [bind_sm, decide_true, Bool.not_true, cond_false]
    rw [Wk (n := a.X + a.W_) (by omega) (by omega), Wk (n := b.X + b.W_) (by omega) (by omega), Wk (n := a.Y + a.H) (by omega) (by omega), Wk (n := b.Y + b.H) (by omega) (by omega), Wk (by omega) (by omega), Wk (by omega) (by omega)]
  · unfold ref_GapOf
    rw [Wk (n := b.X - a.X) (by omega) (by omega), Wk (n := a.X - b.X) (by omega) (by omega), Wk (n := b.Y - a.Y) (by omega) (by omega), Wk (n := a.Y - b.Y) (by omega) (by omega), Wk (by omega) (by omega), Wk (by omega) (by omega), Wk (by omega) (by omega), Wk (by omega) (by omega)]
    congr 2 <;> omega
theorem Gap_err {a b : Box} (h : firstErr [boxErr a, boxErr b] ≠ 0) : geom_Gap a b = some (0, 0, firstErr [boxErr a, boxErr b]) := by
  have e : geom_boxes [a, b] = some (firstErr [boxErr a, boxErr b]) := by
    unfold geom_boxes
    rw [rforE_err boxErr (fun e => (Res.ab e : Res Unit Int)) (by simp) (fun i hi => by
      unfold geom_boxes_L1
      rw [need_of hi]
      simp only [bnd_eq, CheckBox_eq, bind_sm]
      by_cases c : boxErr (gx [a, b] i) = 0 <;> simp [c])]
    have e2 : List.map boxErr [a, b] = [boxErr a, boxErr b] := rfl
    rw [e2, if_neg h]; rfl
  unfold geom_Gap
  rw [e]
  have : (!decide (firstErr [boxErr a, boxErr b] = 0)) = true := by simp only [h, decide_false, Bool.not_false]
  simp only [bind_sm, this, cond_true]

theorem facing_true {b c : Box} : (Option.bind (shape_Facing b c) fun r12 =>
      Option.bind (ref_BoxError b) fun r13 =>
      Option.bind (ref_BoxError c) fun r14 =>
      Option.bind (ref_First [r13, r14]) fun want1 =>
      bif !decide (want1 = 0) then (
        some (((decide (r12.1 = 0)) && (decide (r12.2.1 = 0))) && (decide (r12.2.2 = want1))))
      else (
        Option.bind (ref_FacingOf b c) fun r15 =>
        some (((decide (r12.2.2 = 0)) && (decide (r12.1 = r15.1))) && (decide (r12.2.1 = r15.2))))) = some true := by
  have hF : ∀ a c : Int, ref_First [a, c] = some (firstErr [a, c]) := fun a c => First_eq (by simp)
  simp only [BoxError_eq, bind_sm, hF]
  by_cases h : firstErr [boxErr b, boxErr c] = 0
  · rw [firstErr_zero] at h
    have hb := boxErr_zero.1 (h (boxErr b) (by simp))
    have hc := boxErr_zero.1 (h (boxErr c) (by simp))
    obtain ⟨x, y, x0, y0, g1, g2⟩ := Gap_eq hb hc
    have e0 : firstErr [boxErr b, boxErr c] = 0 := firstErr_zero.2 h
    unfold shape_Facing ref_FacingOf
    rw [g1, g2, e0]
    simp only [bind_sm, decide_true, Bool.not_true, cond_false]
    have ex : (!decide (x = 0)) = decide (0 < x) := by rw [Bool.eq_iff_iff]; simp; omega
    have ey : (!decide (y = 0)) = decide (0 < y) := by rw [Bool.eq_iff_iff]; simp; omega
    rw [ex, ey]
    cases h1 : (decide (0 < x) && decide (y ≤ x)) && decide (b.X < c.X) with
    | true => simp
    | false =>
      cases h2 : (decide (0 < x) && decide (y ≤ x)) with
      | true => simp
      | false =>
        cases h3 : (decide (0 < y) && decide (b.Y < c.Y)) with
        | true => simp
        | false => cases decide (0 < y) <;> simp
  · unfold shape_Facing
    rw [Gap_err h]
    have e1 : (!decide (firstErr [boxErr b, boxErr c] = 0)) = true := by simp only [h, decide_false, Bool.not_false]
    simp only [bind_sm, e1, cond_true, decide_true, Bool.and_self]

theorem OutlinesMatch_true (kind : Int) (b c : Box) (p : Point) (side at_ : Int) : law_OutlinesMatch kind b c p side at_ = some true := by
  have hF : ∀ a c : Int, ref_First [a, c] = some (firstErr [a, c]) := fun a c => First_eq (by simp)
  unfold law_OutlinesMatch
  simp only [ShapeError_eq, BoxError_eq, bind_sm, hF, shapes_eq, PointError_eq, Bool.not_true, Bool.not_false, gd_true]
  -- where a point is
  have hHas : (Option.bind (shape_Has kind b p) fun r3 => law_is_int r3.1 r3.2 (firstErr [firstErr [kindErr kind, boxErr b], ptErr p]) (law_OutlinesMatch_1 kind b p)) = some true := by
    unfold shape_Has shape_isKind law_is_int law_OutlinesMatch_1
    simp only [bind_sm, CheckBox_eq, CheckPoint_eq]
    by_cases c1 : 1 ≤ kind ∧ kind ≤ 5
    · have e1 : (decide (1 ≤ kind) && decide (kind ≤ 5)) = true := by simpa using c1
      have k1 : kindErr kind = 0 := by unfold kindErr; rw [if_pos c1]
      by_cases c2 : boxErr b = 0
      · by_cases c3 : ptErr p = 0
        · have hp := ptErr_zero.1 c3
          unfold okP at hp
          obtain ⟨r, q1, q2⟩ := has_both (k := kind) (boxErr_zero.1 c2) (p := p) (by omega) (by omega) (by omega) (by omega)
          simp [e1, k1, c2, c3, q1, q2]
        · simp [e1, k1, c2, c3]
      · simp [e1, k1, c2]
    · have e1 : (decide (1 ≤ kind) && decide (kind ≤ 5)) = false := by simp; omega
      have k1 : kindErr kind = 1 := by unfold kindErr; rw [if_neg c1]
      simp [e1, k1]
  have hPort : (Option.bind (shape_Port kind b side at_) fun r8 => Option.bind (ref_PortError side at_) fun r9 => Option.bind (ref_First [firstErr [kindErr kind, boxErr b], r9]) fun r10 => law_is_Point r8.1 r8.2 r10 (law_OutlinesMatch_2 kind b side at_)) = some true := by
    simp only [PortError_eq, bind_sm, hF]
    by_cases c1 : 1 ≤ kind ∧ kind ≤ 5
    · have e1 : (decide (1 ≤ kind) && decide (kind ≤ 5)) = true := by simpa using c1
      have k1 : kindErr kind = 0 := by unfold kindErr; rw [if_pos c1]
      by_cases c2 : boxErr b = 0
      · by_cases c3 : 1 ≤ side ∧ side ≤ 4 ∧ 0 ≤ at_ ∧ at_ ≤ 1000
        · obtain ⟨q, q1, q2, _⟩ := port_both (k := kind) (boxErr_zero.1 c2) c1 c3.1 c3.2.1 c3.2.2.1 c3.2.2.2
          have k3 : portErr side at_ = 0 := by unfold portErr; rw [if_pos c3]
          unfold law_is_Point law_OutlinesMatch_2
          simp [q1, q2, k1, c2, k3, bnd_eq]
        · have k3 : portErr side at_ = 3 := by unfold portErr; rw [if_neg c3]
          have e3 : (((decide (side < 1) || decide (4 < side)) || decide (at_ < 0)) || decide (1000 < at_)) = true := by simp; omega
          unfold shape_Port shape_isKind law_is_Point
          simp [e1, k1, c2, k3, e3, CheckBox_eq, bnd_eq]
      · unfold shape_Port shape_isKind law_is_Point
        simp [e1, k1, c2, CheckBox_eq, bnd_eq]
    · have e1 : (decide (1 ≤ kind) && decide (kind ≤ 5)) = false := by simp; omega
      have k1 : kindErr kind = 1 := by unfold kindErr; rw [if_neg c1]
      unfold shape_Port shape_isKind law_is_Point
      simp [e1, k1, bnd_eq]
  cases h3 : shape_Has kind b p with
  | none => rw [h3] at hHas; cases hHas
  | some r3 =>
    rw [h3] at hHas
    simp only [bind_sm] at hHas ⊢
    rw [hHas]
    simp only [bind_sm, Bool.not_true, Bool.or_self, cond_false]
    cases h8 : shape_Port kind b side at_ with
    | none => rw [h8] at hPort; cases hPort
    | some r8 =>
      rw [h8] at hPort
      simp only [PortError_eq, bind_sm, hF] at hPort ⊢
      rw [hPort]
      simp only [bind_sm, Bool.not_true, cond_false]
      have := facing_true (b := b) (c := c)
      simp only [BoxError_eq, bind_sm, hF] at this
      exact this

end Go.DB
