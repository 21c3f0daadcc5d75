/-
  Whoever has the same operations has the same state; undone and done again nothing has changed: the law.
-/
import Derived.Test.YtlkebjlooppdlaaGreatDoorTEMPuMeet4
set_option linter.unusedSimpArgs false
set_option linter.unusedVariables false
namespace Go.DB
open Go Go.RowKit

theorem opsErr_one : opsErr [zeroOp] = 5 := by
  unfold opsErr
  rw [if_neg (by simp)]
  show firstErr [opAt [zeroOp] 0] = 5
  have : opAt [zeroOp] 0 = 5 := by
    unfold opAt
    have : nameB (gx [zeroOp] ((0 : Nat) : Int)).Stamp.Site = false := by
      cases h : nameB (gx [zeroOp] ((0 : Nat) : Int)).Stamp.Site with
      | false => rfl
      | true => exact absurd rfl (nameB_ne h)
    rw [if_pos this]; rfl
  rw [this]; rfl
theorem same_AttrT (s : List Attr) (hl : (s.length : Int) ≤ 9223372036854775807) : slices_Equal_Attr s s = some true := by
  unfold slices_Equal_Attr
  simp only [decide_true, Bool.not_true, cond_false]
  rw [rforE_same rfl hl (fun i hi => by
    unfold slices_Equal_Attr_L1
    rw [need_of ⟨by omega, by omega⟩, need_of ⟨by omega, by omega⟩, gx_nat hi]
    simp)]
  simp
theorem same_self {s : List Thing} (hl : (s.length : Int) ≤ 9223372036854775807) (ha : ∀ x ∈ s, (x.Attrs.length : Int) ≤ 9223372036854775807) : top_same s s = some true := by
  unfold top_same slices_EqualFunc_Thing
  simp only [decide_true, Bool.not_true, cond_false]
  rw [rforE_any (fun _ => false) (Res.ab false) hl (fun i hi => by
    unfold slices_EqualFunc_Thing_L1
    have hs : top_same_1 (gx s i) (gx s i) = some true := by
      unfold top_same_1
      rw [same_AttrT _ (ha _ (gx_mem hi))]
      simp
    rw [need_of hi, bnd_eq, need_of hi, bnd_eq, hs]; rfl)]
  simp
theorem filter_sum (p : DOp → Bool) : ∀ l : List DOp, (l.filter p).length + (l.filter (fun x => !p x)).length = l.length
  | [] => rfl
  | x :: l => by
    have := filter_sum p l
    cases h : p x with
    | true => rw [List.filter_cons_of_pos h, List.filter_cons_of_neg (by simp [h])]; simp only [List.length_cons]; omega
    | false => rw [List.filter_cons_of_neg (by simp [h]), List.filter_cons_of_pos (by simp [h])]; simp only [List.length_cons]; omega
theorem part_eq {m : List DOp × Int} (cut : Int) (hl : m.1.length ≤ 2000) : rfor (m.1.length : Int) (top_TopEditsMeet_L1 m cut) ([] : List DOp) = some (m.1.filter fun x => decide (x.Stamp.No ≤ cut)) := by
  have hg := rfor_gather (l := m.1) (step := top_TopEditsMeet_L1 m cut) (fun v => if v.Stamp.No ≤ cut then [v] else []) [] (fun v _ => by split <;> simp) (by simp; omega) (fun i s hi hs => by
    unfold top_TopEditsMeet_L1
    rw [need_of hi, bnd_eq]
    by_cases q : (gx m.1 i).Stamp.No ≤ cut
    · rw [decide_eq_true q, cond_true, if_pos q, need_of (by rw [room_iff]; simp; omega)]
    · rw [decide_eq_false q, cond_false, if_neg q, List.append_nil])
  rw [hg, List.nil_append]
  congr 1
  generalize m.1 = l
  induction l with
  | nil => rfl
  | cons v l ih =>
    rw [List.flatMap_cons, ih, List.filter_cons]
    by_cases q : v.Stamp.No ≤ cut
    · rw [if_pos q, if_pos (by simpa using q)]; rfl
    · rw [if_neg q, if_neg (by simpa using q)]; rfl
theorem TopEditsMeet_true (a b c : List DOp) (cut : Int) (site : Str) : top_TopEditsMeet a b c cut site = some true := by
  unfold top_TopEditsMeet
  have h5 := opsErr_one
  unfold zeroOp at h5
  rw [Check_eq, h5, Option.bind_some, decide_eq_true (rfl : (5 : Int) = 5), Bool.not_true, cond_false]
  obtain ⟨m, m1, m2, m3⟩ := Merge_inv a b
  rw [m1, Option.bind_some]
  by_cases z : m.2 = 0
  case neg =>
    rw [decide_eq_false z, m2 z]; rfl
  obtain ⟨ha, hb, hm, hmem⟩ := m3 z
  have hml := (opsErr_len hm).1
  have hal := (opsErr_len ha).1
  rw [decide_eq_true z, Bool.not_true, cond_false, Check_eq, Option.bind_some, bnd_eq]
  -- the other way round
  obtain ⟨n, n1, n2, n3⟩ := Merge_inv b a
  rw [n1, Option.bind_some]
  have hba : opsErr b = 0 → n = (m.1, 0) := fun h => by
    have := Merge_ok h hal hm (fun x => by rw [hmem]; simp only [List.mem_append]; exact or_comm)
    rw [n1] at this
    exact Option.some.inj this
  have e1 : (Option.bind (gd (decide (opsErr b = 0) && !(!decide (n.2 = 0))) (slices_Equal_Op m.1 n.1)) fun r5 => (some (decide (opsErr b = 0) && ((!decide (n.2 = 0)) || (!r5))) : Option Bool)) = some false := by
    by_cases h : opsErr b = 0
    · rw [hba h, decide_eq_true h]
      simp only [decide_true, Bool.not_true, Bool.not_false, Bool.true_and, gd_true, Bool.false_or]
      rw [Equal_Op_self _ (by omega)]; rfl
    · rw [decide_eq_false h]; rfl
  obtain ⟨r5, g1, g2⟩ := Option.bind_eq_some_iff.1 e1
  rw [g1, Option.bind_some, Option.some.inj g2, cond_false]
  -- three of them
  obtain ⟨x, x1, x2, x3⟩ := Merge_inv m.1 c
  rw [x1, Option.bind_some]
  have e2 : (Option.bind (gd (decide (x.2 = 0) && decide (opsErr b = 0)) (edit_Check c)) fun r7 => (some ((decide (x.2 = 0) && decide (opsErr b = 0)) && decide (r7 = 0)) : Option Bool)) = some ((decide (x.2 = 0) && decide (opsErr b = 0)) && decide (opsErr c = 0)) := by
    rw [Check_eq]
    cases decide (x.2 = 0) && decide (opsErr b = 0) <;> rfl
  obtain ⟨r7, g3, g4⟩ := Option.bind_eq_some_iff.1 e2
  rw [g3, Option.bind_some, Option.some.inj g4]
  have e3 : (bif ((decide (x.2 = 0)) && decide (opsErr b = 0)) && (decide (opsErr c = 0)) then (
      Option.bind (edit_Merge b c) fun r8 =>
      Option.bind (edit_Merge a r8.1) fun r9 =>
      Option.bind (gd (!((!decide (r8.2 = 0)) || (!decide (r9.2 = 0)))) (slices_Equal_Op x.1 r9.1)) fun r10 =>
      bif ((!decide (r8.2 = 0)) || (!decide (r9.2 = 0))) || (!r10) then (
       some (Res.ab false))
      else (
       some (Res.nx ())))
     else (
      some (Res.nx ()))) = (some (Res.nx ()) : Option (Res Unit Bool)) := by
    by_cases h : x.2 = 0 ∧ opsErr b = 0 ∧ opsErr c = 0
    · obtain ⟨hx, hb0, hc0⟩ := h
      obtain ⟨_, hcl, hx0, hxm⟩ := x3 hx
      rw [decide_eq_true hx, decide_eq_true hb0, decide_eq_true hc0]
      simp only [Bool.and_self, cond_true]
      have hxl := (opsErr_len hx0).1
      have hbx : ∀ o, o ∈ b → o ∈ x.1 := fun o ho => (hxm o).2 (List.mem_append.2 (.inl ((hmem o).2 (List.mem_append.2 (.inr ho)))))
      have hcx : ∀ o, o ∈ c → o ∈ x.1 := fun o ho => (hxm o).2 (List.mem_append.2 (.inr ho))
      have hbc := some_right hx0 (fun o => decide (o ∈ b) || decide (o ∈ c)) (by
        have hg := (opsErr_good hb0).or (opsErr_good hc0)
        intro o ho
        have ho2 : o ∈ b ∨ o ∈ c := by simpa using ho.2
        obtain ⟨q1, q2⟩ := hg o ho2
        refine ⟨q1, fun hn => ?_⟩
        obtain ⟨y, y1, y2⟩ := q2 hn
        exact ⟨y, ⟨y1.elim (hbx y) (hcx y), by simpa using y1⟩, y2⟩)
      have hbcm : ∀ o, o ∈ x.1.filter (fun o => decide (o ∈ b) || decide (o ∈ c)) ↔ o ∈ b ++ c := fun o => by
        rw [List.mem_filter, List.mem_append]
        simp only [Bool.or_eq_true, decide_eq_true_eq]
        exact ⟨fun h => h.2, fun h => ⟨h.elim (hbx o) (hcx o), h⟩⟩
      have hbcl := List.length_filter_le (fun o => decide (o ∈ b) || decide (o ∈ c)) x.1
      rw [Merge_ok hb0 hcl hbc hbcm, Option.bind_some]
      simp only
      rw [Merge_ok ha (by omega) hx0 (fun o => by
        rw [hxm, List.mem_append, hmem, List.mem_append, List.mem_append, hbcm, List.mem_append]
        exact or_assoc), Option.bind_some]
      simp only [decide_true, Bool.not_true, Bool.or_self, Bool.not_false, gd_true]
      rw [Equal_Op_self _ (by omega)]; rfl
    · have : ((decide (x.2 = 0) && decide (opsErr b = 0)) && decide (opsErr c = 0)) = false := by
        rw [Bool.eq_false_iff]
        intro e
        simp only [Bool.and_eq_true, decide_eq_true_eq] at e
        exact h ⟨e.1.1, e.1.2, e.2⟩
      rw [this]; rfl
  rw [e3, bindR_nx, part_eq cut hml, Option.bind_some]
  -- a part
  have hp : opsErr (m.1.filter fun x => decide (x.Stamp.No ≤ cut)) = 0 := some_right hm _ (fun o ho => by
    obtain ⟨q1, q2⟩ := opsErr_good hm o ho.1
    refine ⟨q1, fun hn => ?_⟩
    obtain ⟨y, y1, y2, y3, y4⟩ := q2 hn
    have := of_decide_eq_true ho.2
    exact ⟨y, ⟨y1, decide_eq_true (by omega)⟩, y2, y3, y4⟩)
  have hsum := filter_sum (fun x => decide (x.Stamp.No ≤ cut)) m.1
  rw [Seen_eq hp, Option.bind_some]
  simp only [decide_true, Bool.not_true, cond_false]
  rw [Since_part hm hp (fun x _ y _ _ hxy hy => decide_eq_true (by have := of_decide_eq_true hy; omega)), Option.bind_some]
  simp only
  rw [Merge_ok hp (by omega) hm (fun o => by
    rw [List.mem_append, List.mem_filter, List.mem_filter]
    cases hq : decide (o.Stamp.No ≤ cut) <;> simp), Option.bind_some]
  simp only [decide_true, Bool.not_true, Bool.or_self, Bool.not_false, gd_true]
  rw [Equal_Op_self _ (by omega), Option.bind_some, Wk (by omega) (by omega), decide_eq_true (by omega)]
  simp only [Bool.not_true, Bool.or_self, cond_false]
  -- undone and done again
  obtain ⟨u, u1, u2⟩ := undo_redo hm site
  rw [u1, Option.bind_some]
  by_cases hu : u.2 = 0
  case neg => rw [decide_eq_false hu]; rfl
  rw [decide_eq_true hu, Bool.not_true, cond_false]
  obtain ⟨r, r1, r2⟩ := u2.resolve_left (fun e => e hu)
  rw [r1, Option.bind_some]
  rcases r2 with ⟨r2, r3⟩ | ⟨r2, r3, r4⟩
  · have : (decide (r.2 = 3) || decide (r.2 = 14)) = true := by simpa using r3
    rw [this, r2]; rfl
  · rw [decide_eq_false (p := r.2 = 3) (by omega), decide_eq_false (p := r.2 = 14) (by omega)]
    simp only [Bool.or_self, cond_false]
    rw [State_eq hm, Option.bind_some, State_eq r3, Option.bind_some]
    have hs : stateL r.1 = stateL m.1 := by unfold stateL; rw [r4]
    obtain ⟨hs1, hs2⟩ := stateL_small hm
    simp only [r2, decide_true, Bool.and_self, gd_true]
    rw [hs, same_self (by omega) (fun x hx => by have := hs2 x hx; omega)]
    simp
end Go.DB
