/-
  Operations that are merged, as the program merges them and as the reference does.
-/
import Derived.Test.YtfpmjncooelplaaDoorMerPuMerges1
set_option linter.unusedSimpArgs false
set_option linter.unusedVariables false
namespace Go.DB
open Go Go.RowKit

theorem Clash_loop {r : List DOp} (hl : r.length ≤ 1000000) (hs : srt (fun x y => decide (cmpOp x y < 0)) r) :
    (clash r ∧ loop (edit_Merge_L1 r) 1 = some (.ab (([] : List DOp), (11 : Int)))) ∨
    (¬ clash r ∧ loop (edit_Merge_L1 r) 1 = some (.nx ()) ∧ ∀ j : Nat, (hj : j < r.length) → 0 < j → cmpOp (r[j - 1]'(by omega)) r[j] = 0 → r[j - 1]'(by omega) = r[j]) := by
  classical
  have hloop := loop_all (body := edit_Merge_L1 r) 1 r.length (fun i => cmpOp (gx r ((i : Int) - 1)) (gx r (i : Int)) = 0 ∧ gx r ((i : Int) - 1) ≠ gx r (i : Int)) (([] : List DOp), (11 : Int)) (fun i h1 h2 => by
    unfold edit_Merge_L1
    have a1 : inR r ((i : Int) - 1) := ⟨by omega, by omega⟩
    have a2 : inR r (i : Int) := ⟨by omega, by omega⟩
    rw [decide_eq_true (p := (i : Int) < (r.length : Int)) (by omega), cond_true, Wk (by omega) (by omega), need_of a1, need_of a2, order_eq, Option.bind_some, need_of (fun _ => a1), need_of (fun _ => a2)]
    by_cases c : cmpOp (gx r ((i : Int) - 1)) (gx r (i : Int)) = 0
    · by_cases d : gx r ((i : Int) - 1) = gx r (i : Int)
      · rw [decide_eq_true c, decide_eq_true d, if_neg (fun e => e.2 d), Bool.not_true, Bool.and_false, cond_false, bnd_eq, Wk (by omega) (by omega)]
      · rw [decide_eq_true c, decide_eq_false d, if_pos ⟨c, d⟩]; rfl
    · rw [decide_eq_false c, if_neg (fun e => c e.1), Bool.false_and, cond_false, bnd_eq, Wk (by omega) (by omega)]) (fun i h => by
    unfold edit_Merge_L1
    rw [decide_eq_false (p := (i : Int) < (r.length : Int)) (by omega), cond_false])
  by_cases hb : ∃ i, 1 ≤ i ∧ i < r.length ∧ cmpOp (gx r ((i : Int) - 1)) (gx r (i : Int)) = 0 ∧ gx r ((i : Int) - 1) ≠ gx r (i : Int)
  · left
    obtain ⟨i, h1, h2, h3, h4⟩ := id hb
    refine ⟨⟨_, gx_mem ⟨by omega, by omega⟩, _, gx_mem ⟨by omega, by omega⟩, h3, h4⟩, ?_⟩
    rw [if_pos hb] at hloop
    exact hloop
  · right
    have hadj : ∀ j : Nat, (hj : j < r.length) → 0 < j → cmpOp (r[j - 1]'(by omega)) r[j] = 0 → r[j - 1]'(by omega) = r[j] := fun j hj h0 h1 => by
      refine Decidable.byContradiction fun h2 => hb ⟨j, by omega, hj, ?_, ?_⟩
      · rw [show (j : Int) - 1 = ((j - 1 : Nat) : Int) by omega, gx_nat hj, gx_nat (by omega)]; exact h1
      · rw [show (j : Int) - 1 = ((j - 1 : Nat) : Int) by omega, gx_nat hj, gx_nat (by omega)]; exact h2
    rw [if_neg hb] at hloop
    refine ⟨fun ⟨x, hx, y, hy, h1, h2⟩ => ?_, hloop, hadj⟩
    have key : ∀ (d i j : Nat) (hij : j = i + d) (hj : j < r.length), cmpOp (r[i]'(by omega)) r[j] = 0 → r[i]'(by omega) = r[j] := by
      intro d
      induction d with
      | zero => intro i j hij hj _; obtain rfl : j = i := by omega
                rfl
      | succ d ih =>
        intro i j hij hj he
        have h3 := sorted_near hs (i := i) (j := j) (by omega) hj he
        have h4 := hadj j hj (by omega) h3
        rw [ih i (j - 1) (by omega) (by omega) (by rw [h4]; exact he), h4]
    obtain ⟨i, hi, rfl⟩ := List.getElem_of_mem hx
    obtain ⟨j, hj, rfl⟩ := List.getElem_of_mem hy
    rcases Nat.le_total i j with h | h
    · exact h2 (key (j - i) i j (by omega) hj h1)
    · exact h2 (key (i - j) j i (by omega) hi (by have := cmpOp_swap r[i] r[j]; omega)).symm

/-- What the program merges. -/
theorem Merge_list {a b : List DOp} (ha : a.length ≤ 2000) (hb : b.length ≤ 2000) (e2 : List DOp → Int) (hC : ∀ l : List DOp, edit_Check l = some (e2 l)) :
    ∃ r : List DOp, slices_SortStableFunc_Op (a ++ b) edit_order = some r ∧
      ((clash (a ++ b) ∧ loop (edit_Merge_L1 r) 1 = some (.ab (([] : List DOp), (11 : Int)))) ∨
       (¬ clash (a ++ b) ∧ loop (edit_Merge_L1 r) 1 = some (.nx ()) ∧ slices_Compact_Op r = some (keepC r r.length) ∧ (keepC r r.length).Pairwise ltOp ∧ ∀ x, x ∈ keepC r r.length ↔ x ∈ a ++ b)) := by
  obtain ⟨r, h1, h2⟩ := StbOp.stable_eq swo_order (D := a ++ b) (fun _ _ => trivial) (by simp; omega)
  have hlen : r.length ≤ 1000000 := by rw [h1.len]; simp; omega
  have hcl : clash r ↔ clash (a ++ b) := by
    unfold clash
    constructor
    · rintro ⟨x, hx, y, hy, h⟩; exact ⟨x, h1.mem.1 hx, y, h1.mem.1 hy, h⟩
    · rintro ⟨x, hx, y, hy, h⟩; exact ⟨x, h1.mem.2 hx, y, h1.mem.2 hy, h⟩
  refine ⟨r, h2, ?_⟩
  rcases Clash_loop hlen h1.srtd with ⟨c, hl⟩ | ⟨c, hl, hadj⟩
  · exact .inl ⟨hcl.1 c, hl⟩
  · refine .inr ⟨fun h => c (hcl.2 h), hl, Compact_eq hlen, keepC_lt h1.srtd hadj (Nat.le_refl _), fun x => ?_⟩
    rw [keepC_mem (Nat.le_refl _), List.take_length, h1.mem]

/-! The reference. -/

theorem MergeOf_loop {a b : List DOp} (ha : a.length ≤ 2000) (hb : b.length ≤ 2000) (hk : a.Pairwise (fun x y => cmpOp x y ≠ 0)) :
    (clash (a ++ b) ∧ rforE (b.length : Int) (ref_MergeOf_L1 b) (fun s => Res.nx s) a = some (.ab (([] : List DOp), (11 : Int)))) ∨
    (¬ clash (a ++ b) ∧ ∃ o : List DOp, rforE (b.length : Int) (ref_MergeOf_L1 b) (fun s => Res.nx s) a = some (.nx o) ∧ o.Pairwise (fun x y => cmpOp x y ≠ 0) ∧ (∀ x, x ∈ o ↔ x ∈ a ++ b) ∧ o.length ≤ 4000) := by
  obtain ⟨e, e1, e2⟩ := rforE_inv (n := (b.length : Int)) (step := ref_MergeOf_L1 b) (fin := fun s => (Res.nx s : Res (List DOp) (List DOp × Int))) (s0 := a)
    (fun i s => s.Pairwise (fun x y => cmpOp x y ≠ 0) ∧ (∀ x, x ∈ s ↔ x ∈ a ++ b.take i) ∧ s.length ≤ a.length + i)
    (fun e => (clash (a ++ b) ∧ e = .ab (([] : List DOp), (11 : Int))) ∨ (¬ clash (a ++ b) ∧ ∃ o : List DOp, e = .nx o ∧ o.Pairwise (fun x y => cmpOp x y ≠ 0) ∧ (∀ x, x ∈ o ↔ x ∈ a ++ b) ∧ o.length ≤ 4000)) (by omega)
    ⟨hk, fun x => by simp, by omega⟩ (fun i s hi hI => by
      obtain ⟨i1, i2, i3⟩ := hI
      have hib : i < b.length := by omega
      have hin : inR b (i : Int) := ⟨by omega, by omega⟩
      unfold ref_MergeOf_L1
      rw [need_of hin, bnd_eq, gx_nat hib]
      have hmb : b[i] ∈ a ++ b := List.mem_append.2 (.inr (List.getElem_mem hib))
      have hsub : ∀ x, x ∈ s → x ∈ a ++ b := fun x hx => by
        rcases List.mem_append.1 ((i2 x).1 hx) with h | h
        · exact List.mem_append.2 (.inl h)
        · exact List.mem_append.2 (.inr (List.mem_of_mem_take h))
      have hidx := IndexFunc_DOp_eq s (fun x0 => ref_MergeOf_1 x0 b[i]) (fun x => decide (cmpOp b[i] x = 0)) (by omega) (fun x hx => by
        unfold ref_MergeOf_1
        rw [byOp_eq, Option.bind_some])
      rw [hidx, Option.bind_some]
      cases hfi : s.findIdx? (fun x => decide (cmpOp b[i] x = 0)) with
      | some k =>
        obtain ⟨hk0, hk1, _⟩ := List.findIdx?_eq_some_iff_getElem.1 hfi
        have hk1 := of_decide_eq_true hk1
        simp only
        have hr : inR s (k : Int) := ⟨by omega, by omega⟩
        rw [need_of (fun _ => hr), decide_eq_true (p := 0 ≤ (k : Int)) (by omega), Bool.true_and, gx_nat hk0]
        by_cases q : s[k] = b[i]
        · left
          rw [decide_eq_true q, Bool.not_true, cond_false, decide_eq_false (p := (k : Int) < 0) (by omega), cond_false]
          refine ⟨_, rfl, i1, fun x => ?_, by omega⟩
          rw [i2, List.take_succ_eq_append_getElem hib, ← List.append_assoc, List.mem_append (t := [b[i]])]
          refine ⟨.inl, fun h => h.elim id fun h => ?_⟩
          rw [List.mem_singleton.1 h, ← q]
          exact (i2 _).1 (List.getElem_mem hk0)
        · right
          rw [decide_eq_false q, Bool.not_false, cond_true]
          exact ⟨_, rfl, .inl ⟨⟨b[i], hmb, s[k], hsub _ (List.getElem_mem hk0), hk1, fun e => q e.symm⟩, rfl⟩⟩
      | none =>
        left
        rw [List.findIdx?_eq_none_iff] at hfi
        simp only
        rw [decide_eq_false (p := (0 : Int) ≤ -1) (by omega), need_of (fun h => by cases h), Bool.false_and, cond_false, decide_eq_true (p := (-1 : Int) < 0) (by omega), cond_true, need_of (by rw [room_iff]; simp; omega)]
        refine ⟨_, rfl, ?_, fun x => ?_, by simp; omega⟩
        · refine List.pairwise_append.2 ⟨i1, by simp, fun x hx y hy => ?_⟩
          rw [List.mem_singleton.1 hy]
          have h1 := of_decide_eq_false (hfi x hx)
          have h2 := cmpOp_swap x b[i]
          omega
        · rw [List.mem_append, i2, List.take_succ_eq_append_getElem hib, ← List.append_assoc, List.mem_append (t := [b[i]])])
    (fun s hI => by
      obtain ⟨i1, i2, i3⟩ := hI
      rw [Int.toNat_natCast, List.take_length] at i2
      right
      refine ⟨fun ⟨x, hx, y, hy, h1, h2⟩ => ?_, s, rfl, i1, i2, by simp at i3; omega⟩
      obtain ⟨i, hi, rfl⟩ := List.getElem_of_mem ((i2 x).2 hx)
      obtain ⟨j, hj, rfl⟩ := List.getElem_of_mem ((i2 y).2 hy)
      rcases Nat.lt_trichotomy i j with h | h | h
      · exact List.pairwise_iff_getElem.1 i1 i j hi hj h h1
      · subst h; exact h2 rfl
      · exact List.pairwise_iff_getElem.1 i1 j i hj hi h (by have := cmpOp_swap s[i] s[j]; omega))
  rcases e2 with ⟨c, rfl⟩ | ⟨c, o, rfl, h⟩
  · exact .inl ⟨c, e1⟩
  · exact .inr ⟨c, o, e1, h⟩

/-! What right operations are. -/

theorem opsErr_len {l : List DOp} (h : opsErr l = 0) : l.length ≤ 2000 ∧ ∀ i, i < l.length → opAt l i = 0 := by
  unfold opsErr at h
  by_cases c : 2000 < l.length
  · rw [if_pos c] at h; omega
  · rw [if_neg c] at h
    exact ⟨by omega, fun i hi => firstErr_zero.1 h _ (List.mem_map.2 ⟨i, List.mem_range.2 hi, rfl⟩)⟩
theorem opAt_zero {l : List DOp} {i : Nat} (h : opAt l i = 0) : ¬ lateOp l i ∧ (gx l (i : Int)).Stamp.No = W ((befOp l i).Stamp.No + 1) := by
  unfold opAt at h
  have h2 := firstErr_zero.1 h (if lateOp l i then 7 else 0) (by simp)
  have h3 := firstErr_zero.1 h (if (gx l (i : Int)).Stamp.No ≠ W ((befOp l i).Stamp.No + 1) ∨ (gx l (i : Int)).Stamp.Time < 1 ∨ 1000000000 < (gx l (i : Int)).Stamp.Time then 3 else 0) (by simp)
  refine ⟨fun c => by rw [if_pos c] at h2; omega, Decidable.byContradiction fun c => ?_⟩
  rw [if_pos (.inl c)] at h3; omega
theorem opsErr_sorted {l : List DOp} (h : opsErr l = 0) : l.Pairwise ltOp := by
  obtain ⟨hl, hz⟩ := opsErr_len h
  have hadj : ∀ j : Nat, (hj : j < l.length) → 0 < j → ltOp (l[j - 1]'(by omega)) l[j] := fun j hj h0 => by
    have h1 := (opAt_zero (hz j hj)).1
    unfold lateOp at h1
    unfold ltOp
    rw [show (j : Int) - 1 = ((j - 1 : Nat) : Int) by omega, gx_nat hj, gx_nat (by omega)] at h1
    exact Int.not_le.1 fun e => h1 ⟨h0, e⟩
  refine List.pairwise_iff_getElem.2 fun i j hi hj hij => ?_
  have key : ∀ (d i j : Nat) (hij : j = i + 1 + d) (hj : j < l.length), ltOp (l[i]'(by omega)) l[j] := by
    intro d
    induction d with
    | zero => intro i j hij hj; obtain rfl : j = i + 1 := by omega
              exact hadj (i + 1) hj (by omega)
    | succ d ih =>
      intro i j hij hj
      have h1 := ih i (j - 1) (by omega) (by omega)
      have h2 := hadj j hj (by omega)
      unfold ltOp at *
      exact (cmpOp_trans (by omega) (by omega)).2 (.inl h1)
  exact key (j - i - 1) i j (by omega) hj
theorem opsErr_no {l : List DOp} (h : opsErr l = 0) : ∀ x ∈ l, 1 ≤ x.Stamp.No := by
  obtain ⟨hl, hz⟩ := opsErr_len h
  have key : ∀ i : Nat, i < l.length → 1 ≤ (gx l (i : Int)).Stamp.No ∧ (gx l (i : Int)).Stamp.No ≤ (i : Int) + 1 := by
    intro i
    induction i with
    | zero =>
      intro hi
      have h1 := (opAt_zero (hz 0 hi)).2
      have hb : befOp l 0 = zeroOp := if_neg (fun e => absurd e.1 (by omega))
      rw [hb] at h1
      rw [h1]
      have : W (zeroOp.Stamp.No + 1) = 1 := by show W (0 + 1) = 1; rw [Wk (by omega) (by omega)]; rfl
      rw [this]; omega
    | succ i ih =>
      intro hi
      have h1 := (opAt_zero (hz (i + 1) hi)).2
      have h2 := ih (by omega)
      unfold befOp at h1
      rw [show ((i + 1 : Nat) : Int) - 1 = (i : Int) by omega] at h1
      by_cases c : 0 < i + 1 ∧ (gx l (i : Int)).Stamp.Site = (gx l ((i + 1 : Nat) : Int)).Stamp.Site
      · rw [if_pos c, Wk (by omega) (by omega)] at h1
        omega
      · rw [if_neg c] at h1
        have : W (zeroOp.Stamp.No + 1) = 1 := by show W (0 + 1) = 1; rw [Wk (by omega) (by omega)]; rfl
        rw [this] at h1; omega
  intro x hx
  obtain ⟨i, hi, rfl⟩ := List.getElem_of_mem hx
  have := (key i hi).1
  rwa [gx_nat hi] at this

/-! Both merge alike. -/

theorem Merge_both {a b : List DOp} (ha : opsErr a = 0) (fa : ∀ x ∈ a, fits x) (fb : ∀ x ∈ b, fits x) : ∃ m : List DOp × Int, edit_Merge a b = some m ∧ ref_MergeOf a b = some m ∧ (m.2 ≠ 0 → m.1 = []) ∧ m.1.length ≤ 2000 := by
  obtain ⟨hla, _⟩ := opsErr_len ha
  unfold edit_Merge ref_MergeOf
  rw [Check_eq, Option.bind_some, ha]
  show ∃ m, (bif decide (2000 < (b.length : Int)) then _ else _) = some m ∧ _
  by_cases hb : 2000 < b.length
  · refine ⟨([], 4), ?_, ?_, fun _ => rfl, by simp⟩
    · rw [decide_eq_true (by omega), cond_true]
    · rw [decide_eq_true (by omega), cond_true]
  · rw [decide_eq_false (by omega), cond_false, cond_false]
    have hb : b.length ≤ 2000 := by omega
    rw [Concat_eq hla hb, Option.bind_some, Clone_DOp_eq (by omega), Option.bind_some]
    have hk : a.Pairwise (fun x y => cmpOp x y ≠ 0) := (opsErr_sorted ha).imp (fun {x y} h => by unfold ltOp at h; omega)
    obtain ⟨r, h1, h2⟩ := Merge_list (a := a) (b := b) hla hb opsErr Check_eq
    rw [h1, Option.bind_some]
    rcases h2 with ⟨c, h2⟩ | ⟨c, h2, h3, h4, h5⟩
    · rcases MergeOf_loop hla hb hk with ⟨_, h6⟩ | ⟨c', _⟩
      · rw [h2, h6]
        exact ⟨([], 11), rfl, rfl, fun _ => rfl, by simp⟩
      · exact absurd c c'
    · rcases MergeOf_loop hla hb hk with ⟨c', _⟩ | ⟨_, o, h6, h7, h8, h9⟩
      · exact absurd c' c
      · rw [h2, h6, bindR_nx, bindR_nx, h3, Option.bind_some, Check_eq, Option.bind_some]
        unfold slices_SortFunc_Op
        have hq : ∀ x ∈ o, sortQ_DOp x := fun x _ => trivial
        rw [need_of ⟨by omega, hq⟩, Option.bind_some]
        obtain ⟨s1, s2, s3⟩ := sort_ops sortC_DOp (fun x y => rfl) hq h7
        have he : keepC r r.length = sortF sortC_DOp o := sorted_uniq ltOp_irr ltOp_asym h4 s1 (fun x => by rw [h5, s2, h8])
        have hf : ∀ x ∈ sortF sortC_DOp o, fits x := fun x hx => by
          rcases List.mem_append.1 ((h8 x).1 ((s2 x).1 hx)) with h | h
          · exact fa x h
          · exact fb x h
        rw [OpsError_eq hf, Option.bind_some, he]
        by_cases z : opsErr (sortF sortC_DOp o) = 0
        · rw [decide_eq_true z]
          exact ⟨(sortF sortC_DOp o, 0), rfl, rfl, fun e => absurd rfl e, (opsErr_len z).1⟩
        · rw [decide_eq_false z]
          exact ⟨([], opsErr (sortF sortC_DOp o)), rfl, rfl, fun _ => rfl, by simp⟩
end Go.DB
