/-
  Right operations: their numbers, and which of them count.
-/
import Derived.Test.YtlkebjlooppdlaaGreatDoorTEMPuOpsR
set_option linter.unusedSimpArgs false
set_option linter.unusedVariables false
namespace Go.DB
open Go Go.RowKit

/-- The operation in a place. -/
abbrev opI (l : List DOp) (i : Nat) : DOp := gx l (i : Int)
theorem opI_lt {l : List DOp} (h : opsErr l = 0) {i j : Nat} (hij : i < j) (hj : j < l.length) : cmpOp (opI l i) (opI l j) < 0 := by
  have := List.pairwise_iff_getElem.1 (opsErr_sorted h) i j (by omega) hj hij
  unfold opI
  rw [gx_nat hj, gx_nat (show i < l.length by omega)]
  exact this
theorem op_step {l : List DOp} (h : opsErr l = 0) {i : Nat} (hi : i < l.length) :
    nameB (opI l i).Stamp.Site = true ∧ (opI l i).Stamp.No = W ((befOp l i).Stamp.No + 1) ∧ (1 ≤ (opI l i).Stamp.Time ∧ (opI l i).Stamp.Time ≤ 1000000000) ∧ (befOp l i).Stamp.Time < (opI l i).Stamp.Time ∧ bodyErr (opI l i) = 0 := by
  have h0 := (opsErr_len h).2 i hi
  unfold opAt at h0
  have h1 := firstErr_zero.1 h0 (if nameB (gx l (i : Int)).Stamp.Site = false then 5 else 0) (by simp)
  have h3 := firstErr_zero.1 h0 (if (gx l (i : Int)).Stamp.No ≠ W ((befOp l i).Stamp.No + 1) ∨ (gx l (i : Int)).Stamp.Time < 1 ∨ 1000000000 < (gx l (i : Int)).Stamp.Time then 3 else 0) (by simp)
  have h4 := firstErr_zero.1 h0 (if (gx l (i : Int)).Stamp.Time ≤ (befOp l i).Stamp.Time then 7 else 0) (by simp)
  have h5 := firstErr_zero.1 h0 (bodyErr (gx l (i : Int))) (by simp)
  have h3' : ¬ ((gx l (i : Int)).Stamp.No ≠ W ((befOp l i).Stamp.No + 1) ∨ (gx l (i : Int)).Stamp.Time < 1 ∨ 1000000000 < (gx l (i : Int)).Stamp.Time) := fun c => by rw [if_pos c] at h3; omega
  have h4' : ¬ (gx l (i : Int)).Stamp.Time ≤ (befOp l i).Stamp.Time := fun c => by rw [if_pos c] at h4; omega
  refine ⟨?_, Decidable.byContradiction fun c => h3' (.inl c), ⟨?_, ?_⟩, by unfold opI; omega, h5⟩
  · cases hn : nameB (gx l (i : Int)).Stamp.Site with
    | true => rfl
    | false => rw [hn, if_pos rfl] at h1; omega
  · exact Int.not_lt.1 fun c => h3' (.inr (.inl c))
  · exact Int.not_lt.1 fun c => h3' (.inr (.inr c))
theorem bef_cases {l : List DOp} (i : Nat) : (∃ j : Nat, i = j + 1 ∧ (opI l j).Stamp.Site = (opI l i).Stamp.Site ∧ befOp l i = opI l j) ∨ ((∀ j : Nat, i = j + 1 → (opI l j).Stamp.Site ≠ (opI l i).Stamp.Site) ∧ befOp l i = zeroOp) := by
  unfold befOp
  match i with
  | 0 => exact .inr ⟨fun j e => by omega, if_neg (fun e => absurd e.1 (by omega))⟩
  | j + 1 =>
    rw [show ((j + 1 : Nat) : Int) - 1 = (j : Int) by omega]
    by_cases c : (opI l j).Stamp.Site = (opI l (j + 1)).Stamp.Site
    · exact .inl ⟨j, rfl, c, if_pos ⟨by omega, c⟩⟩
    · exact .inr ⟨fun k e => by obtain rfl : j = k := by omega
                                exact c, if_neg (fun e => c e.2)⟩
theorem no_bd {l : List DOp} (h : opsErr l = 0) : ∀ i : Nat, i < l.length → 1 ≤ (opI l i).Stamp.No ∧ (opI l i).Stamp.No ≤ (i : Int) + 1 := by
  have hl := (opsErr_len h).1
  intro i
  induction i with
  | zero =>
    intro hi
    have h1 := (op_step h hi).2.1
    rcases bef_cases (l := l) 0 with ⟨j, e, _⟩ | ⟨_, e⟩
    · omega
    · rw [e] at h1
      have : W (zeroOp.Stamp.No + 1) = 1 := by show W (0 + 1) = 1; rw [Wk (by omega) (by omega)]; rfl
      omega
  | succ i ih =>
    intro hi
    have h1 := (op_step h hi).2.1
    have h2 := ih (by omega)
    rcases bef_cases (l := l) (i + 1) with ⟨j, e, _, eb⟩ | ⟨_, e⟩
    · obtain rfl : i = j := by omega
      rw [eb, Wk (by omega) (by omega)] at h1
      omega
    · rw [e] at h1
      have : W (zeroOp.Stamp.No + 1) = 1 := by show W (0 + 1) = 1; rw [Wk (by omega) (by omega)]; rfl
      omega
theorem no_pred {l : List DOp} (h : opsErr l = 0) {i : Nat} (hi : i < l.length) (hn : 1 < (opI l i).Stamp.No) : ∃ j : Nat, i = j + 1 ∧ (opI l j).Stamp.Site = (opI l i).Stamp.Site ∧ (opI l j).Stamp.No = (opI l i).Stamp.No - 1 := by
  have hl := (opsErr_len h).1
  have h1 := (op_step h hi).2.1
  rcases bef_cases (l := l) i with ⟨j, e, es, eb⟩ | ⟨_, e⟩
  · have := no_bd h j (by omega)
    rw [eb, Wk (by omega) (by omega)] at h1
    exact ⟨j, e, es, by omega⟩
  · rw [e] at h1
    have : W (zeroOp.Stamp.No + 1) = 1 := by show W (0 + 1) = 1; rw [Wk (by omega) (by omega)]; rfl
    omega
/-- Where the operation of a site with a number is. -/
theorem no_at {l : List DOp} (h : opsErr l = 0) : ∀ (k i : Nat), i < l.length → ∀ m : Int, 1 ≤ m → m ≤ (opI l i).Stamp.No → ((opI l i).Stamp.No - m).toNat = k →
    ∃ j : Nat, (j : Int) = (i : Int) - (opI l i).Stamp.No + m ∧ j ≤ i ∧ (opI l j).Stamp.Site = (opI l i).Stamp.Site ∧ (opI l j).Stamp.No = m
  | 0, i, hi, m, h1, h2, hk => ⟨i, by omega, Nat.le_refl _, rfl, by omega⟩
  | k + 1, i, hi, m, h1, h2, hk => by
    obtain ⟨j, e, es, en⟩ := no_pred h hi (by omega)
    obtain ⟨t, t1, t2, t3, t4⟩ := no_at h k j (by omega) m h1 (by omega) (by omega)
    exact ⟨t, by omega, by omega, t3.trans es, t4⟩
theorem no_inj {l : List DOp} (h : opsErr l = 0) {i j : Nat} (hi : i < l.length) (hj : j < l.length) (hs : (opI l i).Stamp.Site = (opI l j).Stamp.Site) (hn : (opI l i).Stamp.No = (opI l j).Stamp.No) : i = j := by
  have key : ∀ a b : DOp, a.Stamp.Site = b.Stamp.Site → a.Stamp.No = b.Stamp.No → cmpOp a b = 0 := fun a b e1 e2 => by
    unfold cmpOp
    rw [e1, e2]; exact cmpO_self _ _
  rcases Nat.lt_trichotomy i j with c | c | c
  · have := opI_lt h c hj
    rw [key _ _ hs hn] at this; omega
  · exact c
  · have := opI_lt h c hi
    rw [key _ _ hs.symm hn.symm] at this; omega
/-- Does an operation take another one back? -/
def undoB (l : List DOp) (j i : Nat) : Bool := decide ((opI l j).Kind = 3) && decide ((opI l j).Stamp.Site = (opI l i).Stamp.Site) && decide ((opI l j).Of = (opI l i).Stamp.No)
theorem undo_of {l : List DOp} (h : opsErr l = 0) {j : Nat} (hj : j < l.length) (hk : (opI l j).Kind = 3) :
    (1 ≤ (opI l j).Of ∧ (opI l j).Of ≤ (opI l j).Stamp.No - 1) ∧ ∃ t : Nat, (t : Int) = (j : Int) - (opI l j).Stamp.No + (opI l j).Of ∧ t < j ∧ (opI l t).Stamp.Site = (opI l j).Stamp.Site ∧ (opI l t).Stamp.No = (opI l j).Of := by
  have hl := (opsErr_len h).1
  have hb := (op_step h hj).2.2.2.2
  have hn := no_bd h j hj
  have ho : 1 ≤ (opI l j).Of ∧ (opI l j).Of ≤ (opI l j).Stamp.No - 1 := by
    unfold bodyErr at hb
    rw [if_neg (by omega)] at hb
    split at hb
    · omega
    · rw [Wk (by omega) (by omega)] at hb
      split at hb
      · omega
      · omega
  refine ⟨ho, ?_⟩
  obtain ⟨t, t1, t2, t3, t4⟩ := no_at h _ j hj (opI l j).Of ho.1 (by omega) rfl
  exact ⟨t, t1, by omega, t3, t4⟩
theorem undo_iff {l : List DOp} (h : opsErr l = 0) {i j : Nat} (hi : i < l.length) (hj : j < l.length) (hk : (opI l j).Kind = 3) : undoB l j i = true ↔ (i : Int) = (j : Int) - (opI l j).Stamp.No + (opI l j).Of := by
  obtain ⟨_, t, t1, t2, t3, t4⟩ := undo_of h hj hk
  unfold undoB
  simp only [Bool.and_eq_true, decide_eq_true_eq]
  constructor
  · rintro ⟨⟨_, e1⟩, e2⟩
    have := no_inj h hi (show t < l.length by omega) (e1.symm.trans t3.symm) (e2.symm.trans t4.symm)
    omega
  · intro e
    obtain rfl : i = t := by omega
    exact ⟨⟨hk, t3.symm⟩, t4.symm⟩
theorem undo_lt {l : List DOp} (h : opsErr l = 0) {i j : Nat} (hi : i < l.length) (hj : j < l.length) (hu : undoB l j i = true) : i < j := by
  have hk : (opI l j).Kind = 3 := by
    unfold undoB at hu
    simp only [Bool.and_eq_true, decide_eq_true_eq] at hu
    exact hu.1.1
  have e := (undo_iff h hi hj hk).1 hu
  obtain ⟨_, t, t1, t2, _⟩ := undo_of h hj hk
  omega

def cntF (l : List DOp) : Nat → Nat → Bool
  | 0, _ => true
  | f + 1, i => !(List.range l.length).any (fun j => decide (i < j) && cntF l f j && undoB l j i)
theorem cntF_same (l : List DOp) : ∀ f g i, l.length ≤ i + f → l.length ≤ i + g → cntF l f i = cntF l g i := by
  have zero : ∀ f i, l.length ≤ i → cntF l f i = true := fun f i hi => by
    cases f with
    | zero => rfl
    | succ f =>
      unfold cntF
      rw [Bool.not_eq_true', List.any_eq_false]
      intro j hj
      have : j < l.length := by simpa using hj
      rw [decide_eq_false (by omega)]; simp
  intro f
  induction f with
  | zero => intro g i h1 _; rw [zero g i (by omega)]; rfl
  | succ f ih =>
    intro g i h1 h2
    cases g with
    | zero => rw [zero (f + 1) i (by omega)]; rfl
    | succ g =>
      unfold cntF
      congr 1
      rw [Bool.eq_iff_iff, List.any_eq_true, List.any_eq_true]
      constructor
      · rintro ⟨j, hj, e⟩
        refine ⟨j, hj, ?_⟩
        have hij : i < j := by
          simp only [Bool.and_eq_true, decide_eq_true_eq] at e; exact e.1.1
        rw [← ih g j (by omega) (by omega)]; exact e
      · rintro ⟨j, hj, e⟩
        refine ⟨j, hj, ?_⟩
        have hij : i < j := by
          simp only [Bool.and_eq_true, decide_eq_true_eq] at e; exact e.1.1
        rw [ih g j (by omega) (by omega)]; exact e
/-- Does the operation in a place count? -/
def cntB (l : List DOp) (i : Nat) : Bool := cntF l l.length i
theorem cntB_eq (l : List DOp) (i : Nat) : cntB l i = !(List.range l.length).any (fun j => decide (i < j) && cntB l j && undoB l j i) := by
  unfold cntB
  rw [cntF_same l l.length (l.length + 1) i (by omega) (by omega)]
  rfl
/-- Which operations count. -/
def cntL (l : List DOp) : List Bool := (List.range l.length).map (cntB l)
theorem cntL_len (l : List DOp) : (cntL l).length = l.length := by simp [cntL]
theorem cntL_at {l : List DOp} {i : Nat} (hi : i < l.length) : gx (cntL l) (i : Int) = cntB l i := by
  rw [gx_nat (by rw [cntL_len]; exact hi)]; simp [cntL]
/-- What is known, when all from a place on have been looked at. -/
def outP (l : List DOp) (i : Nat) : List Bool := (List.range l.length).map fun k => !(List.range l.length).any (fun j => decide (i ≤ j) && cntB l j && undoB l j k)
theorem outP_len (l : List DOp) (i : Nat) : (outP l i).length = l.length := by simp [outP]
theorem outP_at {l : List DOp} {i k : Nat} (hk : k < l.length) : gx (outP l i) (k : Int) = !(List.range l.length).any (fun j => decide (i ≤ j) && cntB l j && undoB l j k) := by
  rw [gx_nat (by rw [outP_len]; exact hk)]; simp [outP]
theorem any_more (n i : Nat) (P : Nat → Bool) (hi : i < n) : (List.range n).any (fun j => decide (i ≤ j) && P j) = ((List.range n).any (fun j => decide (i + 1 ≤ j) && P j) || P i) := by
  rw [Bool.eq_iff_iff, Bool.or_eq_true, List.any_eq_true, List.any_eq_true]
  simp only [Bool.and_eq_true, decide_eq_true_eq, List.mem_range]
  constructor
  · rintro ⟨j, hj, h1, h2⟩
    by_cases e : j = i
    · exact .inr (e ▸ h2)
    · exact .inl ⟨j, hj, by omega, h2⟩
  · rintro (⟨j, hj, h1, h2⟩ | h)
    · exact ⟨j, hj, by omega, h2⟩
    · exact ⟨i, hi, Nat.le_refl _, h⟩
theorem gx_ext {α : Type} [Inhabited α] {a b : List α} (hl : a.length = b.length) (h : ∀ i : Nat, i < a.length → gx a (i : Int) = gx b (i : Int)) : a = b := by
  refine List.ext_getElem hl fun i h1 h2 => ?_
  have := h i h1
  rwa [gx_nat h1, gx_nat h2] at this
theorem gx_setB {α : Type} [Inhabited α] {s : List α} {i k : Nat} (hk : k < s.length) (x : α) : gx (s.set i x) (k : Int) = if k = i then x else gx s (k : Int) := by
  rw [gx_nat (by rw [List.length_set]; exact hk), List.getElem_set, gx_nat hk]
  by_cases e : i = k
  · rw [if_pos e, if_pos e.symm]
  · rw [if_neg e, if_neg (fun x => e x.symm)]
theorem outP_end {l : List DOp} (h : opsErr l = 0) : outP l 0 = cntL l := by
  refine gx_ext (by rw [outP_len, cntL_len]) fun k hk => ?_
  rw [outP_len] at hk
  rw [outP_at hk, cntL_at hk, cntB_eq l k]
  congr 1
  rw [Bool.eq_iff_iff, List.any_eq_true, List.any_eq_true]
  simp only [Bool.and_eq_true, decide_eq_true_eq]
  constructor
  · rintro ⟨j, hj, ⟨_, h2⟩, h3⟩
    exact ⟨j, hj, ⟨undo_lt h hk (by simpa using hj) h3, h2⟩, h3⟩
  · rintro ⟨j, hj, ⟨_, h2⟩, h3⟩
    exact ⟨j, hj, ⟨by omega, h2⟩, h3⟩
theorem outP_self {l : List DOp} {i : Nat} (hi : i < l.length) : gx (outP l (i + 1)) (i : Int) = cntB l i := by
  rw [outP_at hi, cntB_eq l i]
  rfl
theorem outP_same {l : List DOp} {i : Nat} (hi : i < l.length) (hn : (decide ((opI l i).Kind = 3) && cntB l i) = false) : outP l i = outP l (i + 1) := by
  refine gx_ext (by rw [outP_len, outP_len]) fun k hk => ?_
  rw [outP_len] at hk
  rw [outP_at hk, outP_at hk]
  have := any_more l.length i (fun j => cntB l j && undoB l j k) hi
  simp only [← Bool.and_assoc] at this
  rw [this]
  have : (cntB l i && undoB l i k) = false := by
    unfold undoB
    rcases Bool.and_eq_false_iff.1 hn with e | e
    · rw [e]; simp
    · rw [e]; simp
  rw [this, Bool.or_false]
theorem outP_set {l : List DOp} (h : opsErr l = 0) {i t : Nat} (hi : i < l.length) (hk : (opI l i).Kind = 3) (hc : cntB l i = true) (ht : (t : Int) = (i : Int) - (opI l i).Stamp.No + (opI l i).Of) (htl : t < l.length) : outP l i = (outP l (i + 1)).set t false := by
  refine gx_ext (by rw [List.length_set, outP_len, outP_len]) fun k hk' => ?_
  rw [outP_len] at hk'
  rw [outP_at hk', gx_setB (by rw [outP_len]; exact hk'), outP_at hk']
  have := any_more l.length i (fun j => cntB l j && undoB l j k) hi
  simp only [← Bool.and_assoc] at this
  rw [this, hc, Bool.true_and]
  have hu := undo_iff h hk' hi hk
  by_cases e : k = t
  · rw [if_pos e, hu.2 (by omega)]; simp
  · rw [if_neg e]
    cases hq : undoB l i k with
    | true => have := hu.1 hq; omega
    | false => rw [Bool.or_false]
theorem counting_eq {l : List DOp} (h : opsErr l = 0) : edit_counting l = some (cntL l) := by
  have hl := (opsErr_len h).1
  unfold edit_counting
  rw [bnd_eq, need_of ⟨by omega, by omega, by omega⟩, bnd_eq]
  obtain ⟨s, p1, p2, p3⟩ := rfor_inv (n := ((List.replicate ((l.length : Int).toNat) false).length : Int)) (step := edit_counting_L1) (s0 := List.replicate ((l.length : Int).toNat) false) (fun t s => s.length = l.length ∧ ∀ k : Nat, k < t → k < l.length → gx s (k : Int) = true) (by simp; omega)
    ⟨by simp, fun k hk => by omega⟩ (fun i s hi hs => by
      have hi' : i < l.length := by simpa using hi
      obtain ⟨h1, h2⟩ := hs
      unfold edit_counting_L1
      rw [need_of ⟨by omega, by omega⟩, Int.toNat_natCast]
      refine ⟨_, rfl, by rw [List.length_set]; exact h1, fun k hk hkl => ?_⟩
      rw [gx_setB (by rw [h1]; exact hkl)]
      by_cases e : k = i
      · rw [if_pos e]
      · rw [if_neg e]; exact h2 k (by omega) hkl)
  have hs : s = outP l l.length := by
    refine gx_ext (by rw [p2, outP_len]) fun k hk => ?_
    rw [p2] at hk
    rw [p3 k (by simpa using hk) hk, outP_at hk]
    symm
    rw [Bool.not_eq_true', List.any_eq_false]
    intro j hj
    have : j < l.length := by simpa using hj
    rw [decide_eq_false (by omega)]; simp
  rw [p1, Option.bind_some, bnd_eq, Wk (by omega) (by omega), hs]
  obtain ⟨e, e1, e2⟩ := loop_inv (body := edit_counting_L2 l) (s0 := ((l.length : Int) - 1, outP l l.length)) (fun s => ∃ i : Nat, i ≤ l.length ∧ s = ((i : Int) - 1, outP l i)) (fun s => (s.1 + 1).toNat) (fun e => e = outP l 0)
    ⟨l.length, Nat.le_refl _, rfl⟩ (fun s hI => by
      obtain ⟨i, hi, rfl⟩ := hI
      unfold edit_counting_L2
      match i with
      | 0 =>
        right
        simp only
        rw [decide_eq_false (by omega), cond_false]
        exact ⟨_, rfl, rfl⟩
      | i + 1 =>
        left
        have hi' : i < l.length := by omega
        have hnb := no_bd h i hi'
        have e : ((i + 1 : Nat) : Int) - 1 = (i : Int) := by omega
        simp only [e]
        rw [decide_eq_true (by omega), cond_true, need_of ⟨by omega, by omega⟩, bnd_eq, need_of (fun _ => ⟨by omega, by rw [outP_len]; omega⟩), outP_self hi']
        show ∃ s', Option.bind (bif decide ((opI l i).Kind = 3) && cntB l i then _ else _) _ = _ ∧ _
        cases hc : decide ((opI l i).Kind = 3) && cntB l i with
        | false =>
          rw [cond_false, Option.bind_some, bnd_eq, Wk (by omega) (by omega)]
          exact ⟨_, rfl, ⟨i, by omega, by rw [outP_same hi' hc]⟩, by simp only; omega⟩
        | true =>
          simp only [Bool.and_eq_true, decide_eq_true_eq] at hc
          obtain ⟨ho, t, t1, t2, _⟩ := undo_of h hi' hc.1
          have hw : W (W ((i : Int) - (opI l i).Stamp.No) + (opI l i).Of) = (t : Int) := by
            rw [Wk (n := (i : Int) - (opI l i).Stamp.No) (by omega) (by omega), Wk (by omega) (by omega)]; omega
          rw [cond_true, hw, need_of ⟨by omega, by rw [outP_len]; omega⟩, Option.bind_some, bnd_eq, Wk (by omega) (by omega), Int.toNat_natCast]
          exact ⟨_, rfl, ⟨i, by omega, by rw [outP_set h hi' hc.1 hc.2 t1 (by omega)]⟩, by simp only; omega⟩)
  rw [e1, e2, Option.bind_some, outP_end h]
end Go.DB
