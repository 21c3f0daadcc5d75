/-
  An operation that is put into its place.
-/
import Derived.Test.YtlkebjlooppdlaaGreatDoorTEMPuCount
import Derived.Test.YtlkebjlooppdlaaGreatDoorTEMPuOpF
import Derived.Test.YtlkebjlooppdlaaGreatDoorTEMPuList
set_option linter.unusedSimpArgs false
set_option linter.unusedVariables false
namespace Go.DB
open Go Go.RowKit

theorem op_site {a b c : DOp} (h1 : cmpOp a b ≤ 0) (h2 : cmpOp b c ≤ 0) (hs : a.Stamp.Site = c.Stamp.Site) : b.Stamp.Site = a.Stamp.Site := by
  refine site_ext (Decidable.byContradiction fun hne => ?_)
  unfold cmpOp at h1 h2
  rw [cmpO_site (Ne.symm hne)] at h1
  rw [← hs, cmpO_site hne, cmpB_swap] at h2
  have : cmpB a.Stamp.Site.b b.Stamp.Site.b = 0 := by omega
  exact hne (cmpB_zero this).symm
theorem op_same {a b : DOp} (hs : a.Stamp.Site = b.Stamp.Site) : cmpOp a b = numC a.Stamp.No b.Stamp.No := by
  unfold cmpOp
  rw [hs, cmpO_same]
/-- The number that an operation of a site has next. -/
def Fresh (l : List DOp) (y : DOp) : Prop :=
  (y.Stamp.No = 1 ∧ ∀ j : Nat, j < l.length → (opI l j).Stamp.Site ≠ y.Stamp.Site) ∨
    ∃ q : Nat, q < l.length ∧ (opI l q).Stamp.Site = y.Stamp.Site ∧ y.Stamp.No = (opI l q).Stamp.No + 1 ∧ ∀ j : Nat, q < j → j < l.length → (opI l j).Stamp.Site ≠ y.Stamp.Site
theorem Fresh.lt {l : List DOp} (h : opsErr l = 0) {y : DOp} (hf : Fresh l y) {j : Nat} (hj : j < l.length) (hs : (opI l j).Stamp.Site = y.Stamp.Site) : (opI l j).Stamp.No < y.Stamp.No := by
  rcases hf with ⟨_, hno⟩ | ⟨q, hq, q1, q2, q3⟩
  · exact absurd hs (hno j hj)
  · rcases Nat.lt_trichotomy j q with c | c | c
    · have := opI_lt h c hq
      rw [op_same (hs.trans q1.symm)] at this
      have := numC_cases (opI l j).Stamp.No (opI l q).Stamp.No
      omega
    · subst c; omega
    · exact absurd hs (q3 j c hj)
theorem Fresh.ne {l : List DOp} (h : opsErr l = 0) {y : DOp} (hf : Fresh l y) {j : Nat} (hj : j < l.length) : cmpOp (opI l j) y ≠ 0 := fun e => by
  obtain ⟨e1, e2⟩ := cmpO_zero e
  have := hf.lt h hj (site_ext e1)
  omega
/-- The place of a new operation. -/
structure Ins (l : List DOp) (y : DOp) (p : Nat) : Prop where
  le : p ≤ l.length
  lo : ∀ h : Nat, h < p → cmpOp (opI l h) y < 0
  hi : ∀ h : Nat, p ≤ h → h < l.length → 0 < cmpOp (opI l h) y
  no : Fresh l y
  tm : 1 ≤ y.Stamp.Time ∧ ∀ j : Nat, j < l.length → (opI l j).Stamp.Time < y.Stamp.Time
def insP (l : List DOp) (y : DOp) (p : Nat) : List DOp := l.take p ++ [y] ++ l.drop p
theorem insP_len {l : List DOp} {y : DOp} {p : Nat} (hp : p ≤ l.length) : (insP l y p).length = l.length + 1 := by
  unfold insP; simp only [List.length_append, List.length_take, List.length_drop, List.length_singleton]; omega
theorem insP_lo {l : List DOp} {y : DOp} {p i : Nat} (hp : p ≤ l.length) (hi : i < p) : opI (insP l y p) i = opI l i := by
  unfold opI
  rw [gx_nat (by rw [insP_len hp]; omega), gx_nat (by omega)]
  unfold insP
  rw [List.getElem_append_left (by simp only [List.length_append, List.length_take, List.length_singleton]; omega), List.getElem_append_left (by rw [List.length_take]; omega), List.getElem_take]
theorem insP_at {l : List DOp} {y : DOp} {p : Nat} (hp : p ≤ l.length) : opI (insP l y p) p = y := by
  unfold opI
  rw [gx_nat (by rw [insP_len hp]; omega)]
  unfold insP
  rw [List.getElem_append_left (by simp only [List.length_append, List.length_take, List.length_singleton]; omega), List.getElem_append_right (by rw [List.length_take]; omega)]
  simp
theorem insP_hi {l : List DOp} {y : DOp} {p i : Nat} (hp : p ≤ l.length) (hi : p ≤ i) (hil : i < l.length) : opI (insP l y p) (i + 1) = opI l i := by
  unfold opI
  rw [gx_nat (by rw [insP_len hp]; omega), gx_nat hil]
  unfold insP
  rw [List.getElem_append_right (by simp only [List.length_append, List.length_take, List.length_singleton]; omega), List.getElem_drop]
  congr 1
  simp only [List.length_append, List.length_take, List.length_singleton]; omega
theorem insP_set {l : List DOp} {y z : DOp} {p : Nat} (hp : p ≤ l.length) : (insP l y p).set p z = insP l z p := by
  refine gx_ext (by rw [List.length_set, insP_len hp, insP_len hp]) fun k hk => ?_
  rw [List.length_set, insP_len hp] at hk
  rw [gx_setB (by rw [insP_len hp]; exact hk)]
  by_cases e : k = p
  · subst e; rw [if_pos rfl]; exact (insP_at hp).symm
  · rw [if_neg e]
    rcases Nat.lt_or_gt_of_ne e with c | c
    · exact (insP_lo hp c).trans (insP_lo hp c).symm
    · obtain ⟨t, rfl⟩ : ∃ t, k = t + 1 := ⟨k - 1, by omega⟩
      exact (insP_hi hp (by omega) (by omega)).trans (insP_hi hp (by omega) (by omega)).symm
theorem insP_mem {l : List DOp} {y : DOp} {p : Nat} (x : DOp) : x ∈ insP l y p ↔ x ∈ l ++ [y] := by
  unfold insP
  conv => rhs; rw [← List.take_append_drop p l]
  simp only [List.mem_append, List.mem_singleton]
  constructor
  · rintro ((a | a) | a)
    · exact .inl (.inl a)
    · exact .inr a
    · exact .inl (.inr a)
  · rintro ((a | a) | a)
    · exact .inl (.inl a)
    · exact .inr a
    · exact .inl (.inr a)
/-- Another one with the same stamp. -/
theorem Ins.other {l : List DOp} {y z : DOp} {p : Nat} (hI : Ins l y p) (hz : z.Stamp = y.Stamp) : Ins l z p := by
  obtain ⟨h1, h2, h3, h4, h5⟩ := hI
  refine ⟨h1, fun h hh => ?_, fun h a b => ?_, ?_, ?_⟩
  · have := h2 h hh; unfold cmpOp at *; rw [hz]; exact this
  · have := h3 h a b; unfold cmpOp at *; rw [hz]; exact this
  · unfold Fresh at *; rw [hz]; exact h4
  · rw [hz]; exact h5
theorem search_op {l : List DOp} (h : opsErr l = 0) {y : DOp} (hf : Fresh l y) : ∃ (p : Nat) (f : Bool), slices_BinarySearchFunc_Op l y edit_order = some ((p : Int), f) ∧ p ≤ l.length ∧ (∀ k : Nat, k < p → cmpOp (opI l k) y < 0) ∧ ∀ k : Nat, p ≤ k → k < l.length → 0 < cmpOp (opI l k) y := by
  have hl := (opsErr_len h).1
  unfold slices_BinarySearchFunc_Op
  rw [bnd_eq]
  obtain ⟨s, s1, s2, s3, s4, s5⟩ := bsearch (body := slices_BinarySearchFunc_Op_L1 l edit_order y) (fun k => decide (cmpOp (opI l k) y < 0)) (lo := 0) (hi := l.length) (by omega)
    (fun i j _ hij hj => by
      unfold slices_BinarySearchFunc_Op_L1
      have hm : (i + j) / 2 < l.length := by omega
      simp only
      rw [decide_eq_true (show (i : Int) < (j : Int) by omega), cond_true, bnd_eq, half_eq (by omega), need_of ⟨by omega, by omega⟩, order_eq, Option.bind_some]
      show (bif decide (cmpOp (opI l ((i + j) / 2)) y < 0) then _ else _) = _
      cases decide (cmpOp (opI l ((i + j) / 2)) y < 0) with
      | true =>
        rw [cond_true, if_pos rfl, bnd_eq, Wk (by omega) (by omega)]
        congr 1
      | false => rw [cond_false, if_neg (by simp)])
    (fun i _ hi => by
      unfold slices_BinarySearchFunc_Op_L1
      simp only
      rw [decide_eq_false (by omega), cond_false])
    (fun a b _ hab hb hp => by
      have hp := of_decide_eq_true hp
      rcases Nat.lt_or_eq_of_le hab with c | c
      · have := opI_lt h c hb
        exact decide_eq_true ((cmpOp_trans (by omega) (by omega)).2 (.inl this))
      · subst c; exact decide_eq_true hp)
  rw [show (0 : Int) = ((0 : Nat) : Int) from rfl, s5, Option.bind_some]
  have hlo : ∀ k : Nat, k < s → cmpOp (opI l k) y < 0 := fun k hk => of_decide_eq_true (s3 k (by omega) hk)
  have hhi : ∀ k : Nat, s ≤ k → k < l.length → 0 < cmpOp (opI l k) y := fun k hk hkl => by
    have := of_decide_eq_false (s4 k hk hkl)
    have := hf.ne h hkl
    omega
  by_cases c : s < l.length
  · rw [need_of (fun _ => ⟨by omega, by omega⟩), decide_eq_true (show (s : Int) < (l.length : Int) by omega), gd_true, order_eq, Option.bind_some]
    exact ⟨s, _, rfl, s2, hlo, hhi⟩
  · rw [decide_eq_false (show ¬ (s : Int) < (l.length : Int) by omega), need_of (fun h => by cases h), gd_false, Option.bind_some]
    exact ⟨s, _, rfl, s2, hlo, hhi⟩
/-- The next number of a site, and the greatest time. -/
def noF (l : List DOp) (s : Str) : Nat → Int
  | 0 => 1
  | i + 1 => if (opI l i).Stamp.Site = s then (opI l i).Stamp.No + 1 else noF l s i
def tmF (l : List DOp) : Nat → Int
  | 0 => 0
  | i + 1 => max (tmF l i) (opI l i).Stamp.Time
theorem noF_cases (l : List DOp) (s : Str) : ∀ n : Nat, (noF l s n = 1 ∧ ∀ j : Nat, j < n → (opI l j).Stamp.Site ≠ s) ∨ ∃ q : Nat, q < n ∧ (opI l q).Stamp.Site = s ∧ noF l s n = (opI l q).Stamp.No + 1 ∧ ∀ j : Nat, q < j → j < n → (opI l j).Stamp.Site ≠ s
  | 0 => .inl ⟨rfl, fun j hj => by omega⟩
  | n + 1 => by
    unfold noF
    by_cases c : (opI l n).Stamp.Site = s
    · rw [if_pos c]
      exact .inr ⟨n, by omega, c, rfl, fun j h1 h2 => by omega⟩
    · rw [if_neg c]
      rcases noF_cases l s n with ⟨h1, h2⟩ | ⟨q, h1, h2, h3, h4⟩
      · exact .inl ⟨h1, fun j hj => by
          by_cases e : j = n
          · subst e; exact c
          · exact h2 j (by omega)⟩
      · exact .inr ⟨q, by omega, h2, h3, fun j a b => by
          by_cases e : j = n
          · subst e; exact c
          · exact h4 j a (by omega)⟩
theorem noF_bd {l : List DOp} (h : opsErr l = 0) (s : Str) {n : Nat} (hn : n ≤ l.length) : 1 ≤ noF l s n ∧ noF l s n ≤ 2001 := by
  have hl := (opsErr_len h).1
  rcases noF_cases l s n with ⟨h1, _⟩ | ⟨q, h1, _, h3, _⟩
  · omega
  · have := no_bd h q (by omega); omega
theorem tmF_bd {l : List DOp} (h : opsErr l = 0) : ∀ n : Nat, n ≤ l.length → (0 ≤ tmF l n ∧ tmF l n ≤ 1000000000) ∧ ∀ j : Nat, j < n → (opI l j).Stamp.Time ≤ tmF l n
  | 0, _ => ⟨by simp [tmF], fun j hj => by omega⟩
  | n + 1, hn => by
    obtain ⟨h1, h2⟩ := tmF_bd h n (by omega)
    have h3 := (op_step h (show n < l.length by omega)).2.2.1
    unfold tmF
    refine ⟨by omega, fun j hj => ?_⟩
    by_cases e : j = n
    · subst e; omega
    · have := h2 j (by omega); omega
/-- A new operation. -/
def newOp (l : List DOp) (x : DOp) : DOp := { x with Stamp := ⟨tmF l l.length + 1, x.Stamp.Site, noF l x.Stamp.Site l.length⟩ }
theorem newOp_fresh (l : List DOp) (x : DOp) : Fresh l (newOp l x) := noF_cases l x.Stamp.Site l.length
theorem further_eq {l : List DOp} (h : opsErr l = 0) (hl : l.length < 2000) {x : DOp} (hx : x.Stamp.Time = 0) :
    (1000000000 < tmF l l.length + 1 ∧ edit_further l x = some ([], 3)) ∨ (tmF l l.length + 1 ≤ 1000000000 ∧ ∃ p, Ins l (newOp l x) p ∧ edit_further l x = some (insP l (newOp l x) p, 0)) := by
  unfold edit_further
  rw [decide_eq_false (by omega), cond_false, bnd_eq]
  obtain ⟨s, p1, p2⟩ := rfor_inv (n := (l.length : Int)) (step := edit_further_L1 l) (s0 := { x with Stamp := { x.Stamp with No := 1 } }) (fun t s => s = { x with Stamp := ⟨tmF l t, x.Stamp.Site, noF l x.Stamp.Site t⟩ }) (by omega)
    (by simp only [tmF, noF]; rw [← hx]) (fun i s hi hs => by
      subst hs
      have hi' : i < l.length := by omega
      have hb := no_bd h i hi'
      unfold edit_further_L1
      rw [need_of ⟨by omega, by omega⟩]
      simp only [bnd_eq]
      show ∃ s', (bif decide ((opI l i).Stamp.Site = x.Stamp.Site) then _ else _) = _ ∧ _
      by_cases c : (opI l i).Stamp.Site = x.Stamp.Site
      · rw [decide_eq_true c, cond_true, Wk (by show _ ≤ (opI l i).Stamp.No + 1; omega) (by show (opI l i).Stamp.No + 1 ≤ _; omega)]
        refine ⟨_, rfl, ?_⟩
        simp only [tmF, noF, if_pos c]
      · rw [decide_eq_false c, cond_false]
        refine ⟨_, rfl, ?_⟩
        simp only [tmF, noF, if_neg c])
  have ht := (tmF_bd h l.length (Nat.le_refl _)).1
  have e : (l.length : Int).toNat = l.length := by omega
  rw [e] at p2
  rw [p1, Option.bind_some, p2]
  simp only [bnd_eq]
  rw [Wk (n := tmF l l.length + 1) (by omega) (by omega)]
  by_cases c : 1000000000 < tmF l l.length + 1
  · rw [decide_eq_true c, cond_true]; exact .inl ⟨c, rfl⟩
  · rw [decide_eq_false c, cond_false]
    have hy : ({ x with Stamp := ⟨tmF l l.length + 1, x.Stamp.Site, noF l x.Stamp.Site l.length⟩ } : DOp) = newOp l x := rfl
    rw [hy]
    obtain ⟨p, f, s1, s2, s3, s4⟩ := search_op h (newOp_fresh l x)
    refine .inr ⟨by omega, p, ⟨s2, s3, s4, newOp_fresh l x, by show 1 ≤ tmF l l.length + 1; omega, fun j hj => by
      have := (tmF_bd h l.length (Nat.le_refl _)).2 j hj
      show _ < tmF l l.length + 1; omega⟩, ?_⟩
    rw [s1, Option.bind_some, Clone_DOp_eq (by omega), Option.bind_some]
    unfold slices_Insert_Op
    rw [need_of ⟨by omega, by simp only; omega, by simp; omega⟩, Option.bind_some]
    rfl
theorem firstErr_app : ∀ {a b : List Int}, firstErr (a ++ b) = if firstErr a = 0 then firstErr b else firstErr a
  | [], b => by simp
  | e :: a, b => by
    rw [List.cons_append, firstErr_cons, firstErr_cons]
    by_cases h : e = 0
    · rw [if_pos h, if_pos h, firstErr_app]
    · rw [if_neg h, if_neg h, if_neg h]
theorem firstErr_at {f : Nat → Int} {p : Nat} : ∀ {n : Nat}, p < n → (∀ i : Nat, i < n → i ≠ p → f i = 0) → firstErr ((List.range n).map f) = f p
  | 0, hp, _ => by omega
  | n + 1, hp, h => by
    rw [List.range_succ, List.map_append, firstErr_app]
    by_cases e : p = n
    · subst e
      rw [if_pos (firstErr_zero.2 fun e he => by
        obtain ⟨i, hi, rfl⟩ := List.mem_map.1 he
        have : i < p := by simpa using hi
        exact h i (by omega) (by omega))]
      simp only [List.map_cons, List.map_nil, firstErr_cons, firstErr_nil]
      split <;> simp_all
    · have ih := firstErr_at (n := n) (f := f) (p := p) (by omega) (fun i hi hne => h i (by omega) hne)
      have hz : f n = 0 := h n (by omega) (fun c => e c.symm)
      rw [ih]
      by_cases c : f p = 0
      · rw [if_pos c, c]; simp [hz]
      · rw [if_neg c]
/-- What is wrong with one behind another. -/
def befE (b : Bool) (q y : DOp) : DOp := if b = true ∧ q.Stamp.Site = y.Stamp.Site then q else zeroOp
def opE (b : Bool) (q y : DOp) : Int :=
  firstErr [if nameB y.Stamp.Site = false then 5 else 0, if b = true ∧ 0 ≤ cmpOp q y then 7 else 0, if y.Stamp.No ≠ W ((befE b q y).Stamp.No + 1) ∨ y.Stamp.Time < 1 ∨ 1000000000 < y.Stamp.Time then 3 else 0,
    if y.Stamp.Time ≤ (befE b q y).Stamp.Time then 7 else 0, bodyErr y]
theorem opAt_E (l : List DOp) (i : Nat) : opAt l i = opE (decide (0 < i)) (gx l ((i : Int) - 1)) (opI l i) := by
  have e1 : befOp l i = befE (decide (0 < i)) (gx l ((i : Int) - 1)) (opI l i) := by
    unfold befOp befE
    by_cases c : 0 < i ∧ (gx l ((i : Int) - 1)).Stamp.Site = (gx l (i : Int)).Stamp.Site
    · rw [if_pos c, if_pos ⟨decide_eq_true c.1, c.2⟩]
    · rw [if_neg c, if_neg (fun h => c ⟨of_decide_eq_true h.1, h.2⟩)]
  have e2 : (if lateOp l i then (7 : Int) else 0) = if decide (0 < i) = true ∧ 0 ≤ cmpOp (gx l ((i : Int) - 1)) (opI l i) then 7 else 0 := by
    by_cases c : lateOp l i
    · rw [if_pos c, if_pos ⟨decide_eq_true c.1, c.2⟩]
    · rw [if_neg c, if_neg (fun h => c ⟨of_decide_eq_true h.1, h.2⟩)]
  unfold opAt opE
  rw [e1, e2]
theorem opE_ok {b : Bool} {q y : DOp} (hn : nameB y.Stamp.Site = true) (hl : b = true → cmpOp q y < 0) (hno : y.Stamp.No = W ((befE b q y).Stamp.No + 1)) (ht : 1 ≤ y.Stamp.Time ∧ y.Stamp.Time ≤ 1000000000) (hb : (befE b q y).Stamp.Time < y.Stamp.Time) : opE b q y = bodyErr y := by
  unfold opE
  rw [hn, if_neg (by simp), if_neg (fun h => by have := hl h.1; omega), if_neg (fun h => by
    rcases h with h | h | h
    · exact h hno
    · omega
    · omega), if_neg (by omega)]
  simp only [firstErr_cons, firstErr_nil, if_true]
  split <;> simp_all
/-- What is wrong with operations to which one is added. -/
theorem opsErr_ins {l : List DOp} (h : opsErr l = 0) (hl : l.length < 2000) {y : DOp} {p : Nat} (hI : Ins l y p) (hn : nameB y.Stamp.Site = true) (ht : y.Stamp.Time ≤ 1000000000) : opsErr (insP l y p) = bodyErr y := by
  have hlen := insP_len (y := y) hI.le
  unfold opsErr
  rw [if_neg (by omega), firstErr_at (p := p) (by have := hI.le; omega) (fun i hi hne => ?_)]
  · -- the new one
    rw [opAt_E, insP_at hI.le]
    have hz : zeroOp.Stamp.No = 0 ∧ zeroOp.Stamp.Time = 0 := ⟨rfl, rfl⟩
    have hple := hI.le
    match p, hI, hple with
    | 0, hI, _ =>
      have hbe : befE (decide (0 < 0)) (gx (insP l y 0) (((0 : Nat) : Int) - 1)) y = zeroOp := if_neg (fun c => by have := of_decide_eq_true c.1; omega)
      refine opE_ok hn (fun c => by have := of_decide_eq_true c; omega) ?_ ⟨hI.tm.1, ht⟩ (by rw [hbe, hz.2]; have := hI.tm.1; omega)
      rw [hbe, hz.1]
      rcases hI.no with ⟨h1, _⟩ | ⟨q, q0, q1, q2, q3⟩
      · rw [h1, Wk (by omega) (by omega)]; rfl
      · have := hI.hi q (by omega) q0
        rw [op_same q1] at this
        have := numC_cases (opI l q).Stamp.No y.Stamp.No
        omega
    | r + 1, hI, hple =>
      have hg : gx (insP l y (r + 1)) (((r + 1 : Nat) : Int) - 1) = opI l r := by
        rw [show ((r + 1 : Nat) : Int) - 1 = (r : Int) by omega]
        exact insP_lo hple (by omega)
      rw [hg]
      have hr := hI.lo r (by omega)
      have hnr := no_bd h r (by omega)
      refine opE_ok hn (fun _ => hr) ?_ ⟨hI.tm.1, ht⟩ ?_
      · unfold befE
        by_cases c : (opI l r).Stamp.Site = y.Stamp.Site
        · rw [if_pos ⟨by simp, c⟩, Wk (by omega) (by omega)]
          rcases hI.no with ⟨_, h2⟩ | ⟨q, q0, q1, q2, q3⟩
          · exact absurd c (h2 r (by omega))
          · have hqp : q < r + 1 := by
              rcases Nat.lt_or_ge q (r + 1) with e | e
              · exact e
              · have := hI.hi q e q0
                rw [op_same q1] at this
                have := numC_cases (opI l q).Stamp.No y.Stamp.No
                omega
            have : q = r := by
              rcases Nat.lt_or_ge q r with e | e
              · exact absurd c (q3 r e (by omega))
              · omega
            subst this; exact q2
        · rw [if_neg (fun e => c e.2), hz.1, Wk (by omega) (by omega)]
          rcases hI.no with ⟨h1, _⟩ | ⟨q, q0, q1, q2, q3⟩
          · rw [h1]; rfl
          · have hqp : q < r + 1 := by
              rcases Nat.lt_or_ge q (r + 1) with e | e
              · exact e
              · have := hI.hi q e q0
                rw [op_same q1] at this
                have := numC_cases (opI l q).Stamp.No y.Stamp.No
                omega
            have : q ≠ r := fun e => c (by rw [← e]; exact q1)
            have h1 := opI_lt h (show q < r by omega) (by omega)
            exact absurd ((op_site (by omega) (by omega) q1).trans q1) c
      · unfold befE
        by_cases c : (opI l r).Stamp.Site = y.Stamp.Site
        · rw [if_pos ⟨by simp, c⟩]; exact hI.tm.2 r (by omega)
        · rw [if_neg (fun e => c e.2), hz.2]; have := hI.tm.1; omega
  · -- the others
    rw [hlen] at hi
    rcases Nat.lt_or_gt_of_ne hne with c | c
    · have h0 := (opsErr_len h).2 i (by have := hI.le; omega)
      rw [opAt_E] at h0 ⊢
      rw [insP_lo hI.le c]
      match i, c with
      | 0, _ =>
        have : ∀ q q' : DOp, opE (decide (0 < 0)) q (opI l 0) = opE (decide (0 < 0)) q' (opI l 0) := fun q q' => by
          unfold opE befE
          simp
        rw [this _ (gx l (((0 : Nat) : Int) - 1))]; exact h0
      | r + 1, c =>
        rw [show ((r + 1 : Nat) : Int) - 1 = (r : Int) by omega] at h0 ⊢
        have : gx (insP l y p) (r : Int) = opI l r := insP_lo hI.le (by omega)
        rw [this]; exact h0
    · obtain ⟨r, rfl⟩ : ∃ r, i = r + 1 := ⟨i - 1, by omega⟩
      have hr : r < l.length := by omega
      have h0 := (opsErr_len h).2 r hr
      rw [opAt_E, insP_hi hI.le (by omega) hr, show ((r + 1 : Nat) : Int) - 1 = (r : Int) by omega]
      rw [decide_eq_true (show 0 < r + 1 by omega)]
      by_cases e : r = p
      · subst e
        have hat : gx (insP l y r) (r : Int) = y := insP_at hI.le
        rw [hat]
        have hhi := hI.hi r (Nat.le_refl _) hr
        have hlt : cmpOp y (opI l r) < 0 := by have := cmpOp_swap y (opI l r); omega
        have hsne : y.Stamp.Site ≠ (opI l r).Stamp.Site := fun c => by
          have := hI.no.lt h hr c.symm
          rw [op_same c.symm] at hhi
          have := numC_cases (opI l r).Stamp.No y.Stamp.No
          omega
        have hs := op_step h hr
        have hb1 : befE true y (opI l r) = zeroOp := if_neg (fun c => hsne c.2)
        have hb2 : befOp l r = zeroOp := by
          rcases bef_cases (l := l) r with ⟨j, ej, es, _⟩ | ⟨_, e⟩
          · have h1 := hI.lo j (by omega)
            exact absurd ((op_site (by omega) (by omega) es).trans es) hsne
          · exact e
        rw [opE_ok hs.1 (fun _ => hlt) (by rw [hb1, ← hb2]; exact hs.2.1) hs.2.2.1 (by rw [hb1, ← hb2]; exact hs.2.2.2.1)]
        exact hs.2.2.2.2
      · obtain ⟨t, rfl⟩ : ∃ t, r = t + 1 := ⟨r - 1, by omega⟩
        have : gx (insP l y p) ((t + 1 : Nat) : Int) = opI l t := insP_hi hI.le (by omega) (by omega)
        rw [this]
        rw [opAt_E, show ((t + 1 : Nat) : Int) - 1 = (t : Int) by omega, decide_eq_true (show 0 < t + 1 by omega)] at h0
        exact h0
end Go.DB
