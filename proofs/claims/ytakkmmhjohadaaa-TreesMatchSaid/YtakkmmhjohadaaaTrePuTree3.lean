/-
  Trees, their leaves and levels, equal branches, halves, and what is folded: the law in plain words.
-/
import Derived.Test.YtakkmmhjohadaaaTrePuTree2
set_option linter.unusedSimpArgs false
set_option linter.unusedVariables false
namespace Go.DB
open Go Go.RowKit

/-! Halves. -/

def psum (f : Int → Nat) (l : List Int) (i : Nat) : Nat := ((l.take i).map f).sum
theorem psum_succ {f : Int → Nat} {l : List Int} {i : Nat} (h : i < l.length) : psum f l (i + 1) = psum f l i + f (gx l (i : Int)) := by
  unfold psum; rw [take_one h, List.map_append, List.sum_append_nat]; simp
theorem psum_all (f : Int → Nat) (l : List Int) : psum f l l.length = (l.map f).sum := by unfold psum; simp
theorem psum_le (f : Int → Nat) (l : List Int) (i : Nat) : psum f l i ≤ (l.map f).sum := sum_take_le f l i
/-- How far a part is from the half. -/
def hd (a s : Int) : Int := max (2 * s - a) (a - 2 * s)
/-- The best part of the first j, and how far it is. -/
def hb (f : Int → Nat) (l : List Int) (a : Int) : Nat → Int × Int
  | 0 => (0, a)
  | j + 1 => if hd a (psum f l (j + 1)) < (hb f l a j).2 then ((j + 1 : Nat), hd a (psum f l (j + 1))) else hb f l a j
theorem hb_bd {f : Int → Nat} {l : List Int} {a : Int} (ha : 0 ≤ a) : ∀ j, 0 ≤ (hb f l a j).2 ∧ (hb f l a j).2 ≤ a
  | 0 => ⟨ha, Int.le_refl _⟩
  | j + 1 => by
    have := hb_bd (f := f) (l := l) ha j
    rw [hb]
    split
    · unfold hd at *; simp only; omega
    · exact this

theorem Halves_eq {t : List Branch} {m : Nat} (h : TreeOK t m) (hc : tree_Check t = some 0) : ∃ k, tree_Halves t = some (k, 0) ∧ ref_HalvesOf t = some k := by
  have hl := h.len
  have hp := h.pos
  have hr : (0 : Int) < t.length := by omega
  have hin : inR t (0 : Int) := ⟨by omega, hr⟩
  have h0 : (0 : Int) ∈ lev (kidsOf t) 0 := by simp [lev]
  have hsum := h.fo.kids_sum h.nil h.m1 h0
  have hkl := h.kidsR (k := 0) (by omega) hr
  have hrng := h.fo.rng 0 (by omega) hr
  obtain ⟨o, g1, g2, g3⟩ := leaves_eq h
  have e0 : (gx t 0).Kids = kidsOf t 0 := rfl
  generalize hK : kidsOf t 0 = K at *
  generalize hf : val (kidsOf t) m = f at *
  have hall := psum_all f K
  have hle := psum_le f K
  refine ⟨(hb f K ((K.map f).sum : Nat) K.length).1, ?_, ?_⟩
  · unfold tree_Halves
    rw [hc, bind_sm]
    simp only [decide_true, Bool.not_true, cond_false]
    rw [g1, bind_sm, need_of hin]
    simp only [bnd_eq, e0]
    rw [rfor_sum (f := f) (by omega) (by omega) (fun i s hi => by
      unfold tree_Halves_L1
      have hi' : inR K (i : Int) := ⟨by omega, by omega⟩
      have := hrng _ (gx_mem hi')
      rw [need_of hi', need_of ⟨by omega, by rw [g2]; omega⟩, g3 _ (by omega) (by omega)]; rfl)]
    simp only [bind_sm]
    rw [need_of hin]
    obtain ⟨s, k1, k2⟩ := rfor_inv (n := (K.length : Int)) (step := tree_Halves_L2 o K ((K.map f).sum : Nat)) (s0 := (0, (((K.map f).sum : Nat) : Int), 0)) (fun i s => s = ((hb f K ((K.map f).sum : Nat) i).1, (hb f K ((K.map f).sum : Nat) i).2, (psum f K i : Int))) (by omega) rfl (fun i s hi hI => by
      have hi2 : i < K.length := by omega
      have hi' : inR K (i : Int) := ⟨by omega, by omega⟩
      have hx := hrng _ (gx_mem hi')
      have hs := psum_succ (f := f) hi2
      have h3 := hle (i + 1)
      subst hI
      unfold tree_Halves_L2
      rw [need_of hi', need_of ⟨by omega, by rw [g2]; omega⟩, g3 _ (by omega) (by omega)]
      simp only [bnd_eq]
      have e1 : ((psum f K i : Nat) : Int) + (f (gx K (i : Int)) : Int) = (psum f K (i + 1) : Int) := by omega
      rw [e1]
      generalize hS : psum f K (i + 1) = S at hs h3 ⊢
      rw [Wk (n := (S : Int)) (by omega) (by omega), Wk (n := 2 * (S : Int)) (by omega) (by omega), Wk (n := 2 * (S : Int) - _) (by omega) (by omega), Wk (n := _ - 2 * (S : Int)) (by omega) (by omega), Wk (n := (i : Int) + 1) (by omega) (by omega)]
      have e2 : max (2 * (S : Int) - ((K.map f).sum : Nat)) (((K.map f).sum : Nat) - 2 * (S : Int)) = hd ((K.map f).sum : Nat) S := rfl
      rw [e2]
      refine ⟨_, ?_, rfl⟩
      by_cases hlt : hd ((K.map f).sum : Nat) S < (hb f K ((K.map f).sum : Nat) i).2
      · simp only [hlt, decide_true, cond_true, hb, hS, if_true]; rfl
      · simp only [hlt, decide_false, cond_false, hb, hS, if_false])
    rw [k1, k2]
    simp
  · unfold ref_HalvesOf
    rw [need_of hin]
    simp only [bnd_eq, e0]
    rw [rfor_sum (f := f) (by omega) (by omega) (fun i s hi => by
      unfold ref_HalvesOf_L1
      have hi' : inR K (i : Int) := ⟨by omega, by omega⟩
      have := hrng _ (gx_mem hi')
      rw [need_of hi', LeavesOf_eq h (by omega) (by omega), hf]; rfl)]
    simp only [bind_sm]
    have hA : ((K.map f).sum : Nat) ≤ 300 := by omega
    generalize hAA : (((K.map f).sum : Nat) : Int) = A at *
    have hstep : ∀ (i : Nat) (b k : Int), i ≤ K.length → (b < 0 ∧ i = 0 ∨ 0 ≤ b ∧ b ≤ A) → ref_HalvesOf_L2 t A (b, k, (psum f K i : Int), (i : Int)) = some (.again ((if b < 0 ∨ hd A (psum f K i) < b then (hd A (psum f K i), (i : Int), (psum f K (i + 1) : Int), ((i + 1 : Nat) : Int)) else (b, k, (psum f K (i + 1) : Int), ((i + 1 : Nat) : Int))))) := by
      intro i b k hi hb
      have h3 := hle i
      unfold ref_HalvesOf_L2
      simp only [e0]
      have c1 : decide ((i : Int) ≤ (K.length : Int)) = true := by simp; omega
      rw [need_of hin]
      simp only [c1, cond_true]
      rw [Wk (n := 2 * (psum f K i : Int)) (by omega) (by omega), Wk (n := 2 * (psum f K i : Int) - A) (by omega) (by omega), Abs_eq (by omega) (by omega)]
      have e3 : max (2 * (psum f K i : Int) - A) (-(2 * (psum f K i : Int) - A)) = hd A (psum f K i) := by unfold hd; omega
      rw [e3, bind_sm, Wk (n := (i : Int) + 1) (by omega) (by omega)]
      have hlast : ∀ x y : Int, (bif decide ((i : Int) < (K.length : Int)) then (need (inR t 0) (need (inR K (i : Int)) (Option.bind (ref_LeavesOf t (gx K (i : Int))) fun r2 => bnd (W ((psum f K i : Int) + r2)) fun left1 => some (x, y, left1)))) else some (x, y, (psum f K i : Int))) = some (x, y, (psum f K (i + 1) : Int)) := by
        intro x y
        by_cases hl : i < K.length
        · have c2 : decide ((i : Int) < (K.length : Int)) = true := by simp; omega
          have hi' : inR K (i : Int) := ⟨by omega, by omega⟩
          have hx := hrng _ (gx_mem hi')
          have hs := psum_succ (f := f) hl
          have h4 := hle (i + 1)
          simp only [c2, cond_true]
          rw [need_of hin, need_of hi', LeavesOf_eq h (by omega) (by omega), hf]
          simp only [bind_sm, bnd_eq]
          rw [Wk (by omega) (by omega)]
          congr 3; omega
        · have c2 : decide ((i : Int) < (K.length : Int)) = false := by simp; omega
          have e4 : psum f K (i + 1) = psum f K i := by unfold psum; rw [List.take_of_length_le (by omega), List.take_of_length_le (by omega)]
          simp only [c2, cond_false, e4]
      by_cases hc : b < 0 ∨ hd A (psum f K i) < b
      · have c3 : ((decide (b < 0)) || (decide (hd A (psum f K i) < b))) = true := by simpa using hc
        simp only [c3, cond_true, bind_sm]
        rw [need_of hin]
        simp only [bnd_eq]
        rw [show ((i : Int) + 1) = ((i + 1 : Nat) : Int) from rfl]
        have hq := hlast (hd A (psum f K i)) (i : Int)
        simp only [bnd_eq] at hq
        rw [hq]
        simp only [bind_sm, bnd_eq, hc, if_true]
      · have c3 : ((decide (b < 0)) || (decide (hd A (psum f K i) < b))) = false := by simp; omega
        simp only [c3, cond_false, bind_sm]
        rw [need_of hin]
        simp only [bnd_eq]
        have hq := hlast b k
        simp only [bnd_eq] at hq
        rw [hq]
        simp only [bind_sm, bnd_eq, hc, if_false]; rfl
    obtain ⟨e, k1, k2⟩ := loop_nat (body := ref_HalvesOf_L2 t A) (fun i => match i with | 0 => (-1, 0, 0, 0) | j + 1 => ((hb f K A j).2, (hb f K A j).1, (psum f K (j + 1) : Int), ((j + 1 : Nat) : Int))) (fun e => e = (hb f K A K.length).1) 0 (K.length + 1) (by omega) (fun i _ hi => by
      left
      match i with
      | 0 =>
        have := hstep 0 (-1) 0 (by omega) (.inl ⟨by omega, rfl⟩)
        simp only [psum, List.take_zero, List.map_nil, List.sum_nil] at this
        show ref_HalvesOf_L2 t A (-1, 0, 0, 0) = _
        have e5 : ((0 : Nat) : Int) = 0 := rfl
        rw [e5] at this
        rw [this]
        have e6 : hd A 0 = A := by unfold hd; omega
        simp only [show (-1 : Int) < 0 by omega, true_or, if_true, e6]
        rfl
      | j + 1 =>
        have hbb := hb_bd (f := f) (l := K) (a := A) (by omega) j
        have := hstep (j + 1) (hb f K A j).2 (hb f K A j).1 (by omega) (.inr hbb)
        simp only
        rw [this]
        have hn : ¬ (hb f K A j).2 < 0 := by omega
        simp only [hn, false_or]
        by_cases hlt : hd A (psum f K (j + 1)) < (hb f K A j).2
        · simp only [hlt, if_true, hb]
        · simp only [hlt, if_false, hb]) (by
      refine ⟨_, ?_, rfl⟩
      unfold ref_HalvesOf_L2
      simp only [e0]
      rw [need_of hin]
      have c1 : decide (((K.length + 1 : Nat) : Int) ≤ (K.length : Int)) = false := by simp; omega
      simp only [c1, cond_false])
    have k1' : loop (ref_HalvesOf_L2 t A) (-1, 0, 0, 0) = some e := k1
    rw [k1', k2]; rfl

/-! Folded. -/

/-- Kids that are seen. -/
def fkids (t : List Branch) (cl : Int → Bool) (k : Int) : List Int := if cl k = true then [] else kidsOf t k
theorem fkids_t {t : List Branch} {cl : Int → Bool} {k : Int} (h : cl k = true) : fkids t cl k = [] := by unfold fkids; rw [if_pos h]
theorem fkids_f {t : List Branch} {cl : Int → Bool} {k : Int} (h : cl k = false) : fkids t cl k = kidsOf t k := by unfold fkids; rw [if_neg (by rw [h]; decide)]
theorem fkids_fo {t : List Branch} {m : Nat} (h : TreeOK t m) (cl : Int → Bool) : Fo t.length (fkids t cl) where
  pos := h.pos
  rng k h0 h1 x hx := by
    unfold fkids at hx
    split at hx
    · cases hx
    · exact h.fo.rng k h0 h1 x hx
  one k h0 h1 := by
    unfold fkids
    split
    · simp
    · exact h.fo.one k h0 h1
  two k j h0 h1 h2 h3 hne x hx := by
    unfold fkids at hx ⊢
    split at hx
    · cases hx
    · split
      · simp
      · exact h.fo.two k j h0 h1 h2 h3 hne x hx

theorem Fold_loop {t : List Branch} {m : Nat} (h : TreeOK t m) {cl : List Bool} (hcl : cl.length = t.length) {c : Int → Bool} (hc : ∀ k : Int, 0 ≤ k → k < t.length → gx cl k = c k) :
    ∃ q, loop (tree_Fold_L2 t cl) ([], [0]) = some (sn (fkids t c) q) ∧ lev (fkids t c) q = [] := by
  have hl := h.len
  have hfo := fkids_fo h c
  obtain ⟨q, q1, q2, q3, q4⟩ := hfo.ends
  refine ⟨q, ?_, q3⟩
  obtain ⟨e, he, hp⟩ := loop_nat (body := tree_Fold_L2 t cl) (fun i => (sn (fkids t c) i, lev (fkids t c) i)) (fun e => e = sn (fkids t c) q) 0 q (by omega) (fun i _ hi => by
    left
    unfold tree_Fold_L2
    have h1 := List.length_pos_iff.2 (q4 i hi)
    have h2 := hfo.lev_le i
    have h3 := hfo.lev_le (i + 1)
    have h4 : lev (fkids t c) (i + 1) = (lev (fkids t c) i).flatMap (fkids t c) := rfl
    have e1 : decide (0 < ((lev (fkids t c) i).length : Int)) = true := by simp; omega
    simp only [e1, cond_true, bnd_eq]
    rw [need_of (by rw [room_iff]; omega), rfor_flat (fkids t c) (by omega) (by rw [← h4]; omega) (fun j s hj hb => by
      unfold tree_Fold_L3
      have hin : inR (lev (fkids t c) i) (j : Int) := ⟨by omega, by omega⟩
      have hr := hfo.lev_in (gx_mem hin)
      simp only [bnd_eq]
      rw [need_of hin, need_of ⟨hr.1, by rw [hcl]; exact hr.2⟩, hc _ hr.1 hr.2]
      generalize gx (lev (fkids t c) i) (j : Int) = k at hr hb ⊢
      cases hck : c k with
      | true => rw [fkids_t hck]; simp
      | false =>
        rw [fkids_f hck] at hb ⊢
        simp only [Bool.not_false, cond_true]
        rw [need_of ⟨hr.1, hr.2⟩]
        exact need_of (show room _ from hb))]
    rw [bind_sm]; rfl) (by
    refine ⟨_, ?_, rfl⟩
    unfold tree_Fold_L2
    simp [q3])
  have e0 : loop (tree_Fold_L2 t cl) ([], [0]) = some e := he
  rw [e0, hp]

theorem FoldOf_step {t : List Branch} {folded : List Int} {c : Int → Bool} (hf : (folded.length : Int) ≤ 9223372036854775807) (hc : ∀ k, c k = decide (k ∈ folded)) {k : Int} {out rest : List Int} (h0 : 0 ≤ k) (h1 : k < t.length) (ho : out.length ≤ 1000) (hr : (rest.length + 1) + (fkids t c k).length ≤ 1000) :
    ref_FoldOf_L1 t folded (out, k :: rest) = some (.again (out ++ [k], rest ++ fkids t c k)) := by
  unfold ref_FoldOf_L1
  have e1 : decide (0 < ((k :: rest).length : Int)) = true := by simp
  have hin : inR (k :: rest) 0 := ⟨by omega, by simp⟩
  have hg : gx (k :: rest) 0 = k := rfl
  simp only [e1, cond_true, hg, bnd_eq]
  rw [need_of hin, need_of (by rw [room_iff]; simp; omega), need_of hin, Contains_int_eq _ _ hf]
  simp only [bind_sm]
  have hseg : ∀ x : List Int, seg (k :: x) 1 ((k :: x).length : Int) = x := fun x => by unfold seg; simp
  cases hd : decide (k ∈ folded) with
  | true =>
    rw [fkids_t (by rw [hc k, hd])]
    simp only [Bool.not_true, cond_false, bind_sm, if_true, List.append_nil]
    rw [need_of (by rw [segR_iff]; simp; omega), hseg]
  | false =>
    rw [fkids_f (by rw [hc k, hd])] at hr ⊢
    simp only [Bool.not_false, cond_true]
    have e0 : (gx t k).Kids = kidsOf t k := rfl
    rw [need_of hin, need_of ⟨h0, h1⟩, e0, need_of (by rw [room_iff]; simp; omega)]
    simp only [bind_sm]
    rw [need_of (by rw [segR_iff]; simp; omega), List.cons_append, hseg]

theorem FoldOf_eq {t : List Branch} {m : Nat} (h : TreeOK t m) {folded : List Int} (hf : (folded.length : Int) ≤ 9223372036854775807) {c : Int → Bool} (hc : ∀ k, c k = decide (k ∈ folded)) {q : Nat} (hq : lev (fkids t c) q = []) :
    ref_FoldOf t folded = slices_Sort_int (sn (fkids t c) q) := by
  have hl := h.len
  have hfo := fkids_fo h c
  -- one level after the other, one node after the other
  have hrun : ∀ (l a : List Int) (i : Nat), lev (fkids t c) i = a ++ l → loop (ref_FoldOf_L1 t folded) (sn (fkids t c) i ++ a, l ++ a.flatMap (fkids t c)) = loop (ref_FoldOf_L1 t folded) (sn (fkids t c) (i + 1), lev (fkids t c) (i + 1)) := by
    intro l
    induction l with
    | nil =>
      intro a i hi
      rw [List.append_nil] at hi
      rw [List.nil_append, ← hi]; rfl
    | cons k l ih =>
      intro a i hi
      have hk : k ∈ lev (fkids t c) i := by rw [hi]; simp
      have hr := hfo.lev_in hk
      have h2 := hfo.lev_le i
      have h3 := hfo.lev_le (i + 1)
      have h4 : lev (fkids t c) (i + 1) = (lev (fkids t c) i).flatMap (fkids t c) := rfl
      rw [h4, hi] at h3
      rw [hi] at h2
      simp only [List.flatMap_append, List.flatMap_cons, List.length_append, List.length_cons] at h2 h3
      rw [List.cons_append, loop_again (FoldOf_step hf hc hr.1 hr.2 (by rw [List.length_append]; omega) (by rw [List.length_append]; omega))]
      have := ih (a ++ [k]) i (by rw [hi]; simp)
      rw [← this]
      congr 1
      simp [List.flatMap_append]
  have hall : ∀ i : Nat, loop (ref_FoldOf_L1 t folded) ([], [0]) = loop (ref_FoldOf_L1 t folded) (sn (fkids t c) i, lev (fkids t c) i) := by
    intro i
    induction i with
    | zero => rfl
    | succ i ih =>
      rw [ih]
      have := hrun (lev (fkids t c) i) [] i rfl
      simpa using this
  have hdone : loop (ref_FoldOf_L1 t folded) (sn (fkids t c) q, lev (fkids t c) q) = some (sn (fkids t c) q) := by
    apply loop_done
    unfold ref_FoldOf_L1
    simp [hq]
  unfold ref_FoldOf
  simp only [bnd_eq]
  rw [hall q, hdone, bind_sm]
  cases slices_Sort_int (sn (fkids t c) q) <;> rfl

theorem sort_sn {t : List Branch} {m : Nat} (h : TreeOK t m) (c : Int → Bool) (q : Nat) : slices_Sort_int (sn (fkids t c) q) = some (sortI (sn (fkids t c) q)) ∧ (sortI (sn (fkids t c) q)).length ≤ 300 := by
  have h1 := (fkids_fo h c).sn_le q
  have h2 := h.len
  refine ⟨?_, by simp [sortI]; omega⟩
  unfold slices_Sort_int
  rw [need_of (by omega)]

/-! The law. -/

theorem lists_eq {g : List Int} {r : Option (List Int)} {x : List Int} (hr : r = some x) (hl : g.length ≤ 1000) : law_lists_int g 0 0 r = some (decide (g = x)) := by
  unfold law_lists_int
  subst hr
  simp only [decide_true, Bool.not_true, cond_false, gd_true, bind_sm]
  rw [Equal_int_eq _ _ (by omega)]
  simp
theorem lists_bad {e : Int} {r : Option (List Int)} (he : e ≠ 0) : law_lists_int [] e e r = some true := by
  unfold law_lists_int; simp [he]

theorem fold_first {t : List Branch} {folded : List Int} {own : Int} (hf : (folded.length : Int) ≤ 9223372036854775807) (ht : (t.length : Int) ≤ 9223372036854775807) (ho : own ≠ 0) : rfor (folded.length : Int) (law_TreesMatch_L1 t folded) own = some own := by
  obtain ⟨s, h1, h2⟩ := rfor_inv (n := (folded.length : Int)) (step := law_TreesMatch_L1 t folded) (s0 := own) (fun i s => s = own) hf rfl (fun i s hi hI => by
    subst hI
    unfold law_TreesMatch_L1
    rw [need_of ⟨by omega, hi⟩]
    simp only [bnd_eq, In_eq, bind_sm, When_eq]
    rw [need_of (by rw [segR_iff]; omega), Contains_int_eq _ _ (by unfold seg; simp; omega)]
    simp only [bind_sm, When_eq, first3, firstErr_cons, ho, if_false]
    exact ⟨_, rfl, rfl⟩)
  rw [h1, h2]

/-- The first number that is wrong or comes twice. -/
theorem fold_marks {t : List Branch} {folded : List Int} (h0 : 0 < t.length) (hn : t.length ≤ 300) (hf : (folded.length : Int) ≤ 9223372036854775807) :
    (∃ e : Int, e ≠ 0 ∧ rforE (folded.length : Int) (tree_Fold_L1 t folded) (fun s => (Res.nx s : Res (List Bool) (List Int × Int))) (List.replicate t.length false) = some (.ab ([], e)) ∧ rfor (folded.length : Int) (law_TreesMatch_L1 t folded) 0 = some e) ∨
    (∃ cl, rforE (folded.length : Int) (tree_Fold_L1 t folded) (fun s => (Res.nx s : Res (List Bool) (List Int × Int))) (List.replicate t.length false) = some (.nx cl) ∧ rfor (folded.length : Int) (law_TreesMatch_L1 t folded) 0 = some 0 ∧ cl.length = t.length ∧ ∀ k : Int, 0 ≤ k → k < t.length → gx cl k = decide (k ∈ folded)) := by
  have hstep : ∀ (i : Nat), i < folded.length → ∀ w : Int, law_TreesMatch_L1 t folded i w = some (if w ≠ 0 then w else if 0 ≤ gx folded (i : Int) ∧ gx folded (i : Int) < t.length then (if gx folded (i : Int) ∈ folded.take i then 6 else 0) else 10) := by
    intro i hi w
    unfold law_TreesMatch_L1
    rw [need_of ⟨by omega, by omega⟩]
    simp only [bnd_eq, In_eq, bind_sm, When_eq]
    have hs : seg folded 0 (i : Int) = folded.take i := by unfold seg; simp
    rw [need_of (by rw [segR_iff]; omega), hs, Contains_int_eq _ _ (by simp; omega), Wk (by omega) (by omega)]
    simp only [bind_sm, When_eq, first3, firstErr_cons, firstErr_nil]
    generalize gx folded (i : Int) = k
    by_cases hw : w = 0
    · by_cases hr : 0 ≤ k ∧ k < t.length
      · have e1 : 0 ≤ k ∧ k ≤ (t.length : Int) - 1 := by omega
        by_cases hm : k ∈ folded.take i
        · simp [hw, hr, e1, hm]
        · simp [hw, hr, e1, hm]
      · have e1 : decide (0 ≤ k ∧ k ≤ (t.length : Int) - 1) = false := by simp; omega
        simp [hw, hr, e1]
    · simp [hw]
  have hlate : ∀ (d i : Nat) (w : Int), i + d = folded.length → w ≠ 0 → rgo (law_TreesMatch_L1 t folded) d (i : Int) w = some w := by
    intro d
    induction d with
    | zero => intro i w _ _; rfl
    | succ d ih =>
      intro i w hi hw
      simp only [rgo, hstep i (by omega) w, hw, ne_eq, not_false_eq_true, if_true]
      have := ih (i + 1) w (by omega) hw
      simpa using this
  rw [rforE_eq hf, rfor_eq hf]
  have key : ∀ (d i : Nat) (s : List Bool), i + d = folded.length → s.length = t.length → (∀ k : Int, 0 ≤ k → k < t.length → gx s k = decide (k ∈ folded.take i)) →
      (∃ e : Int, e ≠ 0 ∧ rgoE (tree_Fold_L1 t folded) (fun s => (Res.nx s : Res (List Bool) (List Int × Int))) d (i : Int) s = some (.ab ([], e)) ∧ rgo (law_TreesMatch_L1 t folded) d (i : Int) 0 = some e) ∨
      (∃ cl, rgoE (tree_Fold_L1 t folded) (fun s => (Res.nx s : Res (List Bool) (List Int × Int))) d (i : Int) s = some (.nx cl) ∧ rgo (law_TreesMatch_L1 t folded) d (i : Int) 0 = some 0 ∧ cl.length = t.length ∧ ∀ k : Int, 0 ≤ k → k < t.length → gx cl k = decide (k ∈ folded)) := by
    intro d
    induction d with
    | zero =>
      intro i s hi hl hs
      right
      refine ⟨s, rfl, rfl, hl, fun k k0 k1 => ?_⟩
      rw [hs k k0 k1, List.take_of_length_le (by omega)]
    | succ d ih =>
      intro i s hi hl hs
      have hi' : i < folded.length := by omega
      have hin : inR folded (i : Int) := ⟨by omega, by omega⟩
      have hst := hstep i hi' 0
      simp only [ne_eq, not_true_eq_false, if_false] at hst
      have hnext := ih (i + 1)
      rw [take_one hi'] at hnext
      have hF : tree_Fold_L1 t folded (i : Int) s = (bif !(decide (0 ≤ gx folded (i : Int)) && decide (gx folded (i : Int) < (t.length : Int))) then some (Res.ab (Res.ab (([] : (List Int)), 10))) else need (inR s (gx folded (i : Int))) (bif gx s (gx folded (i : Int)) then some (Res.ab (Res.ab (([] : (List Int)), 6))) else need (inR s (gx folded (i : Int))) (some (Res.nx (s.set (gx folded (i : Int)).toNat true))))) := by
        unfold tree_Fold_L1 tree_isNode
        rw [need_of hin]
        simp only [bnd_eq, bind_sm]
      simp only [rgoE, rgo, hst, hF]
      generalize gx folded (i : Int) = k at hnext ⊢
      by_cases hr : 0 ≤ k ∧ k < (t.length : Int)
      · have e1 : (decide (0 ≤ k) && decide (k < (t.length : Int))) = true := by simpa using hr
        have hks : inR s k := ⟨hr.1, by rw [hl]; exact hr.2⟩
        simp only [e1, Bool.not_true, cond_false]
        rw [need_of hks, hs k hr.1 hr.2, if_pos hr]
        by_cases hm : k ∈ folded.take i
        · left
          refine ⟨6, by decide, ?_, ?_⟩
          · simp [hm]
          · rw [if_pos hm]
            have := hlate d (i + 1) 6 (by omega) (by decide)
            simpa using this
        · rw [if_neg hm]
          simp only [hm, decide_false, cond_false]
          rw [need_of hks]
          have := hnext (s.set k.toNat true) (by omega) (by simpa using hl) (fun j j0 j1 => by
            rw [gx_setB hks j0]
            by_cases e : j = k
            · subst e; simp
            · rw [if_neg e, hs j j0 j1]; simp [e])
          simpa using this
      · left
        have e1 : (decide (0 ≤ k) && decide (k < (t.length : Int))) = false := by simp; omega
        refine ⟨10, by decide, ?_, ?_⟩
        · simp only [e1, Bool.not_false, cond_true]
        · rw [if_neg hr]
          have := hlate d (i + 1) 10 (by omega) (by decide)
          simpa using this
  have h00 := key folded.length 0 (List.replicate t.length false) (by omega) (by simp) (fun k k0 k1 => by
    have hk' : k.toNat < t.length := by omega
    simp [gx, List.getElem?_replicate, hk'])
  simpa using h00

theorem leaves_list {t : List Branch} {m : Nat} (h : TreeOK t m) : law_TreesMatch_1 t = some ((List.range t.length).map (fun k : Nat => (val (kidsOf t) m (k : Int) : Int))) := by
  have hl := h.len
  unfold law_TreesMatch_1
  obtain ⟨s, h1, h2⟩ := rfor_inv (n := (t.length : Int)) (step := law_TreesMatch_1_L1 t) (s0 := ([] : List Int)) (fun i s => s = (List.range i).map (fun k : Nat => (val (kidsOf t) m (k : Int) : Int))) (by omega) rfl (fun i s hi hI => by
    subst hI
    unfold law_TreesMatch_1_L1
    rw [LeavesOf_eq h (by omega) hi]
    simp only [bind_sm]
    rw [need_of (by rw [room_iff]; simp; omega)]
    exact ⟨_, rfl, by rw [List.range_succ, List.map_append]; rfl⟩)
  rw [h1, h2]; rfl

theorem EqualFunc_refl {l : List (List Int)} (hl : (l.length : Int) ≤ 9223372036854775807) (hx : ∀ x ∈ l, (x.length : Int) ≤ 9223372036854775807) : slices_EqualFunc_int l l law_TreesMatch_2 = some true := by
  unfold slices_EqualFunc_int
  simp only [decide_true, Bool.not_true, cond_false]
  rw [rforE_alls (n := l.length) (fun _ => true) (Res.ab false) hl (fun i hi => by
    unfold slices_EqualFunc_int_L1 law_TreesMatch_2
    have hin : inR l (i : Int) := ⟨by omega, by omega⟩
    rw [need_of hin, need_of hin, Equal_int_eq _ _ (hx _ (gx_mem hin))]
    simp)]
  simp

theorem TreesMatch_true (t : List Branch) (a b : Int) (folded : List Int) (ht : fits t) (hf : fits folded) : law_TreesMatch t a b folded = some true := by
  have hf' : (folded.length : Int) ≤ 9223372036854775807 := by have := (fits_list.1 hf).1; omega
  have ht' : (t.length : Int) ≤ 9223372036854775807 := by have := (fits_list.1 ht).1; omega
  obtain ⟨hce, own, hown, hok⟩ := Check_eq t ht
  unfold law_TreesMatch
  rw [← hce, hown]
  simp only [bind_sm, trees_eq, Bool.not_true, Bool.not_false, gd_true, decide_true, Bool.or_self, hown, In_eq, When_eq, first2, firstErr_cons, firstErr_nil]
  by_cases h0 : own = 0
  · obtain ⟨m, h⟩ := hok h0
    subst h0
    have hl := h.len
    have hp := h.pos
    obtain ⟨o, o1, o2, o3⟩ := leaves_eq h
    have hol : o = (List.range t.length).map (fun k : Nat => (val (kidsOf t) m (k : Int) : Int)) := by
      refine List.ext_getElem (by simp [o2]) (fun i h1 h2 => ?_)
      have := o3 (i : Int) (by omega) (by omega)
      rw [gx_nat h1] at this
      simpa using this
    have e1 : tree_Leaves t = some (o, 0) := by unfold tree_Leaves; simp [hown, o1]
    have e2 : tree_Levels t = some ((List.range m).map (lev (kidsOf t)), 0) := by unfold tree_Levels; simp [hown, h.levels]
    obtain ⟨k, k1, k2⟩ := Halves_eq h hown
    rw [e1, bind_sm]
    simp only
    rw [lists_eq (leaves_list h) (by omega), hol]
    simp only [decide_true, bind_sm, Bool.not_true, Bool.or_self, cond_false, e2, Bool.false_and, Bool.not_false, Bool.true_and, gd_true, levelsOf_eq, h.levels]
    rw [EqualFunc_refl (by simp; have := h.m2; omega) (fun x hx => by
      obtain ⟨i, _, rfl⟩ := List.mem_map.1 hx
      have := h.fo.lev_le i; omega)]
    simp only [bind_sm, Bool.not_true, Bool.or_self, Bool.and_false, cond_false, k1, if_true]
    have hsame : ∃ r8 : Bool × Int, tree_Same t a b = some r8 ∧ ∀ none1, none1 = (if (!decide (0 ≤ a ∧ a ≤ (t.length : Int) - 1) || !decide (0 ≤ b ∧ b ≤ (t.length : Int) - 1)) = true then (10 : Int) else 0) → law_is_bool r8.1 r8.2 none1 (law_TreesMatch_3 t a b) = some true := by
      unfold tree_Same tree_isNode
      rw [hown, bind_sm]
      simp only [decide_true, Bool.not_true, cond_false, bind_sm]
      by_cases ha : 0 ≤ a ∧ a < (t.length : Int)
      · by_cases hb : 0 ≤ b ∧ b < (t.length : Int)
        · obtain ⟨r, r1, r2⟩ := same_eq h ha.1 ha.2 hb.1 hb.2
          have a1 : (decide (0 ≤ a) && decide (a < (t.length : Int))) = true := by simpa using ha
          have b1 : (decide (0 ≤ b) && decide (b < (t.length : Int))) = true := by simpa using hb
          have a2 : decide (0 ≤ a ∧ a ≤ (t.length : Int) - 1) = true := by simp; omega
          have b2 : decide (0 ≤ b ∧ b ≤ (t.length : Int) - 1) = true := by simp; omega
          simp only [a1, b1, a2, b2, Bool.not_true, Bool.not_false, gd_true, bind_sm, Bool.or_self, cond_false, r1]
          refine ⟨_, rfl, fun n hn => ?_⟩
          subst hn
          unfold law_is_bool law_TreesMatch_3
          rw [r2]; simp
        · have a1 : (decide (0 ≤ a) && decide (a < (t.length : Int))) = true := by simpa using ha
          have b1 : (decide (0 ≤ b) && decide (b < (t.length : Int))) = false := by simp; omega
          have b2 : decide (0 ≤ b ∧ b ≤ (t.length : Int) - 1) = false := by simp; omega
          simp only [a1, b1, b2, Bool.not_true, Bool.not_false, gd_true, bind_sm, Bool.or_true, cond_true, if_true]
          refine ⟨_, rfl, fun n hn => ?_⟩
          subst hn
          unfold law_is_bool; simp
      · have a1 : (decide (0 ≤ a) && decide (a < (t.length : Int))) = false := by simp; omega
        have a2 : decide (0 ≤ a ∧ a ≤ (t.length : Int) - 1) = false := by simp; omega
        simp only [a1, a2, Bool.not_true, Bool.not_false, gd_false, bind_sm, Bool.true_or, cond_true, if_true]
        refine ⟨_, rfl, fun n hn => ?_⟩
        subst hn
        unfold law_is_bool; simp
    obtain ⟨r8, s1, s2⟩ := hsame
    rw [s1, bind_sm, Wk (by omega) (by omega)]
    have hgd : ∃ v : Bool, gd (!!decide (0 ≤ a ∧ a ≤ (t.length : Int) - 1)) (some (decide (0 ≤ b ∧ b ≤ (t.length : Int) - 1))) = some v ∧ (!decide (0 ≤ a ∧ a ≤ (t.length : Int) - 1) || !v) = (!decide (0 ≤ a ∧ a ≤ (t.length : Int) - 1) || !decide (0 ≤ b ∧ b ≤ (t.length : Int) - 1)) := by
      cases decide (0 ≤ a ∧ a ≤ (t.length : Int) - 1) with
      | true => exact ⟨_, rfl, rfl⟩
      | false => exact ⟨_, rfl, rfl⟩
    obtain ⟨v, v1, v2⟩ := hgd
    rw [v1]
    simp only [bind_sm]
    rw [v2, s2 _ (by split <;> simp)]
    have hh : law_is_int k 0 0 (law_TreesMatch_4 t) = some true := by unfold law_is_int law_TreesMatch_4; rw [k2]; simp
    simp only [bind_sm, hh, Bool.not_true, Bool.not_false, gd_true, Bool.or_self, cond_false]
    unfold tree_Fold
    rw [hown, bind_sm]
    simp only [decide_true, Bool.not_true, cond_false, bnd_eq]
    rw [need_of (by omega)]
    simp only [Int.toNat_natCast]
    rcases fold_marks hp hl hf' with ⟨e, e0, f1, f2⟩ | ⟨cl, f1, f2, f3, f4⟩
    · rw [f1, f2]
      simp only [bindR_ab, bind_sm]
      rw [lists_bad e0]; rfl
    · rw [f1, f2]
      simp only [bindR_nx, bind_sm]
      obtain ⟨q, q1, q2⟩ := Fold_loop h f3 (c := fun k => decide (k ∈ folded)) f4
      obtain ⟨z1, z2⟩ := sort_sn h (fun k => decide (k ∈ folded)) q
      rw [q1, bind_sm, z1, bind_sm]
      have hfo : law_TreesMatch_5 t folded = some (sortI (sn (fkids t (fun k => decide (k ∈ folded))) q)) := by
        unfold law_TreesMatch_5; rw [FoldOf_eq h hf' (c := fun k => decide (k ∈ folded)) (fun _ => rfl) q2, z1]; rfl
      rw [bind_sm]
      simp only
      rw [lists_eq hfo (by omega)]
      simp
  · have e1 : tree_Leaves t = some ([], own) := by unfold tree_Leaves; simp [hown, h0]
    have e2 : tree_Levels t = some ([], own) := by unfold tree_Levels; simp [hown, h0]
    have e3 : tree_Same t a b = some (false, own) := by unfold tree_Same; simp [hown, h0]
    have e4 : tree_Halves t = some (0, own) := by unfold tree_Halves; simp [hown, h0]
    have e5 : tree_Fold t folded = some ([], own) := by unfold tree_Fold; simp [hown, h0]
    have i1 : ∀ r, law_is_bool false own own r = some true := fun r => by unfold law_is_bool; simp [h0]
    have i2 : ∀ r, law_is_int 0 own own r = some true := fun r => by unfold law_is_int; simp [h0]
    have e6 := fold_first (t := t) hf' ht' h0
    rw [e1, bind_sm, lists_bad h0]
    simp only [bind_sm, Bool.not_true, Bool.or_self, cond_false, e2, h0, decide_false, Bool.not_false, Bool.and_false, Bool.false_and, Bool.true_and, gd_false, if_false, e3, e4, e5]
    have hgd : ∀ x y : Bool, ∃ v, gd x (some y) = some v := fun x y => by cases x <;> exact ⟨_, rfl⟩
    obtain ⟨v, hv⟩ := hgd (!!decide (0 ≤ a ∧ a ≤ W ((t.length : Int) - 1))) (decide (0 ≤ b ∧ b ≤ W ((t.length : Int) - 1)))
    rw [hv]
    simp [i1, i2, e6, lists_bad h0]

end Go.DB
