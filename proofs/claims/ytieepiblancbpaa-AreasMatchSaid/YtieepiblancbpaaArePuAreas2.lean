/-
  The program's ring: the points in order; the corners.
-/
import Derived.Test.YtieepiblancbpaaArePuAreas1
set_option linter.unusedSimpArgs false
set_option linter.unusedVariables false
namespace Go.DB
open Go Go.RowKit Go.DB.Hull

/-! In order. -/
theorem lx_one {a b : Point} : lx 1 a b ↔ a.X < b.X ∨ a.X = b.X ∧ a.Y < b.Y := by unfold lx Ps; omega
theorem key (a b : Point) (q1 : sortQ_Point a) (q2 : sortQ_Point b) (h : ¬ sortC_Point ⟨b, q2⟩ ⟨a, q1⟩ < 0) : a = b ∨ lx 1 a b := by
  unfold sortC_Point at h
  unfold sortQ_Point at q1 q2
  obtain ⟨ax, ay⟩ := a
  obtain ⟨bx, by_⟩ := b
  simp only at h q1 q2
  rw [W_eq ⟨by omega, by omega⟩, W_eq ⟨by omega, by omega⟩] at h
  rw [lx_one]
  simp only [Point.mk.injEq] at *
  split at h <;> omega
theorem sorted_pts {l : List Point} (hq : ∀ x ∈ l, okP x) {s : List Point} (hs : slices_SortFunc_Point l = some s) : s.Perm l ∧ ∀ (i j : Nat) (hij : i < j) (hj : j < s.length), s[i] = s[j] ∨ lx 1 s[i] s[j] := by
  obtain ⟨hl, h⟩ := need_some hs
  obtain rfl := some_eq h
  have hO : Sort.SWO (Proofs.ltOf sortC_Point) := by
    have h : ∀ x y, Proofs.ltOf sortC_Point x y = decide (x.1.X < y.1.X ∨ x.1.X = y.1.X ∧ x.1.Y < y.1.Y) := fun ⟨x, hx⟩ ⟨y, hy⟩ => by
      unfold Proofs.ltOf sortC_Point sortQ_Point at *
      rw [W_eq ⟨by simp only; omega, by simp only; omega⟩, W_eq ⟨by simp only; omega, by simp only; omega⟩, decide_eq_decide]
      simp only
      split <;> omega
    constructor
    · intro x; rw [h]; simp
    · intro x y z h1 h2; rw [h] at *; simp at *; omega
    · intro x y z h1 h2; rw [h] at *; simp at *; omega
  obtain ⟨hp, hs⟩ := sortF_holds (l := l) hO hl.2
  refine ⟨hp, fun i j hij hj => ?_⟩
  have q1 := hl.2 _ (hp.mem_iff.1 (List.getElem_mem (Nat.lt_trans hij hj)))
  have q2 := hl.2 _ (hp.mem_iff.1 (List.getElem_mem hj))
  exact key _ _ q1 q2 (hs i j hij hj q1 q2)
theorem SortFunc_some {l : List Point} (hq : ∀ x ∈ l, okP x) (hl : l.length ≤ 1000) : ∃ s, slices_SortFunc_Point l = some s := by
  unfold slices_SortFunc_Point
  exact ⟨_, need_of ⟨by omega, fun x hx => by have := hq x hx; unfold okP at this; unfold sortQ_Point; omega⟩⟩
theorem keepC_ris {s : List Point} (hs : ∀ (i j : Nat) (hij : i < j) (hj : j < s.length), s[i] = s[j] ∨ lx 1 s[i] s[j]) : ∀ {n : Nat}, n ≤ s.length → Ris 1 (keepC s n)
  | 0, _ => .nil
  | n + 1, h => by
    have ih := keepC_ris hs (n := n) (by omega)
    rw [keepC]
    refine List.pairwise_append.2 ⟨ih, by split <;> simp, fun a ha b hb => ?_⟩
    split at hb
    · rename_i c
      rw [List.mem_singleton.1 hb, gx_nat (by omega)]
      have hn : ¬ n = 0 := by
        intro e; subst e; simp [keepC] at ha
      have c' := c.resolve_left hn
      rw [gx_nat (by omega), show ((n : Int) - 1) = ((n - 1 : Nat) : Int) by omega, gx_nat (by omega)] at c'
      obtain ⟨i, hi, rfl⟩ := List.mem_take_iff_getElem.1 ((keepC_mem (s := s) (n := n) (by omega) a).1 ha)
      have hi' : i < n := by omega
      have h1 := (hs (n - 1) n (by omega) (by omega)).resolve_left (fun e => c' e.symm)
      by_cases e : i = n - 1
      · subst e; exact h1
      · rcases hs i (n - 1) (by omega) (by omega) with h2 | h2
        · rw [h2]; exact h1
        · exact lx_trans h2 h1
    · cases hb
/-- The points in order, each once. -/
theorem ordered {l : List Point} (hq : ∀ x ∈ l, okP x) (hl : l.length ≤ 1000) : ∃ s L, slices_SortFunc_Point l = some s ∧ slices_Compact_Point s = some L ∧ Ris 1 L ∧ (∀ x, x ∈ L ↔ x ∈ l) ∧ L.length ≤ 1000 := by
  obtain ⟨s, h1⟩ := SortFunc_some hq hl
  obtain ⟨hp, hs⟩ := sorted_pts hq h1
  have hsl := hp.length_eq
  have := keepC_len s s.length
  refine ⟨s, _, h1, Compact_eq (by omega), keepC_ris hs (Nat.le_refl _), fun x => ?_, by omega⟩
  rw [keepC_mem (Nat.le_refl _), List.take_length]
  exact hp.mem_iff

/-! The other way round. -/
theorem Reverse_eq {l : List Point} (hl : l.length ≤ 100000) : slices_Reverse_Point l = some l.reverse := by
  unfold slices_Reverse_Point
  rw [bnd_eq, Wk (by omega) (by omega)]
  obtain ⟨e, h1, h2⟩ := loop_inv (body := slices_Reverse_Point_L1) (s0 := ((0 : Int), (l.length : Int) - 1, l))
    (fun st => 0 ≤ st.1 ∧ st.1 + st.2.1 = (l.length : Int) - 1 ∧ -1 ≤ st.2.1 ∧ st.2.2.length = l.length ∧ ∀ k : Nat, k < l.length → gx st.2.2 (k : Int) = if (k : Int) < st.1 ∨ st.2.1 < k then gx l ((l.length : Int) - 1 - k) else gx l (k : Int))
    (fun st => (l.length - st.1).toNat) (fun e => e = l.reverse)
    ⟨by simp, by simp, by simp only; omega, rfl, fun k hk => by rw [if_neg (by simp only; omega)]⟩ (fun st hI => by
      obtain ⟨i, j, z⟩ := st
      obtain ⟨i1, i2, i3, i4, i5⟩ := hI
      simp only at i1 i2 i3 i4 i5
      unfold slices_Reverse_Point_L1
      simp only
      by_cases c : i < j
      · left
        obtain ⟨n, rfl⟩ := Int.eq_ofNat_of_zero_le i1
        obtain ⟨m, rfl⟩ := Int.eq_ofNat_of_zero_le (show 0 ≤ j by omega)
        rw [decide_eq_true c, cond_true, need_of ⟨by omega, by omega⟩, bnd_eq, need_of ⟨by omega, by omega⟩, bnd_eq, need_of ⟨by omega, by omega⟩, need_of ⟨by omega, by simp; omega⟩, bnd_eq, bnd_eq, bnd_eq, Wk (by omega) (by omega), Wk (by omega) (by omega)]
        refine ⟨_, rfl, ⟨by simp only; omega, by simp only; omega, by simp only; omega, by simp [i4], fun k hk => ?_⟩, by simp only; omega⟩
        simp only [Int.toNat_natCast]
        rw [gx_nat (by simp; omega), List.getElem_set, List.getElem_set]
        by_cases c1 : m = k
        · subst c1
          rw [if_pos rfl, if_pos (by omega), i5 n (by omega), if_neg (by omega)]
          congr 1; omega
        · rw [if_neg c1]
          by_cases c2 : n = k
          · subst c2
            rw [if_pos rfl, if_pos (by omega), i5 m (by omega), if_neg (by omega)]
            congr 1; omega
          · rw [if_neg c2]
            have := i5 k hk
            rw [gx_nat (by omega)] at this
            rw [this]
            by_cases c3 : (k : Int) < n ∨ (m : Int) < k
            · rw [if_pos c3, if_pos (by omega)]
            · rw [if_neg c3, if_neg (by omega)]
      · right
        rw [decide_eq_false c, cond_false]
        refine ⟨_, rfl, List.ext_getElem (by simp [i4]) fun k h1 h2 => ?_⟩
        have hk : k < l.length := by omega
        have := i5 k hk
        rw [gx_nat (by omega)] at this
        rw [this, List.getElem_reverse]
        by_cases c3 : (k : Int) < i ∨ j < k
        · rw [if_pos c3, show (l.length : Int) - 1 - k = ((l.length - 1 - k : Nat) : Int) by omega, gx_nat (by omega)]
        · rw [if_neg c3, gx_nat (by omega)]
          congr 1; omega)
  rw [h1, h2]

/-! The ring. -/
theorem nilc_pos {α β : Type} {l : List α} {a b : Option β} (h : l ≠ []) : nilc l a b = b := by
  cases l with
  | nil => exact (h rfl).elim
  | cons x l => simp [nilc]
theorem Clone_Point_eqA {l : List Point} (hl : l.length ≤ 1000) (hne : l ≠ []) : slices_Clone_Point l = some l := by
  unfold slices_Clone_Point
  rw [nilc_pos hne, need_of (by rw [room_iff]; simp; omega), bnd_eq]; rfl
theorem there_len {l : List Point} : (there l).length ≤ l.length := by unfold there; rw [List.length_reverse]; exact half_len l
/-- What the program's Convex comes to. -/
theorem Convex_eq {l : List Point} (h : ptsErr l = 0) (hne : l ≠ []) : ∃ L, Ris 1 L ∧ (∀ x, x ∈ L ↔ x ∈ l) ∧ L.length ≤ 1000 ∧ geom_Convex l = some (if L.length = 1 then L else hull L, 0) := by
  obtain ⟨hl, hq⟩ := ptsErr_zero.1 h
  obtain ⟨s, L, h1, h2, h3, h4, h5⟩ := ordered hq hl
  refine ⟨L, h3, h4, h5, ?_⟩
  have hLne : L ≠ [] := by
    intro e
    cases l with
    | nil => exact hne rfl
    | cons x r => have := (h4 x).2 (by simp); rw [e] at this; cases this
  have hLq : ∀ x ∈ L, okP x := fun x hx => hq x ((h4 x).1 hx)
  unfold geom_Convex
  rw [CheckPoints_eq, h]
  have l0 : decide ((l.length : Int) = 0) = false := decide_eq_false (by cases l with
    | nil => exact (hne rfl).elim
    | cons x r => simp; omega)
  simp only [bind_sm, decide_true, Bool.not_true, cond_false, l0]
  rw [Clone_Point_eqA hl hne, bind_sm, h1, bind_sm, h2, bind_sm]
  by_cases c : L.length = 1
  · rw [decide_eq_true (by omega), cond_true, if_pos c]
  · rw [decide_eq_false (by omega), cond_false, if_neg c, half_eq h5 hLne hLq, bind_sm, Reverse_eq (by omega), bind_sm, half_eq (by simpa using h5) (by simpa using hLne) (fun x hx => hLq x (List.mem_reverse.1 hx)), bind_sm]
    have a1 := there_len (l := L)
    have a2 := there_len (l := L.reverse)
    rw [List.length_reverse] at a2
    rw [need_of (by rw [room_iff]; simp; omega)]; rfl
end Go.DB
