/-
  The reference's ring: round the points.
-/
import Derived.Test.YtieepiblancbpaaArePuAreas2
set_option linter.unusedSimpArgs false
set_option linter.unusedVariables false
namespace Go.DB
open Go Go.RowKit Go.DB.Hull

theorem less_eq {a b : Point} (ha : okP a) (hb : okP b) : ∃ n, ref_ConvexOf_1 a b = some n ∧ (n < 0 ↔ lx 1 a b) := by
  unfold ref_ConvexOf_1
  rw [(Wsub ha hb).1, (Wsub ha hb).2]
  by_cases c : a.X = b.X
  · rw [decide_eq_true c]; exact ⟨_, rfl, by rw [lx_one]; omega⟩
  · rw [decide_eq_false c]; exact ⟨_, rfl, by rw [lx_one]; omega⟩
theorem MinFunc_eq {l : List Point} (hl : l.length ≤ 1000) (hne : l ≠ []) (hq : ∀ x ∈ l, okP x) : ∃ m, slices_MinFunc_Point l ref_ConvexOf_1 = some m ∧ m ∈ l ∧ ∀ x ∈ l, x = m ∨ lx 1 m x := by
  unfold slices_MinFunc_Point
  have h0 : 0 < l.length := by cases l with
    | nil => exact (hne rfl).elim
    | cons x r => simp
  rw [bnd_eq, decide_eq_false (by omega), cond_false, need_of ⟨by omega, by omega⟩, bnd_eq]
  obtain ⟨e, h1, h2⟩ := loop_inv (body := slices_MinFunc_Point_L1 l ref_ConvexOf_1) (s0 := ((1 : Int), gx l 0))
    (fun st => 1 ≤ st.1 ∧ st.1 ≤ l.length ∧ st.2 ∈ l ∧ ∀ (k : Nat) (hk : k < l.length), (k : Int) < st.1 → l[k] = st.2 ∨ lx 1 st.2 l[k])
    (fun st => (l.length - st.1).toNat) (fun e => e ∈ l ∧ ∀ x ∈ l, x = e ∨ lx 1 e x)
    ⟨by simp, by simp only; omega, gx_mem ⟨by omega, by omega⟩, fun k hk hk' => by
      simp only at hk'
      obtain rfl : k = 0 := by omega
      left
      rw [show (0 : Int) = ((0 : Nat) : Int) from rfl, gx_nat h0]⟩ (fun st hI => by
      obtain ⟨i, v⟩ := st
      obtain ⟨i1, i2, i3, i4⟩ := hI
      simp only at i1 i2 i3 i4
      unfold slices_MinFunc_Point_L1
      simp only
      by_cases c : i < l.length
      · left
        obtain ⟨n, rfl⟩ := Int.eq_ofNat_of_zero_le (show 0 ≤ i by omega)
        have hn : n < l.length := by omega
        obtain ⟨r, r1, r2⟩ := less_eq (hq _ (List.getElem_mem hn)) (hq _ i3)
        rw [decide_eq_true c, cond_true, need_of ⟨by omega, by omega⟩, gx_nat hn, r1, bind_sm]
        by_cases hr : r < 0
        · have hlt := r2.1 hr
          rw [decide_eq_true hr, cond_true, need_of ⟨by omega, by omega⟩, bnd_eq, bind_sm, bnd_eq, Wk (by omega) (by omega)]
          refine ⟨_, rfl, ⟨by simp only; omega, by simp only; omega, List.getElem_mem hn, fun k hk hk' => ?_⟩, by simp only; omega⟩
          simp only at hk' ⊢
          by_cases e : k = n
          · subst e; exact .inl rfl
          · rcases i4 k hk (by omega) with h | h
            · rw [h]; exact .inr hlt
            · exact .inr (lx_trans hlt h)
        · rw [decide_eq_false hr, cond_false, bind_sm, bnd_eq, Wk (by omega) (by omega)]
          refine ⟨_, rfl, ⟨by simp only; omega, by simp only; omega, i3, fun k hk hk' => ?_⟩, by simp only; omega⟩
          simp only at hk' ⊢
          by_cases e : k = n
          · subst e
            rcases lx_tri (s := 1) (.inl rfl) l[k] v with h | h | h
            · exact .inl h
            · exact (hr (r2.2 h)).elim
            · exact .inr h
          · exact i4 k hk (by omega)
      · right
        rw [decide_eq_false c, cond_false]
        refine ⟨_, rfl, i3, fun x hx => ?_⟩
        obtain ⟨k, hk, rfl⟩ := List.getElem_of_mem hx
        exact i4 k hk (by omega))
  rw [h1]
  exact ⟨e, rfl, h2.1, h2.2⟩

/-! Which point comes next. -/
def swp (s : Point × Bool) : Bool × Point := (s.2, s.1)
theorem jump_step {l : List Point} {v : Point} (hq : ∀ x ∈ l, okP x) (hv : okP v) {i : Int} (hi : inR l i) {s : Point × Bool} (hs : okP s.1) : ref_ConvexOf_L2 l v i (swp s) = some (swp (jstep v s (gx l i))) := by
  have hx := hq _ (gx_mem hi)
  unfold ref_ConvexOf_L2 swp jstep
  rw [need_of hi, bnd_eq]
  generalize gx l i = x at *
  obtain ⟨n, f⟩ := s
  simp only at hs ⊢
  by_cases c1 : x = v
  · rw [decide_eq_true c1, cond_true, if_pos c1]
  rw [decide_eq_false c1, cond_false, if_neg c1]
  cases f with
  | false => simp
  | true =>
    simp only [Bool.not_true, cond_false, side_eq hv hs hx, Far_eq hv hx, Far_eq hv hs, bind_sm]
    have e1 : farI v x = far v x := rfl
    have e2 : farI v n = far v n := rfl
    by_cases c2 : cr v n x < 0
    · have d1 : decide (min (max (cr v n x) (-1)) 1 < 0) = true := decide_eq_true (by omega)
      simp [d1, c2]
    · have d1 : decide (min (max (cr v n x) (-1)) 1 < 0) = false := decide_eq_false (by omega)
      by_cases c3 : cr v n x = 0
      · have d2 : decide (min (max (cr v n x) (-1)) 1 = 0) = true := decide_eq_true (by omega)
        by_cases c4 : far v n < far v x
        · simp only [d1, d2, Bool.not_false, Bool.true_and, gd_true, bind_sm, e1, e2]; simp [c2, c3, c4]
        · simp only [d1, d2, Bool.not_false, Bool.true_and, gd_true, bind_sm, e1, e2]; simp [c2, c3, c4]
      · have d2 : decide (min (max (cr v n x) (-1)) 1 = 0) = false := decide_eq_false (by omega)
        simp [d1, d2, c2, c3]
theorem jstep_ok {v x : Point} {s : Point × Bool} (hs : okP s.1) (hx : okP x) : okP (jstep v s x).1 := by
  unfold jstep
  split
  · exact hs
  · split
    · exact hx
    · split
      · exact hx
      · exact hs
theorem jump_fold {l : List Point} {v : Point} (hl : l.length ≤ 1000) (hq : ∀ x ∈ l, okP x) (hv : okP v) : rfor (l.length : Int) (ref_ConvexOf_L2 l v) (false, v) = some (swp (l.foldl (jstep v) (v, false))) := by
  obtain ⟨s, h1, h2⟩ := rfor_inv (n := (l.length : Int)) (step := ref_ConvexOf_L2 l v) (s0 := (false, v)) (fun i s => s = swp ((l.take i).foldl (jstep v) (v, false)) ∧ okP s.2) (by omega) ⟨rfl, hv⟩ (fun i s hi hI => by
    have hi' : i < l.length := by omega
    obtain ⟨rfl, i2⟩ := hI
    have hst := jump_step (v := v) hq hv (i := (i : Int)) ⟨by omega, hi⟩ (s := (l.take i).foldl (jstep v) (v, false)) i2
    refine ⟨_, hst, ?_, ?_⟩
    · rw [List.take_succ_eq_append_getElem hi', List.foldl_append, gx_nat hi']; rfl
    · exact jstep_ok i2 (hq _ (gx_mem ⟨by omega, hi⟩)))
  rw [h1, h2.1, show (l.length : Int).toNat = l.length by omega, List.take_length]

/-! The road round. -/
theorem cons_at {R : Point → Point → Prop} : ∀ {l : List Point} (h : Cons R l) (k : Nat) (hk : k + 1 < l.length), R (l[k]) (l[k + 1])
  | [], _, k, hk => by simp at hk
  | [_], _, k, hk => by simp at hk
  | a :: b :: r, h, 0, _ => h.1
  | a :: b :: r, h, k + 1, hk => cons_at (l := b :: r) h.2 k (by simpa using hk)
theorem sup_same {s : Int} {P Q : List Point} (hPQ : ∀ x, x ∈ Q → x ∈ P) {a b : Point} (h : sup s P a b) : sup s Q a b := sup_mem h hPQ
theorem ConvexOf_eq {l L : List Point} (h : ptsErr l = 0) (hne : l ≠ []) (hr : Ris 1 L) (hm : ∀ x, x ∈ L ↔ x ∈ l) (hL : L.length ≤ 1000) : ref_ConvexOf l = some (if L.length = 1 then L else hull L) := by
  obtain ⟨hl, hq⟩ := ptsErr_zero.1 h
  obtain ⟨m, h1, h2, h3⟩ := MinFunc_eq hl hne hq
  unfold ref_ConvexOf
  rw [h1, bind_sm, bnd_eq]
  have hhead : L.head? = some m := by
    cases L with
    | nil => have := (hm m).2 h2; cases this
    | cons x r =>
      simp only [List.head?_cons, Option.some.injEq]
      rcases List.mem_cons.1 ((hm m).2 h2) with e | hmr
      · exact e.symm
      · have a1 := (List.pairwise_cons.1 hr).1 m hmr
        rcases h3 x ((hm x).1 (by simp)) with e | a2
        · exact e
        · exact (lx_asymm a1 a2).elim
  by_cases c : L.length = 1
  · rw [if_pos c]
    obtain ⟨x, rfl⟩ := List.length_eq_one_iff.1 c
    simp only [List.head?_cons, Option.some.injEq] at hhead
    subst hhead
    have all : ∀ y ∈ l, y = x := fun y hy => by simpa using (hm y).2 hy
    have hx := hq x h2
    rw [loop_eq]
    have : ref_ConvexOf_L1 l x [x] = some (Step.done [x]) := by
      unfold ref_ConvexOf_L1
      have w0 : W ((([x] : List Point).length : Int) - 1) = 0 := Wk (by simp) (by simp)
      rw [w0, need_of ⟨by omega, by simp⟩, bnd_eq]
      have g0 : gx [x] 0 = x := rfl
      rw [g0, jump_fold hl hq hx, bind_sm]
      have : l.foldl (jstep x) (x, false) = (x, false) := by
        clear h h1 h2 h3 hm hl hne hq hr hL
        induction l with
        | nil => rfl
        | cons y r ih =>
          rw [List.foldl_cons, all y (by simp)]
          have : jstep x (x, false) x = (x, false) := by unfold jstep; rw [if_pos rfl]
          rw [this]
          exact ih (fun z hz => all z (by simp [hz]))
      rw [this]; rfl
    rw [this]
  · rw [if_neg c]
    have h2L : 2 ≤ L.length := by
      have : L.length ≠ 0 := fun e => by rw [List.length_eq_zero_iff.1 e] at hhead; cases hhead
      omega
    obtain ⟨m', M, v, w, k1, k2, k3, k4, k5⟩ := hull_ok hr h2L
    rw [hhead] at k2
    obtain rfl : m = m' := by simpa using k2
    have e0 : hull L ++ [m] = (m :: v) ++ M :: (w ++ [m]) := by rw [k1]; simp
    have hE : Cons (E l) (hull L ++ [m]) := by
      rw [e0]
      refine Cons.join ?_ ?_
      · exact k3.mono (fun a b h => .inl (sup_same (fun x hx => (hm x).2 hx) h))
      · exact k4.mono (fun a b h => .inr (sup_same (fun x hx => (hm x).2 hx) h))
    have hin : ∀ x ∈ hull L ++ [m], x ∈ l := by
      intro x hx
      rcases List.mem_append.1 hx with hx | hx
      · exact (hm x).1 (k5 x hx)
      · rw [List.mem_singleton.1 hx]; exact h2
    have hnm : ∀ x ∈ v ++ M :: w, x ≠ m := by
      intro x hx
      have p3 := (k3.mono (S := lx 1) (fun _ _ h => h.1)).pairwise (@lx_trans _)
      have p4 := (k4.mono (S := lx (-1)) (fun _ _ h => h.1)).pairwise (@lx_trans _)
      rcases List.mem_append.1 hx with hx | hx
      · exact (lx_ne ((List.pairwise_cons.1 p3).1 x (by simp [hx]))).symm
      · have : M :: (w ++ [m]) = (M :: w) ++ [m] := rfl
        rw [this] at p4
        exact lx_ne ((List.pairwise_append.1 p4).2.2 x hx m (by simp))
    have hlen : (hull L).length ≤ 2000 := by
      have a1 := there_len (l := L)
      have a2 := there_len (l := L.reverse)
      rw [List.length_reverse] at a2
      unfold hull
      rw [List.length_append, List.length_dropLast, List.length_dropLast]; omega
    have hpos : 1 ≤ (hull L).length := by rw [k1]; simp
    obtain ⟨e, g1, g2⟩ := loop_nat (body := ref_ConvexOf_L1 l m) (fun k => (hull L).take k) (fun e => e = hull L) 1 (hull L).length hpos (fun k ka kb => by
      left
      have hk1 : k - 1 < (hull L).length := by omega
      have hat : ((hull L).take k).length = k := by rw [List.length_take]; omega
      have step := cons_at hE (k - 1) (by simp; omega)
      have ek : k - 1 + 1 = k := by omega
      simp only [ek] at step
      rw [List.getElem_append_left hk1, List.getElem_append_left kb] at step
      have hn : (hull L)[k] ≠ m := by
        have : (hull L)[k] ∈ v ++ M :: w := by
          have : (hull L)[k] = (m :: (v ++ M :: w))[k]'(by rw [← k1]; exact kb) := by simp only [k1]
          rw [this]
          obtain ⟨j, rfl⟩ : ∃ j, k = j + 1 := ⟨k - 1, by omega⟩
          rw [List.getElem_cons_succ]
          exact List.getElem_mem _
        exact hnm _ this
      unfold ref_ConvexOf_L1
      rw [hat, Wk (by omega) (by omega), need_of ⟨by omega, by rw [hat]; omega⟩, bnd_eq]
      have gk : gx ((hull L).take k) ((k : Int) - 1) = (hull L)[k - 1] := by
        rw [show (k : Int) - 1 = ((k - 1 : Nat) : Int) by omega, gx_nat (by omega), List.getElem_take]
      rw [gk, jump_fold hl hq (hq _ (hin _ (List.mem_append.2 (.inl (List.getElem_mem hk1))))), bind_sm, jnext step (hin _ (List.mem_append.2 (.inl (List.getElem_mem kb))))]
      have : swp ((hull L)[k], true) = (true, (hull L)[k]) := rfl
      rw [this]
      simp only [Bool.not_true, Bool.false_or]
      rw [decide_eq_false hn, cond_false, need_of (by rw [room_iff]; simp; omega), ← List.take_succ_eq_append_getElem kb]) ⟨hull L, by
      have hk1 : (hull L).length - 1 < (hull L).length := by omega
      have step := cons_at hE ((hull L).length - 1) (by simp; omega)
      have ek : (hull L).length - 1 + 1 = (hull L).length := by omega
      simp only [ek] at step
      rw [List.getElem_append_left hk1, List.getElem_append_right (Nat.le_refl _)] at step
      simp only [Nat.sub_self, List.getElem_singleton] at step
      simp only [List.take_length]
      unfold ref_ConvexOf_L1
      rw [Wk (by omega) (by omega), need_of ⟨by omega, by omega⟩, bnd_eq]
      have gk : gx (hull L) (((hull L).length : Int) - 1) = (hull L)[(hull L).length - 1] := by
        rw [show ((hull L).length : Int) - 1 = (((hull L).length - 1 : Nat) : Int) by omega, gx_nat (by omega)]
      rw [gk, jump_fold hl hq (hq _ (hin _ (List.mem_append.2 (.inl (List.getElem_mem hk1))))), bind_sm, jnext step h2]
      have : swp (m, true) = (true, m) := rfl
      rw [this]
      simp, rfl⟩
    have e1 : ([m] : List Point) = (hull L).take 1 := by rw [k1]; rfl
    rw [e1, g1, g2]
end Go.DB
