/-
  The heap of a search, in plain words.
-/
import Derived.Test.YtjkfpjpepjjhlaaTnbLi1
import Derived.Test.YtjkfpjpepjjhlaaPu0
set_option linter.unusedSimpArgs false
set_option linter.unusedVariables false
namespace Go.DB
open Go Go.RowKit

theorem gx_setH {α : Type} [Inhabited α] {l : List α} {k : Nat} {v : α} (hk : k < l.length) (t : Nat) : gx (l.set k v) (t : Int) = if t = k then v else gx l (t : Int) := by
  simp only [gx, Int.toNat_natCast]
  by_cases h : t = k
  · subst h; simp [hk]
  · rw [if_neg h, List.getElem?_set_ne (fun e => h e.symm)]

/-- Fewer bends, or as many and less length. -/
def lt2 (a b : Route_reached) : Prop := a.bends < b.bends ∨ (a.bends = b.bends ∧ a.long < b.long)
def le2 (a b : Route_reached) : Prop := a.bends < b.bends ∨ (a.bends = b.bends ∧ a.long ≤ b.long)
instance (a b : Route_reached) : Decidable (lt2 a b) := by unfold lt2; infer_instance
instance (a b : Route_reached) : Decidable (le2 a b) := by unfold le2; infer_instance
theorem le2_refl (a : Route_reached) : le2 a a := by unfold le2; omega
theorem le2_trans {a b c : Route_reached} (h1 : le2 a b) (h2 : le2 b c) : le2 a c := by unfold le2 at *; omega
theorem lt2_le {a b : Route_reached} (h : lt2 a b) : le2 a b := by unfold lt2 at h; unfold le2; omega
theorem not_lt2 {a b : Route_reached} : ¬ lt2 a b ↔ le2 b a := by unfold lt2 le2; omega

abbrev RL := List Route_reached
def at_ (q : RL) (i : Nat) : Route_reached := gx q (i : Int)

theorem Less_eq {q : RL} {i j : Nat} (hi : i < q.length) (hj : j < q.length) : route_queue_Less q (i : Int) (j : Int) = some (decide (lt2 (at_ q i) (at_ q j))) := by
  unfold route_queue_Less
  simp only [need_of (show inR q (i : Int) from ⟨by omega, by omega⟩), need_of (show inR q (j : Int) from ⟨by omega, by omega⟩)]
  show (bif !decide ((at_ q i).bends = (at_ q j).bends) then some (decide ((at_ q i).bends < (at_ q j).bends)) else some (decide ((at_ q i).long < (at_ q j).long))) = _
  by_cases h : (at_ q i).bends = (at_ q j).bends
  · simp only [h, decide_true, Bool.not_true, cond_false, Option.some.injEq, decide_eq_decide]
    unfold lt2; omega
  · simp only [h, decide_false, Bool.not_false, cond_true, Option.some.injEq, decide_eq_decide]
    unfold lt2; omega

def swp (q : RL) (i j : Nat) : RL := (q.set i (at_ q j)).set j (at_ q i)
theorem swp_len (q : RL) (i j : Nat) : (swp q i j).length = q.length := by simp [swp]
theorem at_swp {q : RL} {i j : Nat} (hi : i < q.length) (hj : j < q.length) (k : Nat) : at_ (swp q i j) k = if k = j then at_ q i else if k = i then at_ q j else at_ q k := by
  unfold swp at_
  rw [gx_setH (by simpa using hj), gx_setH hi]
theorem Swap_eq {q : RL} {i j : Nat} (hi : i < q.length) (hj : j < q.length) : route_queue_Swap q (i : Int) (j : Int) = some (swp q i j) := by
  unfold route_queue_Swap
  simp only [need_of (show inR q (i : Int) from ⟨by omega, by omega⟩), need_of (show inR q (j : Int) from ⟨by omega, by omega⟩), bnd_eq, Int.toNat_natCast]
  rw [need_of ⟨by omega, by simp; omega⟩]
  rfl
theorem mem_at {q : RL} {x : Route_reached} : x ∈ q ↔ ∃ k, k < q.length ∧ at_ q k = x := by
  rw [List.mem_iff_getElem]
  constructor
  · rintro ⟨k, hk, h⟩
    exact ⟨k, hk, by unfold at_; rw [gx_nat hk]; exact h⟩
  · rintro ⟨k, hk, h⟩
    exact ⟨k, hk, by rw [← h]; unfold at_; rw [gx_nat hk]⟩
theorem swp_mem {q : RL} {i j : Nat} (hi : i < q.length) (hj : j < q.length) (x : Route_reached) : x ∈ swp q i j ↔ x ∈ q := by
  rw [mem_at, mem_at]
  constructor
  · rintro ⟨k, hk, h⟩
    rw [swp_len] at hk
    rw [at_swp hi hj] at h
    by_cases c1 : k = j
    · rw [if_pos c1] at h; exact ⟨i, hi, h⟩
    · rw [if_neg c1] at h
      by_cases c2 : k = i
      · rw [if_pos c2] at h; exact ⟨j, hj, h⟩
      · rw [if_neg c2] at h; exact ⟨k, hk, h⟩
  · rintro ⟨k, hk, h⟩
    by_cases c1 : k = i
    · subst c1; exact ⟨j, by rw [swp_len]; exact hj, by rw [at_swp hi hj, if_pos rfl]; exact h⟩
    · by_cases c2 : k = j
      · subst c2; exact ⟨i, by rw [swp_len]; exact hi, by rw [at_swp hi hj, if_neg (fun e => c1 e.symm), if_pos rfl]; exact h⟩
      · exact ⟨k, by rw [swp_len]; exact hk, by rw [at_swp hi hj, if_neg c2, if_neg c1]; exact h⟩

/-- The first n are a heap, but for the pairs that ex names. -/
def Hp (ex : Nat → Prop) (n : Nat) (q : RL) : Prop := ∀ k, 0 < k → k < n → ¬ ex k → le2 (at_ q ((k - 1) / 2)) (at_ q k)
def Heap (n : Nat) (q : RL) : Prop := ∀ k, 0 < k → k < n → le2 (at_ q ((k - 1) / 2)) (at_ q k)

/-- The top is least. -/
theorem Heap.top {n : Nat} {q : RL} (h : Heap n q) : ∀ k, k < n → le2 (at_ q 0) (at_ q k) := by
  intro k
  induction k using Nat.strongRecOn with
  | _ k ih =>
    intro hk
    by_cases c : k = 0
    · subst c; exact le2_refl _
    · exact le2_trans (ih ((k - 1) / 2) (by omega) (by omega)) (h k (by omega) hk)

theorem up_eq {q : RL} {j : Nat} (hq : q.length ≤ 1073741824) (hj : j < q.length) (h1 : Hp (fun k => k = j) q.length q) (h2 : ∀ k, 0 < k → k < q.length → (k - 1) / 2 = j → 0 < j → le2 (at_ q ((j - 1) / 2)) (at_ q k)) :
    ∃ r, heap_up q (j : Int) = some r ∧ Heap r.length r ∧ r.length = q.length ∧ ∀ x, x ∈ r ↔ x ∈ q := by
  unfold heap_up
  refine loop_inv (body := heap_up_L1) (s0 := ((j : Int), q)) (fun s => ∃ j : Nat, s.1 = (j : Int) ∧ s.2.length = q.length ∧ j < q.length ∧ Hp (fun k => k = j) s.2.length s.2 ∧
      (∀ k, 0 < k → k < s.2.length → (k - 1) / 2 = j → 0 < j → le2 (at_ s.2 ((j - 1) / 2)) (at_ s.2 k)) ∧ ∀ x, x ∈ s.2 ↔ x ∈ q) (fun s => s.1.toNat) (fun r => Heap r.length r ∧ r.length = q.length ∧ ∀ x, x ∈ r ↔ x ∈ q)
    ⟨j, rfl, rfl, hj, h1, h2, fun _ => Iff.rfl⟩ ?_
  rintro ⟨s1, p⟩ ⟨j, h0, hl, hj, h1, h2, hm⟩
  simp only at h0 hl h1 h2 hm
  subst h0
  unfold heap_up_L1
  simp only [bnd_eq]
  rw [Wk (n := (j : Int) - 1) (by omega) (by omega)]
  by_cases c : j = 0
  · subst c
    refine .inr ⟨p, by simp [route_queue_Less, gd], ?_, hl, hm⟩
    intro k k0 kn
    exact h1 k k0 kn (by omega)
  · have e : ((j : Int) - 1).tdiv 2 = (((j - 1) / 2 : Nat) : Int) := by
      rw [Int.tdiv_eq_ediv_of_nonneg (by omega)]; omega
    rw [e]
    have hi : (j - 1) / 2 < p.length := by omega
    have hd : decide ((((j - 1) / 2 : Nat) : Int) = (j : Int)) = false := by rw [decide_eq_false_iff_not]; omega
    rw [hd, Bool.not_false, gd_true, Less_eq (by omega) hi]
    simp only [bind_sm, Bool.false_or]
    by_cases c2 : lt2 (at_ p j) (at_ p ((j - 1) / 2))
    · left
      rw [decide_eq_true c2]
      simp only [Bool.not_true, cond_false]
      rw [Swap_eq hi (by omega)]
      have hjp : j < p.length := by omega
      refine ⟨((((j - 1) / 2 : Nat) : Int), swp p ((j - 1) / 2) j), rfl, ⟨(j - 1) / 2, rfl, by rw [swp_len]; exact hl, by omega, ?_, ?_, fun x => (swp_mem hi hjp x).trans (hm x)⟩, by simp; omega⟩
      · intro k k0 kn hne
        simp only at hne
        rw [swp_len] at kn
        rw [at_swp hi hjp, at_swp hi hjp]
        by_cases ck : k = j
        · subst ck
          rw [if_pos rfl, if_neg (by omega), if_pos rfl]
          exact lt2_le c2
        · rw [if_neg ck, if_neg hne]
          by_cases cp : (k - 1) / 2 = j
          · rw [if_pos cp]
            exact h2 k k0 kn cp (by omega)
          · rw [if_neg cp]
            by_cases cq : (k - 1) / 2 = (j - 1) / 2
            · rw [if_pos cq]
              have := h1 k k0 kn ck
              rw [cq] at this
              exact le2_trans (lt2_le c2) this
            · rw [if_neg cq]
              exact h1 k k0 kn ck
      · intro k k0 kn hp hpos
        rw [swp_len] at kn
        rw [at_swp hi hjp, at_swp hi hjp, if_neg (by omega), if_neg (by omega)]
        have hpp := h1 ((j - 1) / 2) hpos (by omega) (by omega)
        by_cases ck : k = j
        · subst ck; rw [if_pos rfl]; exact hpp
        · rw [if_neg ck, if_neg (by omega)]
          have := h1 k k0 kn ck
          rw [hp] at this
          exact le2_trans hpp this
    · right
      rw [decide_eq_false c2]
      refine ⟨p, rfl, ?_, hl, hm⟩
      intro k k0 kn
      by_cases ck : k = j
      · subst ck; exact not_lt2.1 c2
      · exact h1 k k0 kn ck

/-- What is pushed is in the heap. -/
theorem Push_eq {q : RL} (x : Route_reached) (hq : q.length < 1073741824) (h : Heap q.length q) : ∃ r, heap_Push q x = some r ∧ Heap r.length r ∧ r.length = q.length + 1 ∧ ∀ y, y ∈ r ↔ y ∈ q ∨ y = x := by
  unfold heap_Push route_queue_Push route_queue_Len
  rw [need_of (by rw [room_iff]; simp; omega)]
  simp only [bind_sm]
  have hl : (q ++ [x]).length = q.length + 1 := by simp
  rw [hl, Wk (by omega) (by omega), show (((q.length + 1 : Nat) : Int) - 1) = ((q.length : Nat) : Int) by omega]
  have hat : ∀ k, k < q.length → at_ (q ++ [x]) k = at_ q k := fun k hk => by
    unfold at_
    rw [gx_nat (by simp; omega), gx_nat hk, List.getElem_append_left hk]
  obtain ⟨r, h1, h2, h3, h4⟩ := up_eq (q := q ++ [x]) (j := q.length) (by rw [hl]; omega) (by rw [hl]; omega) (fun k k0 kn hne => by
    simp only at hne
    rw [hl] at kn
    rw [hat _ (by omega), hat _ (by omega)]
    exact h k k0 (by omega)) (fun k k0 kn hp => by rw [hl] at kn; omega)
  rw [h1]
  exact ⟨r, rfl, h2, by rw [h3, hl], fun y => by rw [h4]; simp⟩

theorem down_eq {q : RL} {n : Nat} (hq : q.length ≤ 1073741824) (hn : n ≤ q.length) (h1 : Hp (fun k => (k - 1) / 2 = 0) n q) :
    ∃ r, heap_down q 0 (n : Int) = some r ∧ Heap n r.2 ∧ r.2.length = q.length ∧ (∀ k, n ≤ k → at_ r.2 k = at_ q k) ∧ ∀ x, x ∈ r.2 ↔ x ∈ q := by
  unfold heap_down
  obtain ⟨e, he, hp⟩ := loop_inv (body := heap_down_L1 (n : Int)) (s0 := ((0 : Int), q)) (fun s => ∃ i : Nat, s.1 = (i : Int) ∧ s.2.length = q.length ∧ i ≤ q.length ∧ Hp (fun k => (k - 1) / 2 = i) n s.2 ∧
      (∀ k, 0 < k → k < n → (k - 1) / 2 = i → 0 < i → le2 (at_ s.2 ((i - 1) / 2)) (at_ s.2 k)) ∧ (∀ k, n ≤ k → at_ s.2 k = at_ q k) ∧ ∀ x, x ∈ s.2 ↔ x ∈ q) (fun s => q.length - s.1.toNat)
    (fun r => Heap n r.2 ∧ r.2.length = q.length ∧ (∀ k, n ≤ k → at_ r.2 k = at_ q k) ∧ ∀ x, x ∈ r.2 ↔ x ∈ q)
    ⟨0, rfl, rfl, by omega, h1, fun k _ _ _ h => by omega, fun _ _ => rfl, fun _ => Iff.rfl⟩ (by
    rintro ⟨s1, p⟩ ⟨i, h0, hl, hi, h1, h2, ht, hm⟩
    simp only at h0 hl h1 h2 hm ht
    subst h0
    unfold heap_down_L1
    simp only [bnd_eq]
    rw [Wk (n := 2 * (i : Int)) (by omega) (by omega), Wk (n := 2 * (i : Int) + 1) (by omega) (by omega), Wk (n := 2 * (i : Int) + 1 + 1) (by omega) (by omega)]
    by_cases c : n ≤ 2 * i + 1
    · right
      have d : decide ((n : Int) ≤ 2 * (i : Int) + 1) = true := by rw [decide_eq_true_eq]; omega
      rw [d, Bool.true_or, cond_true]
      refine ⟨_, rfl, fun k k0 kn => h1 k k0 kn (by simp only; omega), hl, ht, hm⟩
    · have d : decide ((n : Int) ≤ 2 * (i : Int) + 1) = false := by rw [decide_eq_false_iff_not]; omega
      have d2 : decide (2 * (i : Int) + 1 < 0) = false := by rw [decide_eq_false_iff_not]; omega
      rw [d, d2, Bool.false_or, cond_false]
      have hip : i < p.length := by omega
      -- the lesser child
      obtain ⟨j, hj, hjn, hpar, hmin, hjj⟩ : ∃ j : Nat, (Option.bind (gd (decide (2 * (i : Int) + 1 + 1 < (n : Int))) (route_queue_Less p (2 * (i : Int) + 1 + 1) (2 * (i : Int) + 1))) fun r1 =>
          Option.bind (α := Int) (bif decide (2 * (i : Int) + 1 + 1 < (n : Int)) && r1 then some (2 * (i : Int) + 1 + 1) else some (2 * (i : Int) + 1)) fun j7 => some j7) = some (j : Int) ∧ j < n ∧ (j - 1) / 2 = i ∧ (∀ k, 0 < k → k < n → (k - 1) / 2 = i → le2 (at_ p j) (at_ p k)) ∧ i < j := by
        rw [show (2 * (i : Int) + 1 + 1) = ((2 * i + 2 : Nat) : Int) by omega, show (2 * (i : Int) + 1) = ((2 * i + 1 : Nat) : Int) by omega]
        by_cases c2 : 2 * i + 2 < n
        · have d3 : decide (((2 * i + 2 : Nat) : Int) < (n : Int)) = true := by rw [decide_eq_true_eq]; omega
          rw [d3, gd_true, Less_eq (by omega) (by omega)]
          simp only [bind_sm, Bool.true_and]
          by_cases c3 : lt2 (at_ p (2 * i + 2)) (at_ p (2 * i + 1))
          · refine ⟨2 * i + 2, by rw [decide_eq_true c3]; rfl, c2, by omega, fun k k0 kn hk => ?_, by omega⟩
            have : k = 2 * i + 1 ∨ k = 2 * i + 2 := by omega
            rcases this with rfl | rfl
            · exact lt2_le c3
            · exact le2_refl _
          · refine ⟨2 * i + 1, by rw [decide_eq_false c3]; rfl, by omega, by omega, fun k k0 kn hk => ?_, by omega⟩
            have : k = 2 * i + 1 ∨ k = 2 * i + 2 := by omega
            rcases this with rfl | rfl
            · exact le2_refl _
            · exact not_lt2.1 c3
        · have d3 : decide (((2 * i + 2 : Nat) : Int) < (n : Int)) = false := by rw [decide_eq_false_iff_not]; omega
          rw [d3, gd_false]
          refine ⟨2 * i + 1, rfl, by omega, by omega, fun k k0 kn hk => ?_, by omega⟩
          have : k = 2 * i + 1 := by omega
          subst this; exact le2_refl _
      have fold : ∀ {β : Type} (k : Int → Option β), (Option.bind (gd (decide (2 * (i : Int) + 1 + 1 < (n : Int))) (route_queue_Less p (2 * (i : Int) + 1 + 1) (2 * (i : Int) + 1))) fun r1 =>
          Option.bind (α := Int) (bif decide (2 * (i : Int) + 1 + 1 < (n : Int)) && r1 then some (2 * (i : Int) + 1 + 1) else some (2 * (i : Int) + 1)) fun j7 => k j7) = k (j : Int) := by
        intro β k
        cases hA : gd (decide (2 * (i : Int) + 1 + 1 < (n : Int))) (route_queue_Less p (2 * (i : Int) + 1 + 1) (2 * (i : Int) + 1)) with
        | none => rw [hA] at hj; cases hj
        | some r1 =>
          rw [hA] at hj
          simp only [bind_sm] at hj ⊢
          cases hB : (bif decide (2 * (i : Int) + 1 + 1 < (n : Int)) && r1 then some (2 * (i : Int) + 1 + 1) else some (2 * (i : Int) + 1)) with
          | none => rw [hB] at hj; cases hj
          | some z => rw [hB] at hj; simp only [bind_sm, Option.some.injEq] at hj ⊢; rw [hj]
      rw [fold]
      have hjp : j < p.length := by omega
      rw [Less_eq hjp hip]
      simp only [bind_sm]
      by_cases c4 : lt2 (at_ p j) (at_ p i)
      · left
        rw [decide_eq_true c4]
        simp only [Bool.not_true, cond_false]
        rw [Swap_eq hip hjp]
        refine ⟨((j : Int), swp p i j), rfl, ⟨j, rfl, by rw [swp_len]; exact hl, by omega, ?_, ?_, ?_, fun x => (swp_mem hip hjp x).trans (hm x)⟩, by simp; omega⟩
        · intro k k0 kn hne
          simp only at hne
          rw [at_swp hip hjp, at_swp hip hjp, if_neg hne]
          by_cases ck : k = j
          · subst ck
            rw [if_pos rfl, if_pos hpar]
            exact lt2_le c4
          · rw [if_neg ck]
            by_cases ck2 : k = i
            · subst ck2
              rw [if_pos rfl, if_neg (by omega)]
              exact h2 j (by omega) hjn hpar (by omega)
            · rw [if_neg ck2]
              by_cases cp : (k - 1) / 2 = i
              · rw [if_pos cp]; exact hmin k k0 kn cp
              · rw [if_neg cp]; exact h1 k k0 kn cp
        · intro k k0 kn hp hpos
          rw [hpar, at_swp hip hjp, at_swp hip hjp, if_neg (by omega), if_pos rfl, if_neg (by omega), if_neg (by omega)]
          have := h1 k k0 kn (by simp only; omega)
          rw [hp] at this
          exact this
        · intro k hk
          rw [at_swp hip hjp, if_neg (by omega), if_neg (by omega)]
          exact ht k hk
      · right
        rw [decide_eq_false c4]
        refine ⟨_, rfl, fun k k0 kn => ?_, hl, ht, hm⟩
        by_cases cp : (k - 1) / 2 = i
        · simp only [cp]; exact le2_trans (not_lt2.1 c4) (hmin k k0 kn cp)
        · exact h1 k k0 kn cp)
  rw [show ((0 : Int)) = ((0 : Nat) : Int) from rfl] at he
  exact ⟨(decide (0 < e.1), e.2), by rw [show (0 : Int) = ((0 : Nat) : Int) from rfl, he]; rfl, hp⟩

/-- What is popped is least. -/
theorem Pop_eq {q : RL} (hq : q.length ≤ 1073741824) (hne : 0 < q.length) (h : Heap q.length q) : ∃ r, heap_Pop q = some r ∧ Heap r.2.length r.2 ∧ r.2.length + 1 = q.length ∧ r.1 ∈ q ∧ (∀ y ∈ q, le2 r.1 y) ∧ (∀ y ∈ r.2, y ∈ q) ∧ ∀ y ∈ q, y = r.1 ∨ y ∈ r.2 := by
  obtain ⟨n, hn⟩ : ∃ n, q.length = n + 1 := ⟨q.length - 1, by omega⟩
  unfold heap_Pop route_queue_Len
  simp only [bind_sm, bnd_eq]
  rw [hn, Wk (n := ((n + 1 : Nat) : Int) - 1) (by omega) (by omega), show (((n + 1 : Nat) : Int) - 1) = (n : Int) by omega]
  have s0 : 0 < q.length := by omega
  have sn : n < q.length := by omega
  have hsw := Swap_eq s0 sn
  rw [show ((0 : Nat) : Int) = 0 from rfl] at hsw
  rw [hsw, bind_sm]
  obtain ⟨r, h1, h2, h3, h4, h5⟩ := down_eq (q := swp q 0 n) (n := n) (by rw [swp_len]; omega) (by rw [swp_len]; omega) (fun k k0 kn hne => by
    simp only at hne
    rw [at_swp s0 sn, at_swp s0 sn, if_neg (by omega), if_neg (by omega), if_neg (by omega), if_neg (by omega)]
    exact h k k0 (by omega))
  rw [h1, bind_sm]
  rw [swp_len] at h3
  unfold route_queue_Pop
  rw [h3, hn, Wk (n := ((n + 1 : Nat) : Int) - 1) (by omega) (by omega), show (((n + 1 : Nat) : Int) - 1) = (n : Int) by omega, need_of ⟨by omega, by omega⟩, bnd_eq, need_of ⟨by omega, by omega, by omega⟩, bnd_eq, bind_sm]
  have hseg : seg r.2 0 (n : Int) = r.2.take n := by simp [seg]
  rw [hseg]
  have hlen : (r.2.take n).length = n := by rw [List.length_take]; omega
  have htop : gx r.2 (n : Int) = at_ q 0 := by
    show at_ r.2 n = _
    rw [h4 n (Nat.le_refl _), at_swp s0 sn, if_pos rfl]
  have hat : ∀ k, k < n → at_ (r.2.take n) k = at_ r.2 k := fun k hk => by
    unfold at_
    rw [gx_nat (by omega), gx_nat (by omega), List.getElem_take]
  refine ⟨_, rfl, ?_, by simp only; omega, ?_, ?_, ?_, ?_⟩
  · simp only
    rw [hlen]
    intro k k0 kn
    rw [hat _ (by omega), hat _ kn]
    exact h2 k k0 kn
  · simp only [htop]; exact mem_at.2 ⟨0, s0, rfl⟩
  · intro y hy
    simp only [htop]
    obtain ⟨k, hk, rfl⟩ := mem_at.1 hy
    exact h.top k hk
  · intro y hy
    exact (swp_mem s0 sn y).1 ((h5 y).1 (List.mem_of_mem_take hy))
  · intro y hy
    obtain ⟨k, hk, e⟩ := mem_at.1 ((h5 y).2 ((swp_mem s0 sn y).2 hy))
    rw [h3] at hk
    by_cases c : k = n
    · left
      simp only
      rw [← e, c]; rfl
    · right
      simp only
      exact mem_at.2 ⟨k, by omega, by rw [hat k (by omega)]; exact e⟩

end Go.DB
