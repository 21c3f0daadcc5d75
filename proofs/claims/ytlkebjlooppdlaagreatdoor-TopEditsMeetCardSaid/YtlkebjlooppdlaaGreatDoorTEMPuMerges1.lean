/-
  Operations that are merged.
-/
import Derived.Test.YtlkebjlooppdlaaGreatDoorTEMPuSortDOp
import Derived.Test.YtlkebjlooppdlaaGreatDoorTEMPuOpF
import Derived.Test.YtlkebjlooppdlaaGreatDoorTEMPuOpsR
set_option linter.unusedSimpArgs false
set_option linter.unusedVariables false
namespace Go.DB
open Go Go.RowKit

/-! Order of operations. -/

theorem swo_order : Swo (fun _ : DOp => True) (fun x y => decide (cmpOp x y < 0)) edit_order where
  cmp x y _ _ := ⟨cmpOp x y, order_eq x y, rfl⟩
  asym x y _ _ h := by
    have := of_decide_eq_true h
    have := cmpOp_swap x y
    exact decide_eq_false (by omega)
  ntr x y z _ _ _ h1 h2 := by
    have h1 := of_decide_eq_false h1
    have h2 := of_decide_eq_false h2
    have e1 := cmpOp_swap x y
    have e2 := cmpOp_swap y z
    have e3 := cmpOp_swap x z
    have := (cmpOp_trans (a := z) (b := y) (c := x) (by omega) (by omega)).1
    exact decide_eq_false (by omega)
theorem Grow_Op_nil {n : Int} (h0 : 0 ≤ n) (h1 : n ≤ 1073741824) : slices_Grow_Op n = some [] := by
  unfold slices_Grow_Op; rw [need_of ⟨h0, h1⟩]
theorem Concat_eq {a b : List DOp} (ha : a.length ≤ 2000) (hb : b.length ≤ 2000) : slices_Concat_Op [a, b] = some (a ++ b) := by
  unfold slices_Concat_Op
  rw [rfor_eq (by simp)]
  have i0 : inR [a, b] 0 := ⟨by omega, by simp⟩
  have i1 : inR [a, b] 1 := ⟨by omega, by simp⟩
  have g0 : gx [a, b] 0 = a := rfl
  have g1 : gx [a, b] 1 = b := rfl
  have s0 : slices_Concat_Op_L1 [a, b] 0 0 = some (a.length : Int) := by
    unfold slices_Concat_Op_L1
    rw [need_of i0, bnd_eq, g0, Int.zero_add, Wk (by omega) (by omega), decide_eq_false (by omega), cond_false]
  have s1 : slices_Concat_Op_L1 [a, b] 1 (a.length : Int) = some ((a.length : Int) + b.length) := by
    unfold slices_Concat_Op_L1
    rw [need_of i1, bnd_eq, g1, Wk (by omega) (by omega), decide_eq_false (by omega), cond_false]
  have t0 : slices_Concat_Op_L2 [a, b] 0 [] = some a := by
    unfold slices_Concat_Op_L2
    rw [need_of i0, g0, need_of (by rw [room_iff]; simp; omega)]; rfl
  have t1 : slices_Concat_Op_L2 [a, b] 1 a = some (a ++ b) := by
    unfold slices_Concat_Op_L2
    rw [need_of i1, g1, need_of (by rw [room_iff]; omega)]
  have r1 : rgo (slices_Concat_Op_L1 [a, b]) (([a, b] : List (List DOp)).length : Int).toNat 0 0 = some ((a.length : Int) + b.length) := by
    show rgo (slices_Concat_Op_L1 [a, b]) 2 0 0 = _
    simp only [rgo, s0, show (0 + 1 : Int) = 1 from rfl, s1]
  rw [r1, Option.bind_some, Grow_Op_nil (by omega) (by omega), Option.bind_some]
  have r2 : rgo (slices_Concat_Op_L2 [a, b]) (([a, b] : List (List DOp)).length : Int).toNat 0 [] = some (a ++ b) := by
    show rgo (slices_Concat_Op_L2 [a, b]) 2 0 [] = _
    simp only [rgo, t0, show (0 + 1 : Int) = 1 from rfl, t1]
  rw [rfor_eq (by simp), r2, Option.bind_some]

/-! Neighbours that are equal. -/

/-- Those among the first n that differ from the one before. -/
def keepC (s : List DOp) : Nat → List DOp
  | 0 => []
  | n + 1 => keepC s n ++ (if n = 0 ∨ gx s (n : Int) ≠ gx s ((n : Int) - 1) then [gx s (n : Int)] else [])
theorem keepC_len (s : List DOp) : ∀ n, (keepC s n).length ≤ n
  | 0 => by simp [keepC]
  | n + 1 => by
    have := keepC_len s n
    rw [keepC, List.length_append]
    split <;> simp <;> omega
theorem keepC_mem {s : List DOp} : ∀ {n : Nat}, n ≤ s.length → ∀ x, x ∈ keepC s n ↔ x ∈ s.take n
  | 0, _, x => by simp [keepC]
  | n + 1, h, x => by
    have ih := keepC_mem (s := s) (n := n) (by omega) x
    rw [keepC, List.mem_append, ih, List.take_succ_eq_append_getElem (by omega), List.mem_append, ← gx_nat (l := s) (i := n) (by omega)]
    by_cases c : n = 0 ∨ gx s (n : Int) ≠ gx s ((n : Int) - 1)
    · rw [if_pos c]
    · rw [if_neg c]
      have hn : ¬ n = 0 := fun e => c (.inl e)
      have he : gx s (n : Int) = gx s ((n : Int) - 1) := Decidable.byContradiction fun e => c (.inr e)
      refine ⟨fun h => h.elim .inl (fun h => by simp at h), fun h' => h'.elim .inl (fun h' => .inl ?_)⟩
      rw [List.mem_singleton.1 h', he, show ((n : Int) - 1) = ((n - 1 : Nat) : Int) by omega, gx_nat (by omega)]
      refine List.mem_take_iff_getElem.2 ⟨n - 1, by omega, rfl⟩
theorem keepC_plain {s : List DOp} : ∀ {n : Nat}, n ≤ s.length → (∀ j : Nat, 0 < j → j < n → gx s (j : Int) ≠ gx s ((j : Int) - 1)) → keepC s n = s.take n
  | 0, _, _ => by simp [keepC]
  | n + 1, h, hj => by
    rw [keepC, keepC_plain (by omega) (fun j h1 h2 => hj j h1 (by omega)), List.take_succ_eq_append_getElem (by omega), ← gx_nat (l := s) (i := n) (by omega), if_pos]
    by_cases c : n = 0
    · exact .inl c
    · exact .inr (hj n (by omega) (by omega))
theorem Compact_inner {s : List DOp} {k0 : Nat} (h0 : 0 < k0) (h1 : k0 < s.length) (hl : s.length ≤ 1000000) (hp : ∀ j : Nat, 0 < j → j < k0 → gx s (j : Int) ≠ gx s ((j : Int) - 1)) (he : gx s (k0 : Int) = gx s ((k0 : Int) - 1)) :
    ∃ e : Int × List DOp, loop (slices_Compact_Op_L2 s (k0 : Int)) ((k0 : Int), 1, s) = some e ∧ e.1 = ((keepC s s.length).length : Int) ∧ e.2.length = s.length ∧ e.2.take (keepC s s.length).length = keepC s s.length := by
  obtain ⟨e, e1, e2, e3, e4⟩ := loop_inv (body := slices_Compact_Op_L2 s (k0 : Int)) (s0 := ((k0 : Int), 1, s))
    (fun st => ∃ k2 : Nat, st.2.1 = (k2 : Int) ∧ 1 ≤ k2 ∧ k0 + k2 ≤ s.length ∧ st.1 = ((keepC s (k0 + k2)).length : Int) ∧ (keepC s (k0 + k2)).length + 1 ≤ k0 + k2 ∧ st.2.2.length = s.length ∧
      st.2.2.take (keepC s (k0 + k2)).length = keepC s (k0 + k2) ∧ st.2.2.drop (k0 + k2 - 1) = s.drop (k0 + k2 - 1))
    (fun st => ((s.length : Int) - st.2.1).toNat) (fun e => e.1 = ((keepC s s.length).length : Int) ∧ e.2.length = s.length ∧ e.2.take (keepC s s.length).length = keepC s s.length)
    (by
      have hk : keepC s (k0 + 1) = s.take k0 := by
        rw [keepC, if_neg (by rintro (h | h); omega; exact h he), List.append_nil, keepC_plain (by omega) hp]
      have hkl : (s.take k0).length = k0 := by simp; omega
      refine ⟨1, rfl, by omega, by omega, ?_, ?_, rfl, ?_, rfl⟩
      · rw [hk, hkl]
      · rw [hk, hkl]; omega
      · rw [hk, hkl]) (fun st hI => by
      obtain ⟨k2, i1, i2, i3, i4, i5, i6, i7, i8⟩ := hI
      obtain ⟨a, b, z⟩ := st
      simp only at i1 i4 i6 i7 i8
      subst i1 i4
      unfold slices_Compact_Op_L2
      simp only
      rw [need_of ⟨by omega, by omega, by omega⟩]
      have hz : ∀ t : Nat, k0 + k2 - 1 ≤ t → (ht : t < s.length) → gx z (t : Int) = s[t] := fun t ht1 ht => by
        rw [gx_nat (by omega)]
        have h1 : (z.drop (k0 + k2 - 1))[t - (k0 + k2 - 1)]'(by simp; omega) = (s.drop (k0 + k2 - 1))[t - (k0 + k2 - 1)]'(by simp; omega) := by simp only [i8]
        simp only [List.getElem_drop] at h1
        have e : k0 + k2 - 1 + (t - (k0 + k2 - 1)) = t := by omega
        simpa only [e] using h1
      by_cases c : k0 + k2 < s.length
      · left
        rw [decide_eq_true (p := (k2 : Int) < (s.length : Int) - (k0 : Int)) (by omega), cond_true]
        have ez : gx z ((k0 : Int) + (k2 : Int)) = gx s ((k0 + k2 : Nat) : Int) := by
          rw [show (k0 : Int) + (k2 : Int) = ((k0 + k2 : Nat) : Int) by omega, hz _ (by omega) c, gx_nat c]
        have ez' : gx z ((k0 : Int) + ((k2 : Int) - 1)) = gx s (((k0 + k2 : Nat) : Int) - 1) := by
          rw [show (k0 : Int) + ((k2 : Int) - 1) = ((k0 + k2 - 1 : Nat) : Int) by omega, hz _ (by omega) (by omega), show ((k0 + k2 : Nat) : Int) - 1 = ((k0 + k2 - 1 : Nat) : Int) by omega, gx_nat (by omega)]
        have hkn : keepC s (k0 + (k2 + 1)) = keepC s (k0 + k2) ++ (if gx s ((k0 + k2 : Nat) : Int) ≠ gx s (((k0 + k2 : Nat) : Int) - 1) then [gx s ((k0 + k2 : Nat) : Int)] else []) := by
          rw [← Nat.add_assoc, keepC]
          congr 1
          by_cases q : gx s ((k0 + k2 : Nat) : Int) ≠ gx s (((k0 + k2 : Nat) : Int) - 1)
          · rw [if_pos q, if_pos (.inr q)]
          · rw [if_neg q, if_neg (fun e => e.elim (fun e => by omega) q)]
        rw [Wk (n := (k2 : Int) - 1) (by omega) (by omega)]
        rw [need_of ⟨by omega, by omega, by omega⟩, need_of ⟨by omega, by omega⟩, need_of ⟨by omega, by omega⟩, need_of ⟨by omega, by omega, by omega⟩, need_of ⟨by omega, by omega⟩, need_of ⟨by omega, by omega⟩, ez, ez']
        by_cases q : gx s ((k0 + k2 : Nat) : Int) = gx s (((k0 + k2 : Nat) : Int) - 1)
        · rw [decide_eq_true q, Bool.not_true, cond_false, Option.bind_some, bnd_eq, Wk (n := (k2 : Int) + 1) (by omega) (by omega)]
          rw [if_neg (fun e => e q), List.append_nil] at hkn
          refine ⟨_, rfl, ⟨k2 + 1, by simp, by omega, by omega, ?_, ?_, i6, ?_, ?_⟩, by simp only; omega⟩
          · rw [hkn]
          · rw [hkn]; omega
          · rw [hkn]; exact i7
          · have h1 : (z.drop (k0 + k2 - 1)).drop 1 = (s.drop (k0 + k2 - 1)).drop 1 := by rw [i8]
            rw [List.drop_drop, List.drop_drop] at h1
            rw [show k0 + (k2 + 1) - 1 = k0 + k2 - 1 + 1 by omega]; exact h1
        · rw [decide_eq_false q, Bool.not_false, cond_true]
          rw [need_of ⟨by omega, by omega, by omega⟩, need_of ⟨by omega, by omega⟩, need_of ⟨by omega, by omega⟩, bnd_eq, need_of ⟨by omega, by omega⟩, bnd_eq, bnd_eq, Option.bind_some, bnd_eq, Wk (n := (k2 : Int) + 1) (by omega) (by omega), Wk (by omega) (by omega)]
          rw [if_pos q] at hkn
          have hkl : (keepC s (k0 + (k2 + 1))).length = (keepC s (k0 + k2)).length + 1 := by rw [hkn]; simp
          simp only [Int.toNat_natCast]
          refine ⟨_, rfl, ⟨k2 + 1, by simp, by omega, by omega, ?_, ?_, by simp [i6], ?_, ?_⟩, by simp only; omega⟩
          · simp only; rw [hkl]; simp
          · rw [hkl]; omega
          · simp only
            rw [hkl, List.take_succ_eq_append_getElem (by simp; omega), List.take_set_of_le (Nat.le_refl _), i7, hkn]
            simp [ez]
          · simp only
            rw [List.drop_set_of_lt (by omega), show k0 + (k2 + 1) - 1 = k0 + k2 - 1 + 1 by omega]
            have h1 : (z.drop (k0 + k2 - 1)).drop 1 = (s.drop (k0 + k2 - 1)).drop 1 := by rw [i8]
            rw [List.drop_drop, List.drop_drop] at h1
            exact h1
      · right
        obtain hc : k0 + k2 = s.length := by omega
        rw [decide_eq_false (p := (k2 : Int) < (s.length : Int) - (k0 : Int)) (by omega), cond_false]
        rw [hc] at i7
        exact ⟨_, rfl, by simp only [hc], i6, i7⟩)
  exact ⟨e, e1, e2, e3, e4⟩
theorem Compact_eq {s : List DOp} (hl : s.length ≤ 1000000) : slices_Compact_Op s = some (keepC s s.length) := by
  unfold slices_Compact_Op
  by_cases h2 : s.length < 2
  · rw [decide_eq_true (p := (s.length : Int) < 2) (by omega), cond_true, keepC_plain (Nat.le_refl _) (fun j h1 h3 => by omega), List.take_length]
  · rw [decide_eq_false (p := (s.length : Int) < 2) (by omega), cond_false]
    obtain ⟨e, e1, e2⟩ := loop_inv (body := slices_Compact_Op_L1 s) (s0 := (1 : Int)) (fun st => ∃ k : Nat, st = (k : Int) ∧ 0 < k ∧ k ≤ s.length ∧ ∀ j : Nat, 0 < j → j < k → gx s (j : Int) ≠ gx s ((j : Int) - 1))
      (fun st => ((s.length : Int) - st).toNat) (fun e => e = Res.ab (keepC s s.length) ∨ (e = Res.nx () ∧ keepC s s.length = s)) ⟨1, rfl, by omega, by omega, fun j h1 h3 => by omega⟩ (fun st hI => by
        obtain ⟨k, rfl, i1, i2, i3⟩ := hI
        unfold slices_Compact_Op_L1
        by_cases c : k < s.length
        · rw [decide_eq_true (p := (k : Int) < (s.length : Int)) (by omega), cond_true, Wk (n := (k : Int) - 1) (by omega) (by omega), need_of ⟨by omega, by omega⟩, need_of ⟨by omega, by omega⟩]
          by_cases q : gx s (k : Int) = gx s ((k : Int) - 1)
          · right
            obtain ⟨e, e1, e2, e3, e4⟩ := Compact_inner i1 c hl i3 q
            have hkl := keepC_len s s.length
            rw [decide_eq_true q, cond_true, need_of ⟨by omega, by omega, by omega⟩, e1, Option.bind_some, e2, need_of ⟨by omega, by omega, by omega⟩, bnd_eq, need_of ⟨by omega, by omega, by simp; omega⟩, bnd_eq]
            refine ⟨_, rfl, .inl ?_⟩
            congr 1
            simp only [Int.toNat_natCast]
            unfold seg
            rw [Int.toNat_natCast, e4]
            simp
          · left
            rw [decide_eq_false q, cond_false, bindR_nx, bnd_eq, Wk (by omega) (by omega)]
            refine ⟨_, rfl, ⟨k + 1, by simp, by omega, by omega, fun j h1 h3 => ?_⟩, by omega⟩
            by_cases hj : j = k
            · rw [hj]; exact q
            · exact i3 j h1 (by omega)
        · right
          obtain rfl : k = s.length := by omega
          rw [decide_eq_false (p := (s.length : Int) < (s.length : Int)) (by omega), cond_false]
          exact ⟨_, rfl, .inr ⟨rfl, by rw [keepC_plain (Nat.le_refl _) i3, List.take_length]⟩⟩)
    rw [e1]
    rcases e2 with e2 | ⟨e2, e3⟩
    · rw [e2]; rfl
    · rw [e2, e3]; rfl

/-! What is merged. -/

/-- Two different operations with one key. -/
def clash (l : List DOp) : Prop := ∃ x ∈ l, ∃ y ∈ l, cmpOp x y = 0 ∧ x ≠ y
theorem sorted_le {s : List DOp} (h : srt (fun x y => decide (cmpOp x y < 0)) s) {i j : Nat} (hij : i < j) (hj : j < s.length) : cmpOp (s[i]'(by omega)) s[j] ≤ 0 := by
  have := List.pairwise_iff_getElem.1 h i j (by omega) hj hij
  have h1 := of_decide_eq_false this
  have h2 := cmpOp_swap (s[i]'(by omega)) s[j]
  omega
theorem sorted_near {s : List DOp} (h : srt (fun x y => decide (cmpOp x y < 0)) s) {i j : Nat} (hij : i < j) (hj : j < s.length) (he : cmpOp (s[i]'(by omega)) s[j] = 0) : cmpOp (s[j - 1]'(by omega)) s[j] = 0 := by
  have h1 := sorted_le h (i := j - 1) (j := j) (by omega) hj
  by_cases hi : i = j - 1
  · subst hi; exact he
  · have h2 := sorted_le h (i := i) (j := j - 1) (by omega) (by omega)
    have h3 := (cmpOp_trans h2 h1).2
    by_cases c : cmpOp (s[j - 1]'(by omega)) s[j] < 0
    · have := h3 (.inr c); omega
    · omega
theorem keepC_lt {s : List DOp} (h : srt (fun x y => decide (cmpOp x y < 0)) s) (hc : ∀ j : Nat, (hj : j < s.length) → 0 < j → cmpOp (s[j - 1]'(by omega)) s[j] = 0 → s[j - 1]'(by omega) = s[j]) : ∀ {n : Nat}, n ≤ s.length → (keepC s n).Pairwise ltOp
  | 0, _ => by simp [keepC]
  | n + 1, hn => by
    have ih := keepC_lt h hc (n := n) (by omega)
    rw [keepC]
    by_cases c : n = 0 ∨ gx s (n : Int) ≠ gx s ((n : Int) - 1)
    · rw [if_pos c]
      refine List.pairwise_append.2 ⟨ih, by simp, fun x hx y hy => ?_⟩
      rw [List.mem_singleton.1 hy, gx_nat (by omega)]
      obtain ⟨i, hi, rfl⟩ := List.mem_take_iff_getElem.1 ((keepC_mem (by omega) x).1 hx)
      have hin : i < n := by omega
      have h1 := sorted_le h hin (by omega)
      unfold ltOp
      refine Decidable.byContradiction fun hh => ?_
      have h2 := sorted_near h hin (by omega) (by omega)
      have h3 := hc n (by omega) (by omega) h2
      rcases c with c | c
      · omega
      · apply c
        rw [gx_nat (by omega), show (n : Int) - 1 = ((n - 1 : Nat) : Int) by omega, gx_nat (by omega), h3]
    · rw [if_neg c, List.append_nil]; exact ih
end Go.DB
