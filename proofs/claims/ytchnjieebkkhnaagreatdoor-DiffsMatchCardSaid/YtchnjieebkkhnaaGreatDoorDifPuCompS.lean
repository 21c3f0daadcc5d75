/-
  Strings that are compacted.
-/
import Derived.Test.YtchnjieebkkhnaaGreatDoorDifPuRef
set_option linter.unusedSimpArgs false
set_option linter.unusedVariables false
namespace Go.DB
open Go Go.RowKit

/-! Neighbours that are equal. -/

/-- Those among the first n that differ from the one before. -/
def keepS (s : List Str) : Nat → List Str
  | 0 => []
  | n + 1 => keepS s n ++ (if n = 0 ∨ gx s (n : Int) ≠ gx s ((n : Int) - 1) then [gx s (n : Int)] else [])
theorem keepS_len (s : List Str) : ∀ n, (keepS s n).length ≤ n
  | 0 => by simp [keepS]
  | n + 1 => by
    have := keepS_len s n
    rw [keepS, List.length_append]
    split <;> simp <;> omega
theorem keepS_mem {s : List Str} : ∀ {n : Nat}, n ≤ s.length → ∀ x, x ∈ keepS s n ↔ x ∈ s.take n
  | 0, _, x => by simp [keepS]
  | n + 1, h, x => by
    have ih := keepS_mem (s := s) (n := n) (by omega) x
    rw [keepS, List.mem_append, ih, List.take_succ_eq_append_getElem (by omega), List.mem_append, ← gx_nat (l := s) (i := n) (by omega)]
    by_cases c : n = 0 ∨ gx s (n : Int) ≠ gx s ((n : Int) - 1)
    · rw [if_pos c]
    · rw [if_neg c]
      have hn : ¬ n = 0 := fun e => c (.inl e)
      have he : gx s (n : Int) = gx s ((n : Int) - 1) := Decidable.byContradiction fun e => c (.inr e)
      refine ⟨fun h => h.elim .inl (fun h => by simp at h), fun h' => h'.elim .inl (fun h' => .inl ?_)⟩
      rw [List.mem_singleton.1 h', he, show ((n : Int) - 1) = ((n - 1 : Nat) : Int) by omega, gx_nat (by omega)]
      refine List.mem_take_iff_getElem.2 ⟨n - 1, by omega, rfl⟩
theorem keepS_plain {s : List Str} : ∀ {n : Nat}, n ≤ s.length → (∀ j : Nat, 0 < j → j < n → gx s (j : Int) ≠ gx s ((j : Int) - 1)) → keepS s n = s.take n
  | 0, _, _ => by simp [keepS]
  | n + 1, h, hj => by
    rw [keepS, keepS_plain (by omega) (fun j h1 h2 => hj j h1 (by omega)), List.take_succ_eq_append_getElem (by omega), ← gx_nat (l := s) (i := n) (by omega), if_pos]
    by_cases c : n = 0
    · exact .inl c
    · exact .inr (hj n (by omega) (by omega))
theorem CompactS_inner {s : List Str} {k0 : Nat} (h0 : 0 < k0) (h1 : k0 < s.length) (hl : s.length ≤ 1000000) (hp : ∀ j : Nat, 0 < j → j < k0 → gx s (j : Int) ≠ gx s ((j : Int) - 1)) (he : gx s (k0 : Int) = gx s ((k0 : Int) - 1)) :
    ∃ e : Int × List Str, loop (slices_Compact_string_L2 s (k0 : Int)) ((k0 : Int), 1, s) = some e ∧ e.1 = ((keepS s s.length).length : Int) ∧ e.2.length = s.length ∧ e.2.take (keepS s s.length).length = keepS s s.length := by
  obtain ⟨e, e1, e2, e3, e4⟩ := loop_inv (body := slices_Compact_string_L2 s (k0 : Int)) (s0 := ((k0 : Int), 1, s))
    (fun st => ∃ k2 : Nat, st.2.1 = (k2 : Int) ∧ 1 ≤ k2 ∧ k0 + k2 ≤ s.length ∧ st.1 = ((keepS s (k0 + k2)).length : Int) ∧ (keepS s (k0 + k2)).length + 1 ≤ k0 + k2 ∧ st.2.2.length = s.length ∧
      st.2.2.take (keepS s (k0 + k2)).length = keepS s (k0 + k2) ∧ st.2.2.drop (k0 + k2 - 1) = s.drop (k0 + k2 - 1))
    (fun st => ((s.length : Int) - st.2.1).toNat) (fun e => e.1 = ((keepS s s.length).length : Int) ∧ e.2.length = s.length ∧ e.2.take (keepS s s.length).length = keepS s s.length)
    (by
      have hk : keepS s (k0 + 1) = s.take k0 := by
        rw [keepS, if_neg (by rintro (h | h); omega; exact h he), List.append_nil, keepS_plain (by omega) hp]
      have hkl : (s.take k0).length = k0 := by simp; omega
      refine ⟨1, rfl, by omega, by omega, ?_, ?_, rfl, ?_, rfl⟩
      · rw [hk, hkl]
      · rw [hk, hkl]; omega
      · rw [hk, hkl]) (fun st hI => by
      obtain ⟨k2, i1, i2, i3, i4, i5, i6, i7, i8⟩ := hI
      obtain ⟨a, b, z⟩ := st
      simp only at i1 i4 i6 i7 i8
      subst i1 i4
      unfold slices_Compact_string_L2
      simp only
      rw [need_of ⟨by omega, by omega, by omega⟩]
      have hz : ∀ t : Nat, k0 + k2 - 1 ≤ t → (ht : t < s.length) → gx z (t : Int) = s[t] := fun t ht1 ht => by
        rw [gx_nat (by omega)]
        have h1 : (z.drop (k0 + k2 - 1))[t - (k0 + k2 - 1)]'(by simp; omega) = (s.drop (k0 + k2 - 1))[t - (k0 + k2 - 1)]'(by simp; omega) := by simp only [i8]
        simp only [List.getElem_drop] at h1
        have e : k0 + k2 - 1 + (t - (k0 + k2 - 1)) = t := by omega
        simpa only [e] using h1
      by_cases c : k0 + k2 < s.length
      · left
        rw [decide_eq_true (p := (k2 : Int) < (s.length : Int) - (k0 : Int)) (by omega), cond_true]
        have ez : gx z ((k0 : Int) + (k2 : Int)) = gx s ((k0 + k2 : Nat) : Int) := by
          rw [show (k0 : Int) + (k2 : Int) = ((k0 + k2 : Nat) : Int) by omega, hz _ (by omega) c, gx_nat c]
        have ez' : gx z ((k0 : Int) + ((k2 : Int) - 1)) = gx s (((k0 + k2 : Nat) : Int) - 1) := by
          rw [show (k0 : Int) + ((k2 : Int) - 1) = ((k0 + k2 - 1 : Nat) : Int) by omega, hz _ (by omega) (by omega), show ((k0 + k2 : Nat) : Int) - 1 = ((k0 + k2 - 1 : Nat) : Int) by omega, gx_nat (by omega)]
        have hkn : keepS s (k0 + (k2 + 1)) = keepS s (k0 + k2) ++ (if gx s ((k0 + k2 : Nat) : Int) ≠ gx s (((k0 + k2 : Nat) : Int) - 1) then [gx s ((k0 + k2 : Nat) : Int)] else []) := by
          rw [← Nat.add_assoc, keepS]
          congr 1
          by_cases q : gx s ((k0 + k2 : Nat) : Int) ≠ gx s (((k0 + k2 : Nat) : Int) - 1)
          · rw [if_pos q, if_pos (.inr q)]
          · rw [if_neg q, if_neg (fun e => e.elim (fun e => by omega) q)]
        rw [Wk (n := (k2 : Int) - 1) (by omega) (by omega)]
        rw [need_of ⟨by omega, by omega, by omega⟩, need_of ⟨by omega, by omega⟩, need_of ⟨by omega, by omega⟩, need_of ⟨by omega, by omega, by omega⟩, need_of ⟨by omega, by omega⟩, need_of ⟨by omega, by omega⟩, ez, ez']
        by_cases q : gx s ((k0 + k2 : Nat) : Int) = gx s (((k0 + k2 : Nat) : Int) - 1)
        · rw [decide_eq_true q, Bool.not_true, cond_false, Option.bind_some, bnd_eq, Wk (n := (k2 : Int) + 1) (by omega) (by omega)]
          rw [if_neg (fun e => e q), List.append_nil] at hkn
          refine ⟨_, rfl, ⟨k2 + 1, by simp, by omega, by omega, ?_, ?_, i6, ?_, ?_⟩, by simp only; omega⟩
          · rw [hkn]
          · rw [hkn]; omega
          · rw [hkn]; exact i7
          · have h1 : (z.drop (k0 + k2 - 1)).drop 1 = (s.drop (k0 + k2 - 1)).drop 1 := by rw [i8]
            rw [List.drop_drop, List.drop_drop] at h1
            rw [show k0 + (k2 + 1) - 1 = k0 + k2 - 1 + 1 by omega]; exact h1
        · rw [decide_eq_false q, Bool.not_false, cond_true]
          rw [need_of ⟨by omega, by omega, by omega⟩, need_of ⟨by omega, by omega⟩, need_of ⟨by omega, by omega⟩, bnd_eq, need_of ⟨by omega, by omega⟩, bnd_eq, bnd_eq, Option.bind_some, bnd_eq, Wk (n := (k2 : Int) + 1) (by omega) (by omega), Wk (by omega) (by omega)]
          rw [if_pos q] at hkn
          have hkl : (keepS s (k0 + (k2 + 1))).length = (keepS s (k0 + k2)).length + 1 := by rw [hkn]; simp
          simp only [Int.toNat_natCast]
          refine ⟨_, rfl, ⟨k2 + 1, by simp, by omega, by omega, ?_, ?_, by simp [i6], ?_, ?_⟩, by simp only; omega⟩
          · simp only; rw [hkl]; simp
          · rw [hkl]; omega
          · simp only
            rw [hkl, List.take_succ_eq_append_getElem (by simp; omega), List.take_set_of_le (Nat.le_refl _), i7, hkn]
            simp [ez]
          · simp only
            rw [List.drop_set_of_lt (by omega), show k0 + (k2 + 1) - 1 = k0 + k2 - 1 + 1 by omega]
            have h1 : (z.drop (k0 + k2 - 1)).drop 1 = (s.drop (k0 + k2 - 1)).drop 1 := by rw [i8]
            rw [List.drop_drop, List.drop_drop] at h1
            exact h1
      · right
        obtain hc : k0 + k2 = s.length := by omega
        rw [decide_eq_false (p := (k2 : Int) < (s.length : Int) - (k0 : Int)) (by omega), cond_false]
        rw [hc] at i7
        exact ⟨_, rfl, by simp only [hc], i6, i7⟩)
  exact ⟨e, e1, e2, e3, e4⟩
theorem CompactS_eq {s : List Str} (hl : s.length ≤ 1000000) : slices_Compact_string s = some (keepS s s.length) := by
  unfold slices_Compact_string
  by_cases h2 : s.length < 2
  · rw [decide_eq_true (p := (s.length : Int) < 2) (by omega), cond_true, keepS_plain (Nat.le_refl _) (fun j h1 h3 => by omega), List.take_length]
  · rw [decide_eq_false (p := (s.length : Int) < 2) (by omega), cond_false]
    obtain ⟨e, e1, e2⟩ := loop_inv (body := slices_Compact_string_L1 s) (s0 := (1 : Int)) (fun st => ∃ k : Nat, st = (k : Int) ∧ 0 < k ∧ k ≤ s.length ∧ ∀ j : Nat, 0 < j → j < k → gx s (j : Int) ≠ gx s ((j : Int) - 1))
      (fun st => ((s.length : Int) - st).toNat) (fun e => e = Res.ab (keepS s s.length) ∨ (e = Res.nx () ∧ keepS s s.length = s)) ⟨1, rfl, by omega, by omega, fun j h1 h3 => by omega⟩ (fun st hI => by
        obtain ⟨k, rfl, i1, i2, i3⟩ := hI
        unfold slices_Compact_string_L1
        by_cases c : k < s.length
        · rw [decide_eq_true (p := (k : Int) < (s.length : Int)) (by omega), cond_true, Wk (n := (k : Int) - 1) (by omega) (by omega), need_of ⟨by omega, by omega⟩, need_of ⟨by omega, by omega⟩]
          by_cases q : gx s (k : Int) = gx s ((k : Int) - 1)
          · right
            obtain ⟨e, e1, e2, e3, e4⟩ := CompactS_inner i1 c hl i3 q
            have hkl := keepS_len s s.length
            rw [decide_eq_true q, cond_true, need_of ⟨by omega, by omega, by omega⟩, e1, Option.bind_some, e2, need_of ⟨by omega, by omega, by omega⟩, bnd_eq, need_of ⟨by omega, by omega, by simp; omega⟩, bnd_eq]
            refine ⟨_, rfl, .inl ?_⟩
            congr 1
            simp only [Int.toNat_natCast]
            unfold seg
            rw [Int.toNat_natCast, e4]
            simp
          · left
            rw [decide_eq_false q, cond_false, bindR_nx, bnd_eq, Wk (by omega) (by omega)]
            refine ⟨_, rfl, ⟨k + 1, by simp, by omega, by omega, fun j h1 h3 => ?_⟩, by omega⟩
            by_cases hj : j = k
            · rw [hj]; exact q
            · exact i3 j h1 (by omega)
        · right
          obtain rfl : k = s.length := by omega
          rw [decide_eq_false (p := (s.length : Int) < (s.length : Int)) (by omega), cond_false]
          exact ⟨_, rfl, .inr ⟨rfl, by rw [keepS_plain (Nat.le_refl _) i3, List.take_length]⟩⟩)
    rw [e1]
    rcases e2 with e2 | ⟨e2, e3⟩
    · rw [e2]; rfl
    · rw [e2, e3]; rfl

end Go.DB
