/-
  Nodes and edges that are left out.
-/
import Derived.Test.YtclcheggnlhamaaGreatDoorChgPuDoc1
set_option linter.unusedSimpArgs false
set_option linter.unusedVariables false
namespace Go.DB
open Go Go.RowKit

theorem DeleteFunc_Node_eq (s : List DNode) (f : DNode → Option Bool) (p : DNode → Bool) (hl : s.length ≤ 1000000) (hf : ∀ x ∈ s, f x = some (p x)) : slices_DeleteFunc_Node s f = some (s.filter (fun x => !p x)) := by
  unfold slices_DeleteFunc_Node
  rw [IndexFunc_Node_eq s f p (by omega) hf, Option.bind_some]
  cases hfi : s.findIdx? p with
  | none =>
    simp only [decide_true, cond_true]
    congr 1
    rw [List.findIdx?_eq_none_iff] at hfi
    exact (List.filter_eq_self.2 fun x hx => by rw [hfi x hx]; rfl).symm
  | some i0 =>
    obtain ⟨h0, hp0, hbef⟩ := List.findIdx?_eq_some_iff_getElem.1 hfi
    simp only
    rw [decide_eq_false (p := (i0 : Int) = -1) (by omega), cond_false, bnd_eq, Wk (n := (i0 : Int) + 1) (by omega) (by omega)]
    obtain ⟨e, e1, i, e2, e3, e4, e5⟩ := loop_inv (body := slices_DeleteFunc_Node_L1 f) (s0 := ((i0 : Int), (i0 : Int) + 1, s))
      (fun st => ∃ i j : Nat, st.1 = i ∧ st.2.1 = j ∧ i < j ∧ j ≤ s.length ∧ st.2.2.length = s.length ∧ st.2.2.take i = (s.take j).filter (fun x => !p x) ∧ st.2.2.drop j = s.drop j)
      (fun st => ((s.length : Int) - st.2.1).toNat) (fun e => ∃ i : Nat, e.1 = i ∧ i ≤ s.length ∧ e.2.length = s.length ∧ e.2.take i = s.filter (fun x => !p x))
      ⟨i0, i0 + 1, rfl, by simp, by omega, by omega, rfl, by
        rw [List.take_succ_eq_append_getElem h0, List.filter_append]
        have : List.filter (fun x => !p x) [s[i0]] = [] := by simp [hp0]
        rw [this, List.append_nil]
        refine (List.filter_eq_self.2 fun x hx => ?_).symm
        obtain ⟨t, ht, rfl⟩ := List.getElem_of_mem hx
        simp at ht ⊢
        have := hbef t (by omega)
        simpa using this, rfl⟩ (fun st hI => by
        obtain ⟨i, j, i1, i2, i3, i4, i5, i6, i7⟩ := hI
        obtain ⟨a, b, z⟩ := st
        simp only at i1 i2 i5 i6 i7
        subst i1 i2
        unfold slices_DeleteFunc_Node_L1
        simp only
        by_cases c : j < s.length
        · left
          have hz : gx z (j : Int) = s[j] := by
            rw [gx_nat (by omega)]
            have h1 : (z.drop j)[0]'(by simp; omega) = (s.drop j)[0]'(by simp; omega) := by simp only [i7]
            simpa using h1
          rw [decide_eq_true (p := (j : Int) < (z.length : Int)) (by omega), cond_true, need_of ⟨by omega, by omega⟩, bnd_eq, hz, hf _ (List.getElem_mem c), Option.bind_some]
          cases hp : p s[j] with
          | true =>
            simp only [Bool.not_true, cond_false, bind_sm, bnd_eq]
            rw [Wk (by omega) (by omega)]
            refine ⟨_, rfl, ⟨i, j + 1, rfl, by simp, by omega, by omega, i5, ?_, ?_⟩, by simp only; omega⟩
            · simp only
              rw [i6, List.take_succ_eq_append_getElem c, List.filter_append]
              simp [hp]
            · simp only
              have h1 : (z.drop j).drop 1 = (s.drop j).drop 1 := by rw [i7]
              simpa [List.drop_drop] using h1
          | false =>
            simp only [Bool.not_false, cond_true, bnd_eq]
            rw [need_of ⟨by omega, by omega⟩, Wk (n := (i : Int) + 1) (by omega) (by omega), Option.bind_some, Wk (by omega) (by omega)]
            simp only [Int.toNat_natCast]
            refine ⟨_, rfl, ⟨i + 1, j + 1, by simp, by simp, by omega, by omega, by simp [i5], ?_, ?_⟩, by simp only; omega⟩
            · simp only
              rw [List.take_succ_eq_append_getElem (by simp; omega), List.take_set_of_le (Nat.le_refl _), i6, List.take_succ_eq_append_getElem c, List.filter_append]
              simp [hp]
            · simp only
              rw [List.drop_set_of_lt (by omega)]
              have h1 : (z.drop j).drop 1 = (s.drop j).drop 1 := by rw [i7]
              simpa [List.drop_drop] using h1
        · right
          obtain rfl : j = s.length := by omega
          rw [decide_eq_false (p := ((s.length : Nat) : Int) < (z.length : Int)) (by omega), cond_false]
          exact ⟨_, rfl, i, rfl, by omega, i5, by rw [i6, List.take_length]⟩)
    obtain ⟨ea, eb⟩ := e
    simp only at e2 e4 e5
    subst e2
    rw [e1, Option.bind_some]
    simp only
    rw [need_of ⟨by omega, by omega, by omega⟩, bnd_eq, need_of ⟨by omega, by omega, by simp; omega⟩, bnd_eq]
    congr 1
    simp only [Int.toNat_natCast]
    unfold seg
    rw [Int.toNat_natCast, e5]
    have hle : (s.filter (fun x => !p x)).length = i := by rw [← e5]; simp; omega
    simp [hle]
theorem DeleteFunc_Edge_eq (s : List DEdge) (f : DEdge → Option Bool) (p : DEdge → Bool) (hl : s.length ≤ 1000000) (hf : ∀ x ∈ s, f x = some (p x)) : slices_DeleteFunc_Edge s f = some (s.filter (fun x => !p x)) := by
  unfold slices_DeleteFunc_Edge
  rw [IndexFunc_Edge_eq s f p (by omega) hf, Option.bind_some]
  cases hfi : s.findIdx? p with
  | none =>
    simp only [decide_true, cond_true]
    congr 1
    rw [List.findIdx?_eq_none_iff] at hfi
    exact (List.filter_eq_self.2 fun x hx => by rw [hfi x hx]; rfl).symm
  | some i0 =>
    obtain ⟨h0, hp0, hbef⟩ := List.findIdx?_eq_some_iff_getElem.1 hfi
    simp only
    rw [decide_eq_false (p := (i0 : Int) = -1) (by omega), cond_false, bnd_eq, Wk (n := (i0 : Int) + 1) (by omega) (by omega)]
    obtain ⟨e, e1, i, e2, e3, e4, e5⟩ := loop_inv (body := slices_DeleteFunc_Edge_L1 f) (s0 := ((i0 : Int), (i0 : Int) + 1, s))
      (fun st => ∃ i j : Nat, st.1 = i ∧ st.2.1 = j ∧ i < j ∧ j ≤ s.length ∧ st.2.2.length = s.length ∧ st.2.2.take i = (s.take j).filter (fun x => !p x) ∧ st.2.2.drop j = s.drop j)
      (fun st => ((s.length : Int) - st.2.1).toNat) (fun e => ∃ i : Nat, e.1 = i ∧ i ≤ s.length ∧ e.2.length = s.length ∧ e.2.take i = s.filter (fun x => !p x))
      ⟨i0, i0 + 1, rfl, by simp, by omega, by omega, rfl, by
        rw [List.take_succ_eq_append_getElem h0, List.filter_append]
        have : List.filter (fun x => !p x) [s[i0]] = [] := by simp [hp0]
        rw [this, List.append_nil]
        refine (List.filter_eq_self.2 fun x hx => ?_).symm
        obtain ⟨t, ht, rfl⟩ := List.getElem_of_mem hx
        simp at ht ⊢
        have := hbef t (by omega)
        simpa using this, rfl⟩ (fun st hI => by
        obtain ⟨i, j, i1, i2, i3, i4, i5, i6, i7⟩ := hI
        obtain ⟨a, b, z⟩ := st
        simp only at i1 i2 i5 i6 i7
        subst i1 i2
        unfold slices_DeleteFunc_Edge_L1
        simp only
        by_cases c : j < s.length
        · left
          have hz : gx z (j : Int) = s[j] := by
            rw [gx_nat (by omega)]
            have h1 : (z.drop j)[0]'(by simp; omega) = (s.drop j)[0]'(by simp; omega) := by simp only [i7]
            simpa using h1
          rw [decide_eq_true (p := (j : Int) < (z.length : Int)) (by omega), cond_true, need_of ⟨by omega, by omega⟩, bnd_eq, hz, hf _ (List.getElem_mem c), Option.bind_some]
          cases hp : p s[j] with
          | true =>
            simp only [Bool.not_true, cond_false, bind_sm, bnd_eq]
            rw [Wk (by omega) (by omega)]
            refine ⟨_, rfl, ⟨i, j + 1, rfl, by simp, by omega, by omega, i5, ?_, ?_⟩, by simp only; omega⟩
            · simp only
              rw [i6, List.take_succ_eq_append_getElem c, List.filter_append]
              simp [hp]
            · simp only
              have h1 : (z.drop j).drop 1 = (s.drop j).drop 1 := by rw [i7]
              simpa [List.drop_drop] using h1
          | false =>
            simp only [Bool.not_false, cond_true, bnd_eq]
            rw [need_of ⟨by omega, by omega⟩, Wk (n := (i : Int) + 1) (by omega) (by omega), Option.bind_some, Wk (by omega) (by omega)]
            simp only [Int.toNat_natCast]
            refine ⟨_, rfl, ⟨i + 1, j + 1, by simp, by simp, by omega, by omega, by simp [i5], ?_, ?_⟩, by simp only; omega⟩
            · simp only
              rw [List.take_succ_eq_append_getElem (by simp; omega), List.take_set_of_le (Nat.le_refl _), i6, List.take_succ_eq_append_getElem c, List.filter_append]
              simp [hp]
            · simp only
              rw [List.drop_set_of_lt (by omega)]
              have h1 : (z.drop j).drop 1 = (s.drop j).drop 1 := by rw [i7]
              simpa [List.drop_drop] using h1
        · right
          obtain rfl : j = s.length := by omega
          rw [decide_eq_false (p := ((s.length : Nat) : Int) < (z.length : Int)) (by omega), cond_false]
          exact ⟨_, rfl, i, rfl, by omega, i5, by rw [i6, List.take_length]⟩)
    obtain ⟨ea, eb⟩ := e
    simp only at e2 e4 e5
    subst e2
    rw [e1, Option.bind_some]
    simp only
    rw [need_of ⟨by omega, by omega, by omega⟩, bnd_eq, need_of ⟨by omega, by omega, by simp; omega⟩, bnd_eq]
    congr 1
    simp only [Int.toNat_natCast]
    unfold seg
    rw [Int.toNat_natCast, e5]
    have hle : (s.filter (fun x => !p x)).length = i := by rw [← e5]; simp; omega
    simp [hle]
end Go.DB
