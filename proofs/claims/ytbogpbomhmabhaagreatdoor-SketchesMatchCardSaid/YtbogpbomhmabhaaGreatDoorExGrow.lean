/-
  What the library's growing of a nil slice comes to: an empty row of one's own.
-/
import Derived.Test.YtbogpbomhmabhaaGreatDoorCoreD
import Derived.Shelf.Spec.SlicesGrow
set_option linter.unusedSimpArgs false
set_option linter.unusedVariables false
namespace Go.DB
open Go Go.RowKit

theorem growNil_spec {P : Program} {ρ : Shelf.Ren} (Ly : Proofs.Lays8.n4 P ρ) {f t E : Nat} {α : Type} [Rep α] (hT : RowOK P t E α) (hf : ρ.f 4 = f) (hE : ρ.t 25 = E) (ok : FnOK P f)
    {n : Int} (hn : 0 ≤ n ∧ n ≤ 1073741824) : FSpecO P f [isV (.slice none 0 0), rep n] [] anyV [some (rowV E ([] : List α))] := by
  refine ⟨ok, fun M D w vs hM ha hO => ?_⟩
  match vs, ha with
  | [v, u], ⟨hv, hu, _⟩ =>
    obtain ⟨rfl, _⟩ := rep_raw.1 hv
    obtain ⟨rfl, _⟩ := rep_int.1 hu
    subst hf; subst hE
    obtain ⟨i, z, ht, hi, hz, hsz, hzs, hby⟩ := hT.get
    obtain ⟨k, rfl⟩ : ∃ k : Nat, n = k := ⟨n.toNat, by omega⟩
    have hk : k ≤ 1073741824 := by omega
    have hspos : 0 < Rep.sz α := Rep.pos
    by_cases h0 : k = 0
    · subst h0
      refine Calls.mono (Proofs.Any8.slices_Grow_room Ly none 0 0 0 w (by omega) (by omega) (by omega) (by omega)) ?_
      rintro e w' ⟨rfl, rfl⟩
      refine ⟨_, M, fun _ => NoM, rfl, Keeps.refl _ _, fun k h => .inl h, fun k h => .inl h, fun k h => hM.lt k h, trivial, ?_, ?_⟩
      · intro i c hc
        match i, hc with
        | 0, hc =>
          simp only [List.getElem?_cons_zero, Option.some.injEq] at hc
          subst hc
          exact ⟨⟨none, 0, rfl, Nat.le_refl _, by omega, rfl, rfl, fun k h => h⟩, fun k hk => hk.elim⟩
      · intro i j c c' hi hj hne
        match i, j, hi, hj with
        | 0, 0, _, _ => omega
    · have hbytes : (0 + k) * i.bytes ≤ 140737488355328 := by
        have := Nat.mul_le_mul hk hby
        rw [Nat.zero_add]
        omega
      refine Calls.mono (Proofs.Any8.slices_Grow_grow Ly i z hi hz (by rw [hsz]; exact hspos) none 0 0 k [] w (by omega) (by omega) hbytes (by omega) (by simp) (fun _ => rfl) (fun a h => by cases h)) ?_
      rintro e w' ⟨rfl, rfl⟩
      have hge := grownCap_ge w (0 + k) 0 (ρ.t 25)
      have hle := grownCap_le_maxLen w (0 + k) 0 (ρ.t 25) (by simp only [maxLen]; omega)
      have hext : Ext w (w.drew.alloc (.cells (([] : List Value).toArray ++ Builtin.zeroCells z.cells (0 + k - 0) ++ Builtin.zeroCells z.cells (grownCap w (0 + k) 0 (ρ.t 25) - (0 + k))) (ρ.t 25))) := Keeps.trans (Ext.drew w) (Ext.alloc w.drew _)
      refine ⟨_, fun k => M k ∨ k = w.heap.size, fun _ k => k = w.heap.size, rfl, hext.keeps, fun k h => .inl (.inl h), fun k h => h.imp id (fun e => by subst e; exact Nat.le_refl _), fun j h => ?_, trivial, ?_, ?_⟩
      · rw [size_new]
        show j < w.heap.size + 1
        rcases h with h | h
        · have := hM.lt j h; omega
        · omega
      · intro i' c hc
        match i', hc with
        | 0, hc =>
          simp only [List.getElem?_cons_zero, Option.some.injEq] at hc
          subst hc
          refine ⟨⟨some ⟨w.heap.size, 0, none⟩, _, rfl, Nat.zero_le _, by simp only [maxLen] at hle; exact hle, rfl, fun k => Iff.rfl, .inr rfl, [], [], (([] : List Value).toArray ++ Builtin.zeroCells z.cells (0 + k - 0) ++ Builtin.zeroCells z.cells (grownCap w (0 + k) 0 (ρ.t 25) - (0 + k))).toList, ?_, rfl, rfl, ?_⟩, fun k hk => .inr (by rw [hk]; exact Nat.le_refl _)⟩
          · refine HRow.of ?_
            show (w.drew.heap.push _)[w.heap.size]? = _
            rw [show w.heap.size = w.drew.heap.size from rfl, Array.getElem?_push_size]
            simp
          · have e : ((([] : List Value).toArray ++ Builtin.zeroCells z.cells (0 + k - 0) ++ Builtin.zeroCells z.cells (grownCap w (0 + k) 0 (ρ.t 25) - (0 + k))).toList).length = (0 + k - 0) * Rep.sz α + (grownCap w (0 + k) 0 (ρ.t 25) - (0 + k)) * Rep.sz α := by
              rw [Array.toList_append, Array.toList_append, List.length_append, List.length_append, Array.length_toList, Array.length_toList, Array.length_toList, size_zeroCells, size_zeroCells, hzs]
              simp
            rw [e, ← Nat.add_mul]
            refine Nat.mul_le_mul_right _ ?_
            have e2 : ([] : List α).length = 0 := rfl
            rw [e2]
            omega
      · intro i j c c' hi hj hne
        match i, j, hi, hj with
        | 0, 0, _, _ => omega
end Go.DB
