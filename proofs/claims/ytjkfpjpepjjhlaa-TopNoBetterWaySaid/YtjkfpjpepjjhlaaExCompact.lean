/-
  What the library's compacting of integers comes to.
-/
import Derived.Test.YtjkfpjpepjjhlaaExSort
import Derived.Shelf.SlicesG.CompactI
set_option linter.unusedSimpArgs false
set_option linter.unusedVariables false
namespace Go.DB
open Go Go.RowKit

noncomputable def compactI (l : List Int) : List Int := Lib.compact l
theorem compactI_mem {l : List Int} {x : Int} (h : x ∈ compactI l) : x ∈ l := by
  unfold compactI Lib.compact Lib.compactUpTo at h
  obtain ⟨j, h1, rfl⟩ := List.mem_map.1 h
  have hj : j < l.length := by simpa using (List.mem_filter.1 h1).1
  rw [getElem!_pos _ _ (by simpa using hj)]
  simp
theorem compactI_len (l : List Int) : (compactI l).length ≤ l.length := by
  unfold compactI Lib.compact Lib.compactUpTo
  rw [List.length_map]
  exact Nat.le_trans (List.length_filter_le _ _) (by simp)

/-- slices.Compact of integers. -/
theorem compactI_spec {P : Program} {ρ : Shelf.Ren} (Ly : Proofs.SlLaysN.n43 P ρ) {f : Nat} (hf : ρ.f 43 = f) (ok : FnOK P f) {T : TypeId} {s : Value} {l : List Int} (hl : (l.length : Int) < 4611686018427387904) :
    FSpecO P f [isV s] [(s, rowV T l)] anyV [none, some (rowV T (compactI l))] := by
  refine ⟨ok, fun M D w vs hM ha hO => ?_⟩
  match vs, ha with
  | [v], ⟨hv, _⟩ =>
    obtain ⟨rfl, _⟩ := rep_raw.1 hv
    have h0 := hO.has 0 v (rowV T l) rfl
    obtain ⟨a, cap, rfl, h1, h2, h3⟩ := h0
    subst hf
    have hle := compactI_len l
    cases a with
    | none =>
      obtain ⟨h4, h5, h6⟩ := h3
      subst h4
      have e0 : compactI [] = [] := List.length_eq_zero_iff.1 (by simpa using hle)
      refine Calls.mono (Proofs.AnyG.slices_Compact_int_empty Ly none cap w) ?_
      rintro e w' ⟨rfl, rfl⟩
      refine ⟨_, M, fun _ => D 0, rfl, Keeps.refl _ _, fun k h => .inl h, fun k h => .inl h, hM, trivial, ?_, ?_⟩
      · intro i c hc
        match i, hc with
        | 0, hc => cases hc
        | 1, hc =>
          simp only [List.getElem?_cons_succ, List.getElem?_cons_zero, Option.some.injEq] at hc
          subst hc
          refine ⟨⟨none, cap, by simp [e0], by simp [e0], h2, by simp [e0], h5, h6⟩, fun k hk => absurd hk (h6 k)⟩
      · intro i j c c' hi hj hne
        match i, j, hi, hj with
        | 0, _, hi, _ => cases hi
        | 1, 0, _, hj => cases hj
        | 1, 1, _, _ => omega
    | some ad =>
      obtain ⟨b, off, sp⟩ := ad
      obtain ⟨hs, hD, hMb, pre, cs, rest, hh, hp, he, hr⟩ := h3
      simp only at hs hD hMb hh hp
      subst hs
      obtain ⟨hcs, hin⟩ := (elems_int l cs).1 he
      have hcl : cs.length = l.length := by rw [hcs]; simp
      have hcell : ∀ j, w.cell? ⟨b, j, none⟩ = (pre ++ cs ++ rest).toArray[j]? := fun j => cell_of_heap hh
      have hfz : ∀ j, w.frozen? ⟨b, j, none⟩ = false := fun j => by simp [World.frozen?, hh]
      have hblk : b < w.heap.size := hM b hMb
      refine Calls.mono (Proofs.AnyG.slices_Compact_int Ly b off cap l w (fun j hj => ⟨?_, hfz _⟩) (by omega) (by omega)) ?_
      · rw [hcell]
        have hj' : j < l.length := by simpa using hj
        simp only [List.getElem?_toArray]
        rw [List.append_assoc, List.getElem?_append_right (by omega), List.getElem?_append_left (by omega), hcs, List.getElem?_map, show off + j - pre.length = j by omega, List.getElem?_eq_getElem hj', Option.map_some]
        congr 2
        rw [getElem!_pos _ _ (by simpa using hj')]
        simp
      · rintro e w' ⟨rfl, n, rfl⟩
        have hkeep : Keeps (DU D 1) w (Go.Sort.putRow (Value.int .i64) (Go.Sort.ahead w n) b off (Lib.compact l ++ List.replicate (l.length - (Lib.compact l).length) 0).toArray) := by
          refine ⟨rfl, rfl, rfl, ?_, fun k hk hn => ?_⟩
          · simp [Go.Sort.putRow, Go.Sort.mapBlock, Go.Sort.ahead]
          · have hne : b ≠ k := fun e => hn ⟨0, by omega, (hD k).2 e.symm⟩
            simp only [Go.Sort.putRow, Go.Sort.mapBlock, Go.Sort.ahead]
            rw [Array.getElem?_modify, if_neg hne]
        have hll : (Lib.compact l ++ List.replicate (l.length - (Lib.compact l).length) (0 : Int)).length = l.length := by
          have : (Lib.compact l).length ≤ l.length := hle
          simp; omega
        have hhb : (Go.Sort.putRow (Value.int .i64) (Go.Sort.ahead w n) b off (Lib.compact l ++ List.replicate (l.length - (Lib.compact l).length) 0).toArray).heap[b]? =
            some (.cells (pre ++ (compactI l).map (Value.int .i64) ++ ((List.replicate (l.length - (Lib.compact l).length) (0 : Int)).map (Value.int .i64) ++ rest)).toArray T (0, 0)) := by
          simp only [Go.Sort.putRow, Go.Sort.mapBlock, Go.Sort.ahead]
          rw [Array.getElem?_modify, if_pos rfl, hh, Option.map_some]
          simp only [Go.Sort.onCells]
          rw [putCells_mid hp rfl (by rw [hcl, hll])]
          simp [compactI, List.map_append, List.append_assoc]
        generalize hw : Go.Sort.putRow (Value.int .i64) (Go.Sort.ahead w n) b off (Lib.compact l ++ List.replicate (l.length - (Lib.compact l).length) 0).toArray = w' at hkeep hhb
        refine ⟨_, M, fun _ => D 0, rfl, hkeep, fun k h => .inl h, fun k h => .inl h, fun k h => Nat.lt_of_lt_of_le (hM k h) hkeep.size, trivial, ?_, ?_⟩
        · intro i c hc
          match i, hc with
          | 0, hc => cases hc
          | 1, hc =>
            simp only [List.getElem?_cons_succ, List.getElem?_cons_zero, Option.some.injEq] at hc
            subst hc
            refine ⟨⟨some ⟨b, off, none⟩, cap, rfl, by omega, h2, rfl, hD, hMb, pre, _, _, hhb, hp, (elems_int _ _).2 ⟨rfl, fun x hx => hin x (compactI_mem hx)⟩, ?_⟩, fun k hk => .inl ⟨0, by simp, hk⟩⟩
            have hsz : Rep.sz Int = 1 := rfl
            have : (Lib.compact l).length ≤ l.length := hle
            rw [hsz] at hr ⊢
            simp only [List.length_append, List.length_map, List.length_replicate]
            show (cap - (Lib.compact l).length) * 1 ≤ _
            omega
        · intro i j c c' hi hj hne
          match i, j, hi, hj with
          | 0, _, hi, _ => cases hi
          | 1, 0, _, hj => cases hj
          | 1, 1, _, _ => omega

end Go.DB
