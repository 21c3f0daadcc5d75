/-
  What the library's sort of integers comes to.
-/
import Derived.Test.YtjkfpjpepjjhlaaCoreC
import Derived.Shelf.SortM.Plain
import Derived.Shelf.SortM.SortNone
set_option linter.unusedSimpArgs false
set_option linter.unusedVariables false
namespace Go.DB
open Go Go.RowKit

theorem elems_int {M : MSet} {w : World} : ∀ (l : List Int) (cs : List Value), Elems M w l cs ↔ cs = l.map (Value.int .i64) ∧ ∀ x ∈ l, InI x
  | [], cs => by simp [Elems]
  | x :: l, cs => by
    constructor
    · rintro ⟨c, r, h, ⟨h1, h2⟩, h3⟩
      obtain ⟨h4, h5⟩ := (elems_int l r).1 h3
      subst h1 h4
      exact ⟨by simp [h], by simp only [List.forall_mem_cons]; exact ⟨h2, h5⟩⟩
    · rintro ⟨h, h2⟩
      simp only [List.forall_mem_cons] at h2
      exact ⟨[.int .i64 x], l.map (Value.int .i64), by simp [h], ⟨rfl, h2.1⟩, (elems_int l _).2 ⟨rfl, h2.2⟩⟩

theorem putCells_mid {pre cs ds rest : List Value} {off : Nat} {zs : List Int} (hp : pre.length = off) (hd : ds = zs.map (Value.int .i64)) (hl : cs.length = zs.length) :
    Go.Sort.putCells (Value.int .i64) off zs.toArray (pre ++ cs ++ rest).toArray = (pre ++ ds ++ rest).toArray := by
  subst hd
  unfold Go.Sort.putCells
  apply Array.ext_getElem?
  intro k
  rw [Array.getElem?_mapIdx]
  simp only [List.getElem?_toArray, List.size_toArray]
  by_cases h1 : k < off
  · rw [List.append_assoc, List.append_assoc, List.getElem?_append_left (by omega), List.getElem?_append_left (by omega)]
    have : ¬ (off ≤ k ∧ k < off + zs.length) := by omega
    simp only [this, if_false]
    cases pre[k]? <;> rfl
  · by_cases h2 : k < off + zs.length
    · rw [List.append_assoc, List.append_assoc, List.getElem?_append_right (l₁ := pre) (by omega), List.getElem?_append_left (l₁ := cs) (by omega), List.getElem?_append_right (l₁ := pre) (by omega), List.getElem?_append_left (by simp; omega)]
      have : off ≤ k ∧ k < off + zs.length := by omega
      simp only [this, and_self, if_true, hp]
      rw [List.getElem?_eq_getElem (by omega), Option.map_some, List.getElem?_map, List.getElem?_eq_getElem (by omega), Option.map_some]
      congr 2
      rw [getElem!_pos _ _ (by simp; omega)]
      simp
    · rw [List.getElem?_append_right (by simp; omega), List.getElem?_append_right (by simp; omega)]
      have : ¬ (off ≤ k ∧ k < off + zs.length) := by omega
      simp only [this, if_false]
      have e : (pre ++ cs).length = (pre ++ zs.map (Value.int .i64)).length := by simp [hl]
      rw [e]
      cases rest[k - (pre ++ zs.map (Value.int .i64)).length]? <;> rfl

noncomputable def sortI (l : List Int) : List Int := l.mergeSort fun x y => decide (x ≤ y)

/-- slices.Sort of integers. -/
theorem sortI_spec {P : Program} {ρ : Shelf.Ren} (Ly : Proofs.SlLaysM.n5 P ρ) {f : Nat} (hf : ρ.f 5 = f) (ok : FnOK P f) {T : TypeId} {s : Value} {l : List Int} (hl : (l.length : Int) < 4611686018427387904) :
    FSpecO P f [isV s] [(s, rowV T l)] anyV [some (rowV T (sortI l))] := by
  refine ⟨ok, fun M D w vs hM ha hO => ?_⟩
  match vs, ha with
  | [v], ⟨hv, _⟩ =>
    obtain ⟨rfl, _⟩ := rep_raw.1 hv
    have h0 := hO.has 0 v (rowV T l) rfl
    obtain ⟨a, cap, rfl, h1, h2, h3⟩ := h0
    subst hf
    cases a with
    | none =>
      obtain ⟨h4, h5, h6⟩ := h3
      subst h4
      refine Calls.mono (Proofs.AnyM.slices_Sort_int_none Ly none cap w) ?_
      rintro e w' ⟨rfl, rfl⟩
      refine ⟨.tuple #[], M, D, rfl, Keeps.refl _ _, fun k h => .inl h, fun k h => .inl h, hM, trivial, ?_, ?_⟩
      · intro i c hc
        match i, hc with
        | 0, hc =>
          simp only [List.getElem?_cons_zero, Option.some.injEq] at hc
          subst hc
          refine ⟨⟨none, cap, by simp [sortI], by simp [sortI], h2, by simp [sortI], h5, h6⟩, fun k hk => absurd hk (h6 k)⟩
      · intro i j c c' hi hj hne
        match i, j, hi, hj with
        | 0, 0, _, _ => omega
    | some ad =>
      obtain ⟨b, off, sp⟩ := ad
      obtain ⟨hs, hD, hMb, pre, cs, rest, hh, hp, he, hr⟩ := h3
      simp only at hs hD hMb hh hp
      subst hs
      obtain ⟨hcs, hin⟩ := (elems_int l cs).1 he
      have hcl : cs.length = l.length := by rw [hcs]; simp
      have hcell : ∀ j, w.cell? ⟨b, j, none⟩ = (pre ++ cs ++ rest).toArray[j]? := fun j => cell_of_heap hh
      have hfz : ∀ j, w.frozen? ⟨b, j, none⟩ = false := fun j => by simp [World.frozen?, hh]
      have hblk : b < w.heap.size := hM b hMb
      refine Calls.mono (Proofs.AnyM.slices_Sort_int Ly b off cap l w (fun j hj => ⟨?_, hfz _⟩) hblk (by omega)) ?_
      · rw [hcell]
        have hj' : j < l.length := by simpa using hj
        simp only [List.getElem?_toArray]
        rw [List.append_assoc, List.getElem?_append_right (by omega), List.getElem?_append_left (by omega), hcs, List.getElem?_map, show off + j - pre.length = j by omega, List.getElem?_eq_getElem hj', Option.map_some]
        congr 2
        rw [getElem!_pos _ _ (by simpa using hj')]
        simp
      · rintro e w' ⟨rfl, n, os, rfl⟩
        have hkeep : Keeps (DU D 1) w (Go.Sort.grow (Go.Sort.putRow (Value.int .i64) (Go.Sort.ahead w n) b off (l.mergeSort fun x y => decide (x ≤ y)).toArray) os) := by
          refine ⟨rfl, rfl, rfl, ?_, fun k hk hn => ?_⟩
          · simp [Go.Sort.grow, Go.Sort.putRow, Go.Sort.mapBlock, Go.Sort.ahead]
          · have hne : b ≠ k := fun e => hn ⟨0, by omega, (hD k).2 e.symm⟩
            simp only [Go.Sort.grow, Go.Sort.putRow, Go.Sort.mapBlock, Go.Sort.ahead]
            rw [Array.getElem?_append_left (by simpa using hk), Array.getElem?_modify, if_neg hne]
        have hhb : (Go.Sort.grow (Go.Sort.putRow (Value.int .i64) (Go.Sort.ahead w n) b off (l.mergeSort fun x y => decide (x ≤ y)).toArray) os).heap[b]? = some (.cells (pre ++ (sortI l).map (Value.int .i64) ++ rest).toArray T (0, 0)) := by
          simp only [Go.Sort.grow, Go.Sort.putRow, Go.Sort.mapBlock, Go.Sort.ahead]
          rw [Array.getElem?_append_left (by simpa using hblk), Array.getElem?_modify, if_pos rfl, hh, Option.map_some]
          simp only [Go.Sort.onCells]
          rw [putCells_mid hp rfl (by rw [hcl]; simp)]; rfl
        generalize hw : Go.Sort.grow (Go.Sort.putRow (Value.int .i64) (Go.Sort.ahead w n) b off (l.mergeSort fun x y => decide (x ≤ y)).toArray) os = w' at hkeep hhb
        have hll : (sortI l).length = l.length := by simp [sortI]
        refine ⟨.tuple #[], M, D, rfl, hkeep, fun k h => .inl h, fun k h => .inl h, fun k h => Nat.lt_of_lt_of_le (hM k h) hkeep.size, trivial, ?_, ?_⟩
        · intro i c hc
          match i, hc with
          | 0, hc =>
            simp only [List.getElem?_cons_zero, Option.some.injEq] at hc
            subst hc
            refine ⟨⟨some ⟨b, off, none⟩, cap, by simp [hll], by rw [hll]; exact h1, h2, rfl, hD, hMb, pre, _, rest, hhb, hp, (elems_int _ _).2 ⟨rfl, fun x hx => hin x ?_⟩, by rw [hll]; exact hr⟩, fun k hk => .inl ⟨0, by simp, hk⟩⟩
            simpa [sortI] using hx
        · intro i j c c' hi hj hne
          match i, j, hi, hj with
          | 0, 0, _, _ => omega

end Go.DB
