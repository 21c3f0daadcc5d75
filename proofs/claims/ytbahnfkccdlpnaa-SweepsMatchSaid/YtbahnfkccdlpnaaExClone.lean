/-
  What the library's copying of a row comes to, where the row is one's own.
-/
import Derived.Test.YtbahnfkccdlpnaaExSorted
import Derived.Shelf.SlicesE.Clone
set_option linter.unusedSimpArgs false
set_option linter.unusedVariables false
namespace Go.DB
open Go Go.RowKit

theorem Elems.one {α : Type} [Rep α] {M : MSet} {w : World} : ∀ {l : List α} {cs : List Value}, Elems M w l cs → ∀ c ∈ cs, isOne c = true
  | [], _, h, c, hc => by rw [h] at hc; simp at hc
  | x :: l, _, ⟨c1, r, rfl, h1, h2⟩, c, hc => by
    rcases List.mem_append.1 hc with h | h
    · exact Rep.plain h1 c h
    · exact h2.one c h
/-- slices.Clone of a row of one's own. -/
theorem cloneO_spec {P : Program} {ρ : Shelf.Ren} (Ly : Proofs.SlLaysE0.n41 P ρ) {f : Nat} (hf : ρ.f 41 = f) (ok : FnOK P f) {T : TypeId} (hT : ρ.t 23 = T) {α : Type} [Rep α] {i0 : TypeInfo} {z : Value} {bytes : Nat} (hi : P.info? T = some i0) (hz0 : i0.zero = some z)
    (hz1 : i0.size = Rep.sz α) (hz2 : i0.bytes = bytes) (hzs : z.cells.size = Rep.sz α) (hbb : bytes ≤ 100000) (z23 : ∀ w, (Go.sizeOf T).run P w = .ok (Rep.sz α) w) {s : Value} {l : List α} (hl : l.length ≤ 1073741824) :
    FSpecO P f [isV s] [(s, rowV T l)] anyV [some (rowV T l), some (rowV T l)] := by
  refine ⟨ok, fun M D w vs hM ha hO => ?_⟩
  match vs, ha with
  | [v], ⟨hv, _⟩ =>
    obtain ⟨rfl, _⟩ := rep_raw.1 hv
    have h0 := hO.has 0 v (rowV T l) rfl
    obtain ⟨a, cap, rfl, h1, h2, h3⟩ := id h0
    subst hf hT
    cases a with
    | none =>
      obtain ⟨h4, h5, h6⟩ := h3
      subst h4
      refine Calls.mono (Proofs.AnyE.slices_Clone_nil Ly _ cap w) ?_
      rintro e w' ⟨rfl, rfl⟩
      refine ⟨_, M, fun i => if i = 0 then D 0 else fun _ => False, rfl, Keeps.refl _ _, fun k h => .inl h, fun k h => .inl h, hM, trivial, ?_, ?_⟩
      · intro i c hc
        match i, hc with
        | 0, hc =>
          simp only [List.getElem?_cons_zero, Option.some.injEq] at hc
          subst hc
          exact ⟨h0, fun k hk => absurd hk (h6 k)⟩
        | 1, hc =>
          simp only [List.getElem?_cons_succ, List.getElem?_cons_zero, Option.some.injEq] at hc
          subst hc
          exact ⟨⟨none, 0, rfl, by simp, by omega, rfl, rfl, fun k h => h⟩, fun k hk => hk.elim⟩
      · intro i j c c' hi hj hne k hk
        match i, j, hi, hj with
        | 0, _, _, _ => exact absurd hk (h6 k)
        | 1, _, _, _ => exact hk.elim
    | some ad =>
      obtain ⟨b, off, sp⟩ := ad
      obtain ⟨hs, hD, hMb, pre, cs, rest, hh, hp, he, hr⟩ := h3
      simp only at hs hD hMb hh hp
      subst hs
      have hcl := Elems.len _ _ he
      have hcell : ∀ j, w.cell? ⟨b, j, none⟩ = (pre ++ cs ++ rest).toArray[j]? := fun j => cell_of_heap hh
      have hblk : b < w.heap.size := hM.lt b hMb
      refine Calls.mono (Proofs.AnyE.slices_Clone Ly i0 z (Rep.sz α) bytes hi hz0 hz1 hz2 hzs Rep.pos z23 b off l.length cap cs w hcl (by unfold maxLen; omega) ?_ ?_ ?_) ?_
      · have := Nat.mul_le_mul hl hbb; omega
      · intro j u hj
        rw [hcell]
        simp only [List.getElem?_toArray]
        rw [List.append_assoc, List.getElem?_append_right (by omega), show off + j - pre.length = j by omega, List.getElem?_append_left (List.getElem?_eq_some_iff.1 hj).1]
        exact hj
      · exact fun u hu => he.one u hu
      · rintro e w' ⟨v', rfl, ho, hne, hb⟩
        have hkeep : Keeps (DU D 1) w w' := ⟨hb.os, hb.tape, hb.output, hb.size, fun k hk _ => hb.block k hk⟩
        rcases ho.2 with ⟨rfl, _⟩ | ⟨g, cap', cur, rfl, hbase, hg, r1, r2, r3, r4⟩
        · exact absurd rfl hne
        · have hgl : g < w'.heap.size := (Array.getElem?_eq_some_iff.1 hg).1
          have hkeepM : Keeps M w w' := ⟨hb.os, hb.tape, hb.output, hb.size, fun k hk _ => hb.block k hk⟩
          have hm' : ∀ k, (M k ∨ k = g) → M k ∨ w.heap.size ≤ k := fun k h => h.imp id (fun e => by subst e; exact hbase)
          have hcur : cur.toList = cs ++ cur.toList.drop cs.length := by
            rw [← List.take_append_drop cs.length cur.toList]
            congr 1
            · rw [hcl]; simpa using r4
            · simp
          have hcsz : cur.toList.length = cap' * Rep.sz α := by simpa using r3
          refine ⟨_, fun k => M k ∨ k = g, fun i => if i = 0 then D 0 else fun k => k = g, rfl, hkeep, fun k h => .inl (.inl h), hm', fun k h => h.elim (fun h => Nat.lt_of_lt_of_le (hM.lt k h) hb.size) (fun e => by subst e; exact hgl), trivial, ?_, ?_⟩
          · intro i c hc
            match i, hc with
            | 0, hc =>
              simp only [List.getElem?_cons_zero, Option.some.injEq] at hc
              subst hc
              refine ⟨(rowV (ρ.t 23) l).law M _ (D 0) _ w w' hkeepM hm' (fun k hk => ?_) h0, fun k hk => .inl ⟨0, by show 0 < 1; omega, hk⟩⟩
              have : k = b := (hD k).1 hk
              subst this
              exact ⟨.inl hMb, hb.block _ hblk⟩
            | 1, hc =>
              simp only [List.getElem?_cons_succ, List.getElem?_cons_zero, Option.some.injEq] at hc
              subst hc
              refine ⟨⟨some ⟨g, 0, none⟩, cap', rfl, r1, by unfold maxLen at r2; omega, rfl, fun k => Iff.rfl, .inr rfl, [], cs, cur.toList.drop cs.length, ?_, rfl, Elems.law hkeepM hm' l cs he, ?_⟩, fun k hk => .inr (by have : k = g := hk; subst this; exact hbase)⟩
              · rw [hg]
                congr 2
                rw [List.nil_append, ← hcur]
              · rw [List.length_drop, hcsz, hcl, Nat.sub_mul]; exact Nat.le_refl _
          · intro i j c c' hi hj hne k hk hk'
            match i, j, hi, hj with
            | 0, 0, _, _ => exact hne rfl
            | 1, 1, _, _ => exact hne rfl
            | 0, 1, _, _ =>
              have e1 : k = b := (hD k).1 hk
              have e2 : k = g := hk'
              omega
            | 1, 0, _, _ =>
              have e1 : k = g := hk
              have e2 : k = b := (hD k).1 hk'
              omega
/-- The same, by what is known of rows. -/
theorem cloneO_row {P : Program} {ρ : Shelf.Ren} (Ly : Proofs.SlLaysE0.n41 P ρ) {f : Nat} (hf : ρ.f 41 = f) (ok : FnOK P f) {t T : TypeId} (hT : ρ.t 23 = T) {α : Type} [Rep α] (hr : RowOK P t T α) {s : Value} {l : List α} (hl : l.length ≤ 1073741824) :
    FSpecO P f [isV s] [(s, rowV T l)] anyV [some (rowV T l), some (rowV T l)] := by
  obtain ⟨i, z, ht, hi, hz, hsize, hzs, hby⟩ := hr.get
  exact cloneO_spec Ly hf ok hT hi hz hsize rfl hzs (by omega) (fun w => by simp [sizeOf, typeInfo, hi, hsize, go_sem]) hl
end Go.DB
