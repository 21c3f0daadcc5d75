/-
  What the library's fields of a string come to.
-/
import Derived.Test.YtlbbcehlhbaggaaGreatDoorExSplit
import Derived.Shelf.Strings.FieldsAny
set_option linter.unusedSimpArgs false
set_option linter.unusedVariables false
namespace Go.DB
open Go Go.RowKit

def fieldsS (s : Str) : List Str := (Go.Lib.fieldsD s.b).map Str.mk
theorem fieldsGo_len : ∀ (k : Nat) (cur l : List UInt8) (n : Nat), cur.length + l.length ≤ n → ∀ x ∈ Go.Lib.fieldsGoD k cur l, x.length ≤ n
  | 0, cur, l, n, h, x, hx => by
    unfold Go.Lib.fieldsGoD at hx
    split at hx
    · simp at hx
    · simp at hx; subst hx; omega
  | k + 1, cur, l, n, h, x, hx => by
    have hcur : ∀ y ∈ (if cur = [] then [] else [cur]), y.length ≤ n := fun y hy => by
      split at hy
      · simp at hy
      · simp at hy; subst hy; omega
    unfold Go.Lib.fieldsGoD at hx
    split at hx
    · exact hcur x hx
    · split at hx
      · rcases List.mem_append.1 hx with hx | hx
        · exact hcur x hx
        · exact fieldsGo_len k [] _ n (by simp only [List.length_nil, List.length_drop]; omega) x hx
      · exact fieldsGo_len k _ _ n (by simp only [List.length_append, List.length_take, List.length_drop]; omega) x hx
theorem elems_strL {M : MSet} {w : World} : ∀ (l : List Str), (∀ x ∈ l, x.b.length ≤ 9223372036854775807) → Elems M w l (l.map strV)
  | [], _ => rfl
  | x :: l, h => ⟨[strV x], l.map strV, rfl, ⟨rfl, h x (by simp)⟩, elems_strL l (fun y hy => h y (by simp [hy]))⟩
theorem fieldsS_spec {P : Program} {ρ : Shelf.Ren} (Ly : Proofs.Lays.n157 P ρ) (hi9 : (P.info? (ρ.t 9)).map (fun i => (i.zero, i.size, i.bytes)) = some (some (.string ByteArray.empty), 1, 16))
    (hi154 : (P.info? (ρ.t 154)).map (fun i => (i.zero, i.size, i.bytes)) = some (some (.agg #[.int .i64 0, .int .i64 0]), 2, 16)) (hg : P.globalNamed "strings.asciiSpace" = some (ρ.g 0)) (h0 : ρ.g 0 = gSpace) (h6 : ρ.g 6 = gWhite)
    {f T : Nat} (hf : ρ.f 157 = f) (hT : ρ.t 9 = T) (ok : FnOK P f) {s : Str} (hs : s.b.length ≤ 1000000000) : FSpecO P f [rep s] [] anyV [some (rowV T (fieldsS s))] := by
  refine ⟨ok, fun M D w vs hM ha hO => ?_⟩
  match vs, ha with
  | [v], ⟨hv, _⟩ =>
    obtain ⟨rfl, hs1⟩ := rep_str.1 hv
    subst hf; subst hT
    have z1 : (ByteArray.mk s.b.toArray).size = s.b.length := rfl
    have c := Proofs.Any.strings_Fields_any Ly hi9 hi154 hg (ByteArray.mk s.b.toArray) w (by omega) (hM.glob.space (by rw [← h0]; exact hg)) (by rw [h6]; exact hM.glob.white)
    have e0 : (ByteArray.mk s.b.toArray).data.toList = s.b := rfl
    rw [e0] at c
    refine Calls.mono c ?_
    rintro e w' ⟨A, rfl, hA, ho, hb⟩
    have hlen : (fieldsS s).length = (Go.Lib.fieldsD s.b).length := by unfold fieldsS; rw [List.length_map]
    have hvs : ((Go.Lib.fieldsD s.b).map fun x => Value.string ⟨x.toArray⟩) = (fieldsS s).map strV := by unfold fieldsS; rw [List.map_map]; rfl
    rw [hvs] at ho
    rcases ho.2 with ⟨h, _⟩ | ⟨g, cap, cur, hv', hbase, hgc, r1, r2, r3, r4⟩
    · cases h
    · have hgA : A = g ∧ cap = (Go.Lib.fieldsD s.b).length := by
        injection hv' with a1 a2 a3
        injection a1 with a1
        injection a1 with a1
        exact ⟨a1, by omega⟩
      obtain ⟨rfl, rfl⟩ := hgA
      have hgl : A < w'.heap.size := (Array.getElem?_eq_some_iff.1 hgc).1
      have hcur : cur.toList = (fieldsS s).map strV ++ cur.toList.drop (fieldsS s).length := by
        rw [← List.take_append_drop (fieldsS s).length cur.toList]
        congr 1
        · rw [hlen]; simpa using r4
        · simp
      have hcl : cur.toList.length = (Go.Lib.fieldsD s.b).length := by simpa using r3
      have hx : Keeps (DU (fun _ k => k = A) 0) w w' := ⟨hb.os, hb.tape, hb.output, hb.size, fun k hk _ => hb.block k hk⟩
      refine ⟨_, fun k => M k ∨ k = A, fun _ k => k = A, rfl, ⟨hb.os, hb.tape, hb.output, hb.size, fun k hk _ => hb.block k hk⟩, fun k h => .inl (.inl h), fun k h => h.imp id (fun e => by subst e; exact hA), fun k h => ?_, trivial, ?_, ?_⟩
      · rcases h with h | h
        · exact Nat.lt_of_lt_of_le (hM.lt k h) hb.size
        · omega
      · intro i c hc
        match i, hc with
        | 0, hc =>
          simp only [List.getElem?_cons_zero, Option.some.injEq] at hc
          subst hc
          refine ⟨⟨some ⟨A, 0, none⟩, _, by rw [hlen]; rfl, by rw [hlen]; exact Nat.le_refl _, by unfold maxLen at r2; omega, rfl, fun k => Iff.rfl, .inr rfl, [], (fieldsS s).map strV, cur.toList.drop (fieldsS s).length, ?_, rfl, elems_strL _ (fun x hx => ?_), ?_⟩, fun k hk => .inr (by rw [hk]; exact hA)⟩
          · refine HRow.of ?_
            rw [hgc]
            congr 2
            rw [List.nil_append, ← hcur]
          · obtain ⟨y, hy, rfl⟩ := List.mem_map.1 hx
            have := fieldsGo_len _ [] s.b s.b.length (by simp) y hy
            show y.length ≤ _
            omega
          · rw [hlen]; simp only [Rep.sz, Nat.mul_one, List.length_drop]; omega
      · intro i j c c' hi hj hne
        match i, j, hi, hj with
        | 0, 0, _, _ => omega
end Go.DB
