/-
  What the library's splitting of a string into at most some parts comes to.
-/
import Derived.Test.YtjnglmeiifcgjaaGreatDoorExSplit
set_option linter.unusedSimpArgs false
set_option linter.unusedVariables false
namespace Go.DB
open Go Go.RowKit

def splitNB (s sep : Str) (n : Nat) : List ByteArray := Go.Lib.splitB (ByteArray.mk sep.b.toArray) 0 (min n (s.b.length + 1) - 1) (ByteArray.mk s.b.toArray)
def splitNS (s sep : Str) (n : Int) : List Str := (splitNB s sep n.toNat).map ofBytes
theorem splitNS_spec {P : Program} {ρ : Shelf.Ren} (Ly : Proofs.Lays.n147 P ρ) (hi9 : (P.info? (ρ.t 9)).map (fun i => (i.zero, i.size, i.bytes)) = some (some (.string ByteArray.empty), 1, 16)) {f T : Nat} (hf : ρ.f 147 = f) (hT : ρ.t 9 = T) (h1 : ρ.g 1 = gMax) (ok : FnOK P f)
    {s sep : Str} {n : Int} (hs : (s.b.length : Int) < 4294967281 ∧ 1 ≤ n ∧ n ≤ 1000) (hp : sep.b ≠ []) (hl : (splitNS s sep n).length ≤ min n.toNat (s.b.length + 1)) : FSpecO P f [rep s, rep sep, rep n] [] anyV [some (rowV T (splitNS s sep n))] := by
  refine ⟨ok, fun M D w vs hM ha hO => ?_⟩
  match vs, ha with
  | [v, u, t], ⟨hv, hu, ht, _⟩ =>
    obtain ⟨rfl, hs1⟩ := rep_str.1 hv
    obtain ⟨rfl, _⟩ := rep_str.1 hu
    obtain ⟨rfl, _⟩ := rep_int.1 ht
    subst hf; subst hT
    obtain ⟨q1, q2, q3⟩ := hs
    have hz1 : (ByteArray.mk s.b.toArray).size = s.b.length := rfl
    have hz2 : (ByteArray.mk sep.b.toArray).size = sep.b.length := rfl
    have hpp : 1 ≤ (ByteArray.mk sep.b.toArray).size := by rw [hz2]; exact List.length_pos_iff.2 hp
    obtain ⟨m, hm⟩ := hM.glob.maxLen
    have en : n = ((n.toNat : Nat) : Int) := by omega
    have c := Proofs.Any.strings_SplitN Ly hi9 (ByteArray.mk s.b.toArray) (ByteArray.mk sep.b.toArray) n.toNat m w (by omega) (by rw [h1]; exact hm) hpp (by omega) (by omega)
    rw [← en] at c
    refine Calls.mono c ?_
    rintro e w' ⟨rfl, rfl⟩
    have hB : Go.Lib.splitB (ByteArray.mk sep.b.toArray) 0 (min n.toNat ((ByteArray.mk s.b.toArray).size + 1) - 1) (ByteArray.mk s.b.toArray) = splitNB s sep n.toNat := rfl
    rw [hB, hz1]
    have hlen : (splitNB s sep n.toNat).length = (splitNS s sep n).length := by unfold splitNS; rw [List.length_map]
    generalize hcap : min n.toNat (s.b.length + 1) = cap at *
    have hx : Ext w (w.alloc (.cells (Go.Lib.cellsOf (splitNB s sep n.toNat) cap) (ρ.t 9))) := Ext.alloc _ _
    refine ⟨_, fun k => M k ∨ k = w.heap.size, fun _ k => k = w.heap.size, rfl, hx.keeps, fun k h => .inl (.inl h), fun k h => h.imp id (fun e => by subst e; exact Nat.le_refl _), fun k h => ?_, trivial, ?_, ?_⟩
    · rw [size_new]
      rcases h with h | h
      · have := hM.lt k h; omega
      · omega
    · intro i c hc
      match i, hc with
      | 0, hc =>
        simp only [List.getElem?_cons_zero, Option.some.injEq] at hc
        subst hc
        refine ⟨⟨some ⟨w.heap.size, 0, none⟩, cap, by rw [hlen]; rfl, hl, by omega, rfl, fun k => Iff.rfl, .inr rfl, [], (splitNB s sep n.toNat).map Value.string, List.replicate (cap - (splitNB s sep n.toNat).length) (.string ByteArray.empty), ?_, rfl, elems_strs _ (splitB_size _ _ _ _ (by rw [hz1]; exact hs1)), by rw [List.length_replicate, hlen]; show _ * 1 ≤ _; omega⟩, fun k hk => .inr (by rw [hk]; exact Nat.le_refl _)⟩
        refine HRow.of ?_
        show (w.heap.push _)[w.heap.size]? = _
        rw [Array.getElem?_push_size]; rfl
    · intro i j c c' hi hj hne
      match i, j, hi, hj with
      | 0, 0, _, _ => omega
end Go.DB
