/-
  What the library's splitting of a string comes to.
-/
import Derived.Test.YtlbbcehlhbaggaaGreatDoorCoreD
import Derived.Shelf.Strings.Split
set_option linter.unusedSimpArgs false
set_option linter.unusedVariables false
namespace Go.DB
open Go Go.RowKit

def ofBytes (x : ByteArray) : Str := ⟨x.data.toList⟩
def splitS (s sep : Str) : List Str := (Go.Lib.splitB (ByteArray.mk sep.b.toArray) 0 (Go.Lib.countB (ByteArray.mk s.b.toArray) (ByteArray.mk sep.b.toArray)) (ByteArray.mk s.b.toArray)).map ofBytes

theorem elems_strs {M : MSet} {w : World} : ∀ (l : List ByteArray), (∀ x ∈ l, x.size ≤ 9223372036854775807) → Elems M w (l.map ofBytes) (l.map Value.string)
  | [], _ => rfl
  | x :: l, h => ⟨[.string x], l.map Value.string, rfl, ⟨congrArg (fun v => [v]) (by cases x; simp [strV, ofBytes]), by have := h x (by simp); show x.data.toList.length ≤ _; rw [Array.length_toList]; exact this⟩, elems_strs l (fun y hy => h y (by simp [hy]))⟩

theorem splitB_size (sep : ByteArray) (n : Nat) : ∀ (k : Nat) (s : ByteArray), s.size ≤ n → ∀ x ∈ Go.Lib.splitB sep 0 k s, x.size ≤ n
  | 0, s, hs, x, hx => by simp [Go.Lib.splitB] at hx; subst hx; exact hs
  | k + 1, s, hs, x, hx => by
    unfold Go.Lib.splitB at hx
    split at hx
    · simp at hx; subst hx; exact hs
    · rcases List.mem_cons.1 hx with rfl | hx
      · rw [ByteArray.size_extract]; omega
      · exact splitB_size sep n k _ (by rw [ByteArray.size_extract]; omega) x hx

theorem splitS_spec {P : Program} {ρ : Shelf.Ren} (Ly : Proofs.Lays.n146 P ρ) (hi9 : (P.info? (ρ.t 9)).map (fun i => (i.zero, i.size, i.bytes)) = some (some (.string ByteArray.empty), 1, 16)) {f T : Nat} (hf : ρ.f 146 = f) (hT : ρ.t 9 = T) (h1 : ρ.g 1 = gMax) (ok : FnOK P f)
    {s sep : Str} (hs : (s.b.length : Int) < 4294967281) (hp : sep.b ≠ []) : FSpecO P f [rep s, rep sep] [] anyV [some (rowV T (splitS s sep))] := by
  refine ⟨ok, fun M D w vs hM ha hO => ?_⟩
  match vs, ha with
  | [v, u], ⟨hv, hu, _⟩ =>
    obtain ⟨rfl, hs1⟩ := rep_str.1 hv
    obtain ⟨rfl, _⟩ := rep_str.1 hu
    subst hf; subst hT
    have hz1 : (ByteArray.mk s.b.toArray).size = s.b.length := rfl
    have hz2 : (ByteArray.mk sep.b.toArray).size = sep.b.length := rfl
    have hpp : 1 ≤ (ByteArray.mk sep.b.toArray).size := by rw [hz2]; exact List.length_pos_iff.2 hp
    obtain ⟨m, hm⟩ := hM.glob.maxLen
    refine Calls.mono (Proofs.Any.strings_Split Ly hi9 (ByteArray.mk s.b.toArray) (ByteArray.mk sep.b.toArray) m w (by omega) (by rw [h1]; exact hm) hpp) ?_
    rintro e w' ⟨rfl, rfl⟩
    have hle := Go.Lib.countB_le (ByteArray.mk sep.b.toArray) hpp (ByteArray.mk s.b.toArray).size (ByteArray.mk s.b.toArray) (Nat.le_refl _)
    have hlen : (splitS s sep).length = Go.Lib.countB (ByteArray.mk s.b.toArray) (ByteArray.mk sep.b.toArray) + 1 := by
      unfold splitS; rw [List.length_map]; exact Go.Lib.splitB_all _ hpp 0 _ _ rfl
    have hx : Ext w (w.alloc (.cells ((Go.Lib.splitB (ByteArray.mk sep.b.toArray) 0 (Go.Lib.countB (ByteArray.mk s.b.toArray) (ByteArray.mk sep.b.toArray)) (ByteArray.mk s.b.toArray)).map Value.string).toArray (ρ.t 9))) := Ext.alloc _ _
    refine ⟨_, fun k => M k ∨ k = w.heap.size, fun _ k => k = w.heap.size, rfl, hx.keeps, fun k h => .inl (.inl h), fun k h => h.imp id (fun e => by subst e; exact Nat.le_refl _), fun k h => ?_, trivial, ?_, ?_⟩
    · rw [size_new]
      rcases h with h | h
      · have := hM.lt k h; omega
      · omega
    · intro i c hc
      match i, hc with
      | 0, hc =>
        simp only [List.getElem?_cons_zero, Option.some.injEq] at hc
        subst hc
        refine ⟨⟨some ⟨w.heap.size, 0, none⟩, _, by rw [hlen]; rfl, by rw [hlen]; exact Nat.le_refl _, by rw [hz1] at hle; omega, rfl, fun k => Iff.rfl, .inr rfl, [], _, [], ?_, rfl, elems_strs _ (splitB_size _ _ _ _ (by rw [hz1]; exact hs1)), by rw [hlen]; simp⟩, fun k hk => .inr (by rw [hk]; exact Nat.le_refl _)⟩
        refine HRow.of ?_
        show (w.heap.push _)[w.heap.size]? = _
        rw [Array.getElem?_push_size]; simp
    · intro i j c c' hi hj hne
      match i, j, hi, hj with
      | 0, 0, _, _ => omega
end Go.DB
