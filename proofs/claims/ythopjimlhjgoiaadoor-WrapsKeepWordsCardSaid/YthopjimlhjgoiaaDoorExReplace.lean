/-
  What the library's replacing of all places of a string comes to.
-/
import Derived.Test.YthopjimlhjgoiaaDoorCoreD
import Derived.Shelf.Strings.Replace
set_option linter.unusedSimpArgs false
set_option linter.unusedVariables false
namespace Go.DB
open Go Go.RowKit

def replS (s old new : Str) : Str := ⟨Go.Lib.replaceAll s.b old.b new.b⟩
theorem replS_spec {P : Program} {ρ : Shelf.Ren} (Ly : Proofs.Lays.n155 P ρ) (X : Proofs.Builder.Extra P ρ) {f : Nat} (hf : ρ.f 155 = f) (h1 : ρ.g 1 = gMax) (ok : FnOK P f) {s old new : Str}
    (hl : s.b.length ≤ 1000000000 ∧ 1 ≤ old.b.length ∧ new.b.length ≤ 1000 ∧ (replS s old new).b.length ≤ 1000000000) :
    FSpec P f [rep s, rep old, rep new] (rep (replS s old new)) := by
  refine ⟨ok, fun M w vs hM ha => ?_⟩
  match vs, ha with
  | [v, u, x], ⟨hv, hu, hx, _⟩ =>
    obtain ⟨rfl, _⟩ := rep_str.1 hv
    obtain ⟨rfl, _⟩ := rep_str.1 hu
    obtain ⟨rfl, _⟩ := rep_str.1 hx
    subst hf
    obtain ⟨l1, l2, l3, l4⟩ := hl
    obtain ⟨m, hm⟩ := hM.glob.maxLen
    have z1 : (ByteArray.mk s.b.toArray).size = s.b.length := rfl
    have z2 : (ByteArray.mk old.b.toArray).size = old.b.length := rfl
    have z3 : (ByteArray.mk new.b.toArray).size = new.b.length := rfl
    have hc := Go.Lib.countB_le (ByteArray.mk old.b.toArray) (by omega) (ByteArray.mk s.b.toArray).size (ByteArray.mk s.b.toArray) (Nat.le_refl _)
    refine Calls.mono (Proofs.Any.strings_ReplaceAll Ly X (ByteArray.mk s.b.toArray) (ByteArray.mk old.b.toArray) (ByteArray.mk new.b.toArray) m w (by omega) (by rw [h1]; exact hm) (by omega) (by
      have := Nat.mul_le_mul hc (show (ByteArray.mk new.b.toArray).size ≤ 1000 by omega)
      omega)) ?_
    rintro e w' ⟨rfl, hb⟩
    exact ⟨⟨hb.os, hb.tape, hb.output, hb.size, fun k h1 _ => hb.block k h1⟩, _, rfl, rep_str.2 ⟨rfl, Nat.le_trans l4 (by decide)⟩⟩
end Go.DB
