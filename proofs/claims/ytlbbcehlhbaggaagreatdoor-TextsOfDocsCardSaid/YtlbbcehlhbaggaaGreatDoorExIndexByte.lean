/-
  What the library's search of a byte in a string comes to.
-/
import Derived.Test.YtlbbcehlhbaggaaGreatDoorCoreD
import Derived.Shelf.Small.Strs
set_option linter.unusedSimpArgs false
set_option linter.unusedVariables false
namespace Go.DB
open Go Go.RowKit

def indexByteS (s : Str) (c : KI .u8) : Int := Go.Lib.indexByte s.b c.n.toNat.toUInt8
theorem indexByte_le : ∀ (l : List UInt8) (c : UInt8), Go.Lib.indexByte l c ≤ l.length
  | [], c => by simp [Go.Lib.indexByte]
  | b :: l, c => by
    have := indexByte_le l c
    unfold Go.Lib.indexByte
    repeat' split
    all_goals (simp only [List.length_cons]; omega)
theorem indexByteS_spec {P : Program} {ρ : Shelf.Ren} (Ly : Proofs.Lays.n137 P ρ) {f : Nat} (hf : ρ.f 137 = f) (ok : FnOK P f) {s : Str} {c : KI .u8} (hs : (s.b.length : Int) < 4611686018427387904) : FSpec P f [rep s, rep c] (rep (indexByteS s c)) := by
  refine ⟨ok, fun M w vs hM ha => ?_⟩
  match vs, ha with
  | [v, u], ⟨hv, hu, _⟩ =>
    obtain ⟨rfl, _⟩ := rep_str.1 hv
    obtain rfl := rep_ki.1 hu
    subst hf
    refine Calls.mono (Proofs.Any.strings_IndexByte Ly (ByteArray.mk s.b.toArray) c.n w) ?_
    rintro e w' ⟨rfl, rfl⟩
    refine ⟨Keeps.refl _ _, _, rfl, rep_int.2 ⟨rfl, ?_⟩⟩
    have h1 := indexByte_le s.b c.n.toNat.toUInt8
    have h2 := Go.Lib.indexByte_ge s.b c.n.toNat.toUInt8
    unfold InI indexByteS; omega
end Go.DB
