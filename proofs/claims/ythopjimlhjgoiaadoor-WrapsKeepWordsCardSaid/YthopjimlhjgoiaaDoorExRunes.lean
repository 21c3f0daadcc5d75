/-
  What the library's count of a string's code points comes to.
-/
import Derived.Test.YthopjimlhjgoiaaDoorCoreD
import Derived.Shelf.Utf8.RuneCount
set_option linter.unusedSimpArgs false
set_option linter.unusedVariables false
namespace Go.DB
open Go Go.RowKit

def runesS (s : Str) : Int := (Go.Lib.runeCount (ByteArray.mk s.b.toArray) : Int)
theorem runesS_spec {P : Program} {ρ : Shelf.Ren} (Ly : Proofs.Lays.n195 P ρ) {f : Nat} (hf : ρ.f 195 = f) (ok : FnOK P f) {s : Str} (hs : (s.b.length : Int) < 4611686018427387904) : FSpec P f [rep s] (rep (runesS s)) := by
  refine ⟨ok, fun M w vs hM ha => ?_⟩
  match vs, ha with
  | [v], ⟨hv, _⟩ =>
    obtain ⟨rfl, _⟩ := rep_str.1 hv
    subst hf
    have hsz : (ByteArray.mk s.b.toArray).size = s.b.length := rfl
    have hle := Go.Lib.runeCountFrom_le (ByteArray.mk s.b.toArray) s.b.length 0
    refine Calls.mono (Proofs.Any.utf8_RuneCountInString Ly (ByteArray.mk s.b.toArray) w (by omega)) ?_
    rintro e w' ⟨rfl, p, rfl⟩
    refine ⟨?_, _, rfl, rep_int.2 ⟨rfl, ?_⟩⟩
    · exact Ext.alloc _ _
    · unfold InI runesS Go.Lib.runeCount; rw [hsz]; omega
end Go.DB
