/-
  What the library's check of UTF-8 comes to.
-/
import Derived.Test.YtlbbcehlhbaggaaGreatDoorCoreD
import Derived.Shelf.Unicode.ValidAny
set_option linter.unusedSimpArgs false
set_option linter.unusedVariables false
namespace Go.DB
open Go Go.RowKit

def validS (s : Str) : Bool := Go.Lib.validD s.b
theorem validS_spec {P : Program} {ρ : Shelf.Ren} (Ly : Proofs.Lays.n196 P ρ) {f : Nat} (hf : ρ.f 196 = f) (h3 : ρ.g 3 = gFirst) (h4 : ρ.g 4 = gAcc) (ok : FnOK P f) {s : Str} : FSpec P f [rep s] (rep (validS s)) := by
  refine ⟨ok, fun M w vs hM ha => ?_⟩
  match vs, ha with
  | [v], ⟨hv, _⟩ =>
    obtain ⟨rfl, hs⟩ := rep_str.1 hv
    subst hf
    have hT : Go.Lib.Utf8Tabs (ρ.g 3) (ρ.g 4) w := by rw [h3, h4]; exact hM.glob.tabs
    refine Calls.mono (Proofs.Any.utf8_ValidString Ly (ByteArray.mk s.b.toArray) w hs hT) ?_
    rintro e w' ⟨rfl, hb⟩
    exact ⟨Ext.of_below hb, _, rfl, rep_bool.2 rfl⟩
end Go.DB
