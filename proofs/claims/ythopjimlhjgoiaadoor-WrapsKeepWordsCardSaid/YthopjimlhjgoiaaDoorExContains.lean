/-
  What the library's search of one byte in a string comes to.
-/
import Derived.Test.YthopjimlhjgoiaaDoorCoreD
import Derived.Shelf.Strings.Search3
set_option linter.unusedSimpArgs false
set_option linter.unusedVariables false
namespace Go.DB
open Go Go.RowKit

def hasByte (s : Str) (c : UInt8) : Bool := decide (0 ≤ Go.Lib.indexByte s.b c)
theorem hasByte_spec {P : Program} {ρ : Shelf.Ren} (Ly : Proofs.Lays.n144 P ρ) {f : Nat} (hf : ρ.f 144 = f) (ok : FnOK P f) {s sep : Str} (hs : sep.b.length = 1) : FSpec P f [rep s, rep sep] (rep (hasByte s (sep.b.headD 0))) := by
  refine ⟨ok, fun M w vs hM ha => ?_⟩
  match vs, ha with
  | [v, u], ⟨hv, hu, _⟩ =>
    obtain ⟨rfl, _⟩ := rep_str.1 hv
    obtain ⟨rfl, _⟩ := rep_str.1 hu
    subst hf
    obtain ⟨b⟩ := sep
    match b, hs with
    | [c], _ =>
      refine Calls.mono (Proofs.Any.strings_Contains_one Ly (ByteArray.mk s.b.toArray) c w) ?_
      rintro e w' ⟨rfl, rfl⟩
      exact ⟨Keeps.refl _ _, _, rfl, rep_bool.2 rfl⟩
end Go.DB
