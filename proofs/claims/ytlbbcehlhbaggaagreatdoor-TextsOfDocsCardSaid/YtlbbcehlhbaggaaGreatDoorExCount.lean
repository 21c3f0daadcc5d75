/-
  What the library's count of one byte in a string comes to.
-/
import Derived.Test.YtlbbcehlhbaggaaGreatDoorCoreD
import Derived.Shelf.Strings.Count
set_option linter.unusedSimpArgs false
set_option linter.unusedVariables false
namespace Go.DB
open Go Go.RowKit

def countByteS (s : Str) (c : UInt8) : Int := ((s.b.count c : Nat) : Int)
theorem countByteS_spec {P : Program} {ρ : Shelf.Ren} (Ly : Proofs.Lays.n138 P ρ) {f : Nat} (hf : ρ.f 138 = f) (ok : FnOK P f) {s sep : Str} (hs : sep.b.length = 1) : FSpec P f [rep s, rep sep] (rep (countByteS s (sep.b.headD 0))) := by
  refine ⟨ok, fun M w vs hM ha => ?_⟩
  match vs, ha with
  | [v, u], ⟨hv, hu, _⟩ =>
    obtain ⟨rfl, hs1⟩ := rep_str.1 hv
    obtain ⟨rfl, _⟩ := rep_str.1 hu
    subst hf
    obtain ⟨b⟩ := sep
    match b, hs with
    | [c], _ =>
      refine Calls.mono (Proofs.Any.strings_Count_one Ly (ByteArray.mk s.b.toArray) c w) ?_
      rintro e w' ⟨rfl, rfl⟩
      refine ⟨Keeps.refl _ _, _, rfl, rep_int.2 ⟨rfl, ?_⟩⟩
      have := List.count_le_length (a := c) (l := s.b)
      unfold InI countByteS; simp only [List.headD_cons]; omega
end Go.DB
