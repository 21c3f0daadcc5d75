/-
  What the library's comparison of strings comes to.
-/
import Derived.Test.YtjnglmeiifcgjaaGreatDoorExCmp
import Derived.Shelf.Small.Strs
set_option linter.unusedSimpArgs false
set_option linter.unusedVariables false
namespace Go.DB
open Go Go.RowKit

def compareS (s sep : Str) : Int := cmpB s.b sep.b
theorem compareS_spec {P : Program} {ρ : Shelf.Ren} (Ly : Proofs.Lays.n106 P ρ) {f : Nat} (hf : ρ.f 106 = f) (ok : FnOK P f) {s sep : Str} : FSpec P f [rep s, rep sep] (rep (compareS s sep)) := by
  refine ⟨ok, fun M w vs hM ha => ?_⟩
  match vs, ha with
  | [v, u], ⟨hv, hu, _⟩ =>
    obtain ⟨rfl, _⟩ := rep_str.1 hv
    obtain ⟨rfl, _⟩ := rep_str.1 hu
    subst hf
    refine Calls.mono (Proofs.Any.strings_Compare Ly (ByteArray.mk s.b.toArray) (ByteArray.mk sep.b.toArray) w) ?_
    rintro e w' ⟨rfl, rfl⟩
    refine ⟨Keeps.refl _ _, _, rfl, rep_int.2 ⟨?_, ?_⟩⟩
    · show Value.int .i64 (Lib.compareBytes s.b sep.b) = _
      rw [compareBytes_eq]; rfl
    · unfold compareS InI
      rcases cmpB_bd s.b sep.b with e | e | e <;> rw [e] <;> omega
end Go.DB
