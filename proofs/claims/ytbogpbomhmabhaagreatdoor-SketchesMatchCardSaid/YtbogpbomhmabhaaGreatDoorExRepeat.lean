/-
  What the library's repeating of a string comes to.
-/
import Derived.Test.YtbogpbomhmabhaaGreatDoorCoreD
import Derived.Shelf.Strings.Repeat
set_option linter.unusedSimpArgs false
set_option linter.unusedVariables false
namespace Go.DB
open Go Go.RowKit

def repeatS (s : Str) (n : Int) : Str := ⟨Go.Lib.repeatL s.b n.toNat⟩
theorem repeatS_spec {P : Program} {ρ : Shelf.Ren} (Ly : Proofs.Lays.n105 P ρ) (X : Proofs.Builder.Extra P ρ) {f : Nat} (hf : ρ.f 105 = f) (ok : FnOK P f) {s : Str} {n : Int}
    (hl : s.b.length ≤ 1000 ∧ 0 ≤ n ∧ n ≤ 1000000 ∧ (repeatS s n).b.length ≤ 1000000000) :
    FSpec P f [rep s, rep n] (rep (repeatS s n)) := by
  refine ⟨ok, fun M w vs hM ha => ?_⟩
  match vs, ha with
  | [v, u], ⟨hv, hu, _⟩ =>
    obtain ⟨rfl, _⟩ := rep_str.1 hv
    obtain ⟨rfl, _⟩ := rep_int.1 hu
    subst hf
    obtain ⟨l1, l2, l3, l4⟩ := hl
    have z1 : (ByteArray.mk s.b.toArray).size = s.b.length := rfl
    have e : n = ((n.toNat : Nat) : Int) := by omega
    rw [e]
    refine Calls.mono (Proofs.Any.strings_Repeat Ly X (ByteArray.mk s.b.toArray) n.toNat w (by omega) (by
      have := Nat.mul_le_mul (show (ByteArray.mk s.b.toArray).size ≤ 1000 by omega) (show n.toNat ≤ 1000000 by omega)
      omega)) ?_
    rintro e' w' ⟨rfl, hb⟩
    rw [← e]
    exact ⟨⟨hb.os, hb.tape, hb.output, hb.size, fun k h1 _ => hb.block k h1⟩, _, rfl, rep_str.2 ⟨rfl, Nat.le_trans l4 (by decide)⟩⟩
end Go.DB
