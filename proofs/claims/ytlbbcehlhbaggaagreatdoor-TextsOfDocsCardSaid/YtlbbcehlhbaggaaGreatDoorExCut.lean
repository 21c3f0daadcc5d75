/-
  What the library's cutting of a string comes to.
-/
import Derived.Test.YtlbbcehlhbaggaaGreatDoorCore49
import Derived.Shelf.Strings.Cut
set_option linter.unusedSimpArgs false
set_option linter.unusedVariables false
namespace Go.DB
open Go Go.RowKit

def cutS (s sep : Str) : Str × Str × Bool := (⟨(Go.Lib.cut s.b sep.b).1⟩, ⟨(Go.Lib.cut s.b sep.b).2.1⟩, (Go.Lib.cut s.b sep.b).2.2)
theorem tup3_of {A B C : SPred} {M : MSet} {w : World} {a b c : Value} (h1 : A.p M a w) (h2 : B.p M b w) (h3 : C.p M c w) : (tup [A, B, C]).p M (.tuple #[a, b, c]) w :=
  ⟨[a, b, c], rfl, rfl, fun i S u hS hu => by
    match i, hS, hu with
    | 0, hS, hu => cases hS; cases hu; exact h1
    | 1, hS, hu => cases hS; cases hu; exact h2
    | 2, hS, hu => cases hS; cases hu; exact h3⟩
theorem cutS_spec {P : Program} {ρ : Shelf.Ren} (Ly : Proofs.Lays.n145 P ρ) (h1 : ρ.g 1 = gMax) {f : Nat} (hf : ρ.f 145 = f) (ok : FnOK P f) {s sep : Str}
    (hl : (s.b.length : Int) < 4294967281 ∧ (cutS s sep).1.b.length ≤ 4294967281 ∧ (cutS s sep).2.1.b.length ≤ 4294967281) :
    FSpec P f [rep s, rep sep] (tup [rep (cutS s sep).1, rep (cutS s sep).2.1, rep (cutS s sep).2.2]) := by
  refine ⟨ok, fun M w vs hM ha => ?_⟩
  match vs, ha with
  | [v, u], ⟨hv, hu, _⟩ =>
    obtain ⟨rfl, _⟩ := rep_str.1 hv
    obtain ⟨rfl, _⟩ := rep_str.1 hu
    subst hf
    obtain ⟨l1, l2, l3⟩ := hl
    have z1 : (ByteArray.mk s.b.toArray).size = s.b.length := rfl
    obtain ⟨m, hm⟩ := hM.glob.maxLen
    refine Calls.mono (Proofs.Any.strings_Cut Ly (ByteArray.mk s.b.toArray) (ByteArray.mk sep.b.toArray) m w (by omega) (by rw [h1]; exact hm)) ?_
    rintro e w' ⟨rfl, n, rfl⟩
    exact ⟨⟨rfl, rfl, rfl, Nat.le_refl _, fun _ _ _ => rfl⟩, _, rfl, tup3_of (rep_str.2 ⟨rfl, Nat.le_trans l2 (by decide)⟩) (rep_str.2 ⟨rfl, Nat.le_trans l3 (by decide)⟩) (rep_bool.2 rfl)⟩
end Go.DB
