/-
  The decimal numeral of a number.
-/
import Derived.Test.YtlbbcehlhbaggaaGreatDoorCore49
import Derived.Shelf.Strconv.Itoa3
import Derived.Lib.AppendIntMem
set_option linter.unusedSimpArgs false
set_option linter.unusedVariables false
namespace Go.DB
open Go Go.RowKit

def itoaS (n : Int) : Str := ⟨Go.Lib.itoa n⟩
theorem itoaS_spec {P : Program} {ρ : Shelf.Ren} (Ly : Proofs.LaysM.n171 P ρ) (h17 : ρ.g 17 = gPow) {f : Nat} (hf : ρ.f 171 = f) (ok : FnOK P f) {n : Int} (hl : (itoaS n).b.length ≤ 1000000) :
    FSpec P f [rep n] (rep (itoaS n)) := by
  refine ⟨ok, fun M w vs hM ha => ?_⟩
  match vs, ha with
  | [u], ⟨hu, _⟩ =>
    obtain ⟨rfl, hn⟩ := rep_int.1 hu
    subst hf
    refine Calls.mono (Proofs.Any.strconv_Itoa Ly n hn.1 hn.2 w (hM.glob.pow (h17 ▸ Ly.m17))) ?_
    rintro e' w' ⟨rfl, k, os, rfl⟩
    have hb := Go.Lib.below_grow w.heap.size w (Nat.le_refl _) k os
    exact ⟨⟨hb.os, hb.tape, hb.output, hb.size, fun k h1 _ => hb.block k h1⟩, _, rfl, rep_str.2 ⟨rfl, Nat.le_trans hl (by decide)⟩⟩
end Go.DB
