/-
  What the library's reading of a number comes to.
-/
import Derived.Test.YtlbbcehlhbaggaaGreatDoorCore50
import Derived.Shelf.Strconv.AtoiAll
set_option linter.unusedSimpArgs false
set_option linter.unusedVariables false
namespace Go.DB
open Go Go.RowKit

def atoiI (s : Str) : Int × ErrB := match Go.Lib.atoiAll s.b with
  | .ok v => (v, ⟨false⟩)
  | Go.Lib.NumEnd.syntax => (0, ⟨true⟩)
  | .range => (Go.Lib.atoiSat s.b, ⟨true⟩)
theorem atoiI_spec {P : Program} {ρ : Shelf.Ren} (Ly : Proofs.LaysC.n172 P ρ) (h15 : ρ.g 15 = gSyn) (h16 : ρ.g 16 = gRng) {f : Nat} (hf : ρ.f 172 = f) (ok : FnOK P f) {s : Str} (hl : s.b.length ≤ 4294967281) :
    FSpec P f [rep s] (tup2 (atoiI s)) := by
  refine ⟨ok, fun M w vs hM ha => ?_⟩
  match vs, ha with
  | [u], ⟨hu, _⟩ =>
    obtain ⟨rfl, hn⟩ := rep_str.1 hu
    subst hf
    have z1 : (ByteArray.mk s.b.toArray).size = s.b.length := rfl
    have e0 : (ByteArray.mk s.b.toArray).data.toList = s.b := rfl
    have herr := hM.glob.errs
    rw [← h15, ← h16] at herr
    obtain ⟨⟨t1, p1, k1⟩, t2, p2, k2⟩ := herr
    unfold atoiI
    rcases h : Go.Lib.atoiAll s.b with v | _ | _
    · skip
      obtain ⟨b0, b1⟩ := Go.Lib.atoiAll_bounds h
      refine Calls.mono (Proofs.Any.strconv_Atoi_ok Ly (ByteArray.mk s.b.toArray) (by omega) v h w) ?_
      rintro e w' ⟨rfl, hw⟩
      have hb : Below w.heap.size w w' := by
        rcases hw with rfl | ⟨t, rfl⟩
        · exact Below.refl _ _
        · exact Go.Lib.bytesWorld_below _ _ _
      exact ⟨⟨hb.os, hb.tape, hb.output, hb.size, fun k h1 _ => hb.block k h1⟩, _, rfl, tup2_of (rep_int.2 ⟨rfl, by show InI v; exact ⟨by omega, by omega⟩⟩) (rep_err.2 (.inl ⟨rfl, rfl⟩))⟩
    · skip
      refine Calls.mono (Proofs.Any.strconv_Atoi_syntax Ly (ByteArray.mk s.b.toArray) (by omega) h _ w k1 (.inr ⟨_, _, rfl⟩)) ?_
      rintro e w' ⟨N, rfl, _, _, hb⟩
      exact ⟨⟨hb.os, hb.tape, hb.output, hb.size, fun k h1 _ => hb.block k h1⟩, _, rfl, tup2_of (rep_int.2 ⟨rfl, by show InI (0 : Int); decide⟩) (rep_err.2 (.inr ⟨rfl, _, _, rfl⟩))⟩
    · skip
      refine Calls.mono (Proofs.Any.strconv_Atoi_range Ly (ByteArray.mk s.b.toArray) (by omega) h _ w k2 (.inr ⟨_, _, rfl⟩)) ?_
      rintro e w' ⟨N, rfl, _, _, hb⟩
      refine ⟨⟨hb.os, hb.tape, hb.output, hb.size, fun k h1 _ => hb.block k h1⟩, _, rfl, tup2_of (rep_int.2 ⟨rfl, ?_⟩) (rep_err.2 (.inr ⟨rfl, _, _, rfl⟩))⟩
      show InI (Go.Lib.atoiSat s.b)
      unfold Go.Lib.atoiSat
      split <;> decide
end Go.DB
