/-
  What the library's trimming of a string comes to, at a cutset of ASCII.
-/
import Derived.Test.YtlbbcehlhbaggaaGreatDoorCoreD
import Derived.Shelf.Strings.SlTrimAscii
set_option linter.unusedSimpArgs false
set_option linter.unusedVariables false
namespace Go.DB
open Go Go.RowKit

def trimS (s cs : Str) : Str := ⟨Go.Lib.trimS s.b cs.b⟩
theorem trimS_spec {P : Program} {ρ : Shelf.Ren} (Ly : Proofs.Lays.n160 P ρ) (h116 : (P.info? (ρ.t 116)).map (fun i => (i.zero, i.size)) = some (some (.agg (Array.replicate 256 (.bool false))), 256)) {f : Nat} (hf : ρ.f 160 = f) (ok : FnOK P f)
    {s cs : Str} (hs : (cs.b.length : Int) < 4294967281 ∧ cs.b.all (fun b => decide (b.toNat < 128)) = true) : FSpec P f [rep s, rep cs] (rep (trimS s cs)) := by
  refine ⟨ok, fun M w vs hM ha => ?_⟩
  match vs, ha with
  | [v, u], ⟨hv, hu, _⟩ =>
    obtain ⟨rfl, hs1⟩ := rep_str.1 hv
    obtain ⟨rfl, _⟩ := rep_str.1 hu
    subst hf
    have hz2 : (ByteArray.mk cs.b.toArray).size = cs.b.length := rfl
    have hz1 : (ByteArray.mk s.b.toArray).size = s.b.length := rfl
    refine Calls.mono (Proofs.Any.strings_Trim_laid Ly h116 (ByteArray.mk s.b.toArray) (ByteArray.mk cs.b.toArray) w (by omega) (by have := hs.1; omega) (by
      have := Proofs.ascii_of_all hs.2
      simpa using this)) ?_
    rintro e w' ⟨rfl, hb⟩
    have hle : ∀ (l c : List UInt8), (Go.Lib.trimS l c).length ≤ l.length := fun l c => by
      have h1 : ∀ (l : List UInt8), (Go.Lib.trimLeftS l c).length ≤ l.length := fun l => (List.dropWhile_suffix _).length_le
      refine Nat.le_trans (h1 _) ?_
      unfold Go.Lib.trimRightS
      simp only [List.length_reverse]
      exact Nat.le_trans (List.dropWhile_suffix _).length_le (by simp)
    refine ⟨⟨hb.os, hb.tape, hb.output, hb.size, fun k h1 _ => hb.block k h1⟩, _, rfl, rep_str.2 ⟨?_, ?_⟩⟩
    · simp [trimS, strV]
    · have := hle s.b cs.b
      show (Go.Lib.trimS s.b cs.b).length ≤ _
      omega
end Go.DB
