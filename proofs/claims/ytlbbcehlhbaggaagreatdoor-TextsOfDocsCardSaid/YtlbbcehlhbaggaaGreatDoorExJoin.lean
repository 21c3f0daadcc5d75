/-
  What the library's joining of strings comes to.
-/
import Derived.Test.YtlbbcehlhbaggaaGreatDoorCoreD
import Derived.Shelf.Strings.OnBuilder
set_option linter.unusedSimpArgs false
set_option linter.unusedVariables false
namespace Go.DB
open Go Go.RowKit

def joinS (l : List Str) (sep : Str) : Str := ⟨Go.Lib.join (l.map (·.b)) sep.b⟩
theorem joinS_spec {P : Program} {ρ : Shelf.Ren} (Ly : Proofs.Lays.n156 P ρ) (X : Proofs.Builder.Extra P ρ) {f : Nat} (hf : ρ.f 156 = f) (ok : FnOK P f) {l : List Str} {sep : Str} (hl : l.length ≤ 1000000000 ∧ (joinS l sep).b.length ≤ 1000000000) :
    FSpec P f [rep l, rep sep] (rep (joinS l sep)) := by
  refine ⟨ok, fun M w vs hM ha => ?_⟩
  match vs, ha with
  | [v, u], ⟨hv, hu, _⟩ =>
    obtain ⟨a, cap, rfl, h1, h2, h3⟩ := rep_list.1 hv
    obtain ⟨rfl, _⟩ := rep_str.1 hu
    subst hf
    cases l with
    | nil =>
      refine Calls.mono (Proofs.Any.strings_Join_none Ly X a cap _ w) ?_
      rintro e w' ⟨rfl, rfl⟩
      exact ⟨Keeps.refl _ _, _, rfl, rep_str.2 ⟨rfl, by show ([] : List UInt8).length ≤ _; decide⟩⟩
    | cons x l =>
      cases a with
      | none => exact absurd h3 (by simp [Lies])
      | some ad =>
        obtain ⟨b, off, sp⟩ := ad
        obtain ⟨hsp, _, hb, _⟩ := h3 0 (by simp)
        simp only at hsp hb
        subst hsp
        have e0 : ((x :: l).map (fun y => ByteArray.mk y.b.toArray)).map (·.data.toList) = (x :: l).map (·.b) := by rw [List.map_map]; rfl
        have c := Proofs.Any.strings_Join Ly X b off cap ((x :: l).map (fun y => ByteArray.mk y.b.toArray)) (ByteArray.mk sep.b.toArray) w (fun j y hj => by
          rw [List.getElem?_map] at hj
          obtain ⟨z, hz, rfl⟩ := Option.map_eq_some_iff.1 hj
          obtain ⟨hlt, rfl⟩ := List.getElem?_eq_some_iff.1 hz
          obtain ⟨_, _, _, cs, ⟨hc, _⟩, hr⟩ := h3 j hlt
          have := hr 0 (by decide)
          simp only [Rep.sz, Nat.mul_one, Nat.add_zero] at this
          rw [this, hc]; rfl) hb (by rw [List.length_map]; have := hl.1; omega) (by rw [List.length_map]; exact h1) (by rw [e0]; have := hl.2; exact Nat.le_trans this (by decide))
        rw [e0, List.length_map] at c
        refine Calls.mono c ?_
        rintro e w' ⟨rfl, hb⟩
        exact ⟨⟨hb.os, hb.tape, hb.output, hb.size, fun k h1 _ => hb.block k h1⟩, _, rfl, rep_str.2 ⟨rfl, Nat.le_trans hl.2 (by decide)⟩⟩
end Go.DB
