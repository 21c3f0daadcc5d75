/-
  Rows that are appended to and read again; results that are written no more; structs of rows that are lent.
-/
import Derived.Test.YtchnjieebkkhnaaGreatDoorCore44
set_option linter.unusedSimpArgs false
set_option linter.unusedVariables false
namespace Go.DB
open Go Go.RowKit

/-- A result of one's own that nobody writes. -/
theorem FSpecO.frzG {P : Program} {f : Nat} {Ss : List SPred} {α : Type} [Rep α] {x : α} {C : CPred} (h : FSpecO P f Ss [] anyV [some C])
    (hF : ∀ M D v w, C.p M D v w → (∀ k, M k → k < w.heap.size) → (rep x).p (fun k => M k ∧ ¬ D k) v w) : FSpec P f Ss (rep x) :=
  ⟨h.ok, fun M w vs hM ha => Calls.mono (h.calls M (fun _ => NoM) w vs hM ha ⟨fun i s c h => by simp at h, fun i j x y h => by simp at h⟩) fun e w' ⟨v, M', D', he, hk, hml, hmh, hms, hS, hO, _⟩ => by
    have no : ∀ k, ¬ DU (fun _ => NoM) ([] : Given).length k := fun k ⟨i, hi, _⟩ => by simp at hi
    obtain ⟨h1, h2⟩ := hO 0 _ rfl
    have h3 := hF M' (D' 0) _ w' h1 hms
    refine ⟨⟨hk.os, hk.tape, hk.output, hk.size, fun k hlt _ => hk.block k hlt (no k)⟩, v, he, (rep x).law _ M v w' w' (Keeps.refl _ _) (fun k hk2 => .inl ⟨(hml k hk2).resolve_right (no k), fun hd => ?_⟩) h3⟩
    rcases h2 k hd with h4 | h4
    · exact no k h4
    · have := hM k hk2; simp only at h4; omega⟩
section
variable {P : Program} {ops : Array Oper} {fs : Nat} {L : Slots} {B : Owns} {d : Option Tmp} {ty : TypeId} {pos : String} {after : Array Edge} {g : Option (Nat × Bool)} {G : Prop}
end
section
variable {P : Program} {ops : Array Oper} {fs : Nat} {L : Slots} {B : Owns} {d : Option Tmp} {ty : TypeId} {pos : String} {after : Array Edge} {g : Option (Nat × Bool)} {xr : List Nat}
end
end Go.DB
