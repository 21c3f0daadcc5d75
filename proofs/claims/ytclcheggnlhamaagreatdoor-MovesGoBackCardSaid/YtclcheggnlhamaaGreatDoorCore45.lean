/-
  Rows that are appended to and read again; results that are written no more; structs of rows that are lent.
-/
import Derived.Test.YtclcheggnlhamaaGreatDoorCore44
set_option linter.unusedSimpArgs false
set_option linter.unusedVariables false
namespace Go.DB
open Go Go.RowKit

/-- A result of one's own that nobody writes. -/
theorem FSpecO.frzG {P : Program} {f : Nat} {Ss : List SPred} {α : Type} [Rep α] {x : α} {C : CPred} (h : FSpecO P f Ss [] anyV [some C])
    (hF : ∀ M D v w, C.p M D v w → (∀ k, M k → k < w.heap.size) → (rep x).p (fun k => M k ∧ ¬ D k) v w) : FSpec P f Ss (rep x) :=
  ⟨h.ok, fun M w vs hM ha => Calls.mono (h.calls M (fun _ => NoM) w vs hM ha ⟨fun i s c h => by simp at h, fun i j x y h => by simp at h⟩) fun e w' ⟨v, M', D', he, hk, hml, hmh, hms, hS, hO, _⟩ => by
    have no : ∀ k, ¬ DU (fun _ => NoM) ([] : Given).length k := fun k ⟨i, hi, _⟩ => by simp at hi
    obtain ⟨h1, h2⟩ := hO 0 _ rfl
    have h3 := hF M' (D' 0) _ w' h1 hms
    refine ⟨⟨hk.os, hk.tape, hk.output, hk.size, fun k hlt _ => hk.block k hlt (no k)⟩, v, he, (rep x).law _ M v w' w' (Keeps.refl _ _) (fun k hk2 => .inl ⟨(hml k hk2).resolve_right (no k), fun hd => ?_⟩) h3⟩
    rcases h2 k hd with h4 | h4
    · exact no k h4
    · have := hM k hk2; simp only at h4; omega⟩
theorem FSpecO.frzM {P : Program} {f : Nat} {Ss : List SPred} {K V : Type} [Rep K] [Rep V] {m : GMap K V} (h : FSpecO P f Ss [] anyV [some (mapV m)]) : FSpec P f Ss (rep m) := h.frzG (fun M D v w h hms => frzMap M D v w h hms)
theorem deep_val2 {α β1 β2 γ : Type} [Rep α] [Rep β1] [Rep β2] [Rep γ] {x1 : β1} {x2 : β2} {R1 R2 : CPred} {mk : Value → Value → α} {y : γ} (f1 : FrzC R1 x1) (f2 : FrzC R2 x2) (hagg : Rep.agg γ = Rep.agg α)
    (hy : ∀ M s1 s2 cs w, Rep.cells M (mk s1 s2) cs w → (rep x1).p M s1 w → (rep x2).p M s2 w → Rep.cells M y cs w) (M D : MSet) (v : Value) (w : World)
    (h : (deep (fun s1 => deep (fun s2 => valV (mk s1 s2)) R2) R1).p M D v w) (hms : ∀ k, M k → k < w.heap.size) : (rep y).p (fun k => M k ∧ ¬ D k) v w := by
  obtain ⟨s1, D1, D2, ⟨s2, D3, D4, ⟨hno, cs, hc, hv⟩, hR2, e1, a1⟩, hR1, e2, a2⟩ := h
  have hsub : ∀ k, (M k ∧ ¬ D k) → M k ∨ w.heap.size ≤ k := fun k h => .inl h.1
  refine ⟨cs, hy _ s1 s2 cs w (Rep.law (Keeps.refl M w) hsub hc) ?_ ?_, by rw [hv, hagg]⟩
  · exact (rep x1).law _ _ s1 w w (Keeps.refl _ _) (fun k h => .inl ⟨h.1, fun h2 => h.2 ((e2 k).2 (.inr h2))⟩) (f1 M D2 s1 w hR1 hms)
  · exact (rep x2).law _ _ s2 w w (Keeps.refl _ _) (fun k h => .inl ⟨h.1, fun h2 => h.2 ((e2 k).2 (.inl ((e1 k).2 (.inr h2))))⟩) (f2 M D4 s2 w hR2 hms)
section
variable {P : Program} {ops : Array Oper} {fs : Nat} {L : Slots} {B : Owns} {d : Option Tmp} {ty : TypeId} {pos : String} {after : Array Edge} {g : Option (Nat × Bool)} {G : Prop}
end
section
variable {P : Program} {ops : Array Oper} {fs : Nat} {L : Slots} {B : Owns} {d : Option Tmp} {ty : TypeId} {pos : String} {after : Array Edge} {g : Option (Nat × Bool)} {xr : List Nat}
end
end Go.DB
