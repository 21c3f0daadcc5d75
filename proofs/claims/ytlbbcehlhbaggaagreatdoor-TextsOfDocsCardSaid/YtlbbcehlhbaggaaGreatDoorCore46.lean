/-
  Maps whose elements are maps of one's own.
-/
import Derived.Test.YtlbbcehlhbaggaaGreatDoorCore45
set_option linter.unusedVariables false
set_option linter.unusedSimpArgs false
namespace Go.DB
open Go Go.RowKit

section
variable {K K2 V : Type} [Rep K] [Rep K2] [Rep V]

/-- What an entry's map is. -/
def FitM (M D : MSet) (w : World) : Option (GMap K2 V) → Option Raw → Prop
  | some l, some s => (mapV l).p M D s.v w
  | none, none => True
  | _, _ => False
theorem FitM.law {M M' D : MSet} {w w' : World} {a : Option (GMap K2 V)} {b : Option Raw} (hk : Keeps M w w') (hm : ∀ k, M' k → M k ∨ w.heap.size ≤ k) (ho : ∀ k, D k → M' k ∧ w'.heap[k]? = w.heap[k]?) (h : FitM M D w a b) : FitM M' D w' a b := by
  match a, b, h with
  | some l, some s, h => exact (mapV l).law M M' D s.v w w' hk hm ho h
  | none, none, h => exact h

/-- A map whose elements are maps of one's own; the one at the hole is taken out, its value is told. -/
def mapD (h : Option (K × Value)) (m : GMap K (GMap K2 V)) : CPred where
  p := fun M D v w => ∃ (r : GMap K Raw) (Dm : MSet) (Dr : K → MSet), (mapV r).p M Dm v w ∧ (∀ k s, h = some (k, s) → r.f k = some ⟨s⟩ ∧ (m.f k).isSome = true) ∧ (∀ k, (∀ s, h ≠ some (k, s)) → FitM M (Dr k) w (m.f k) (r.f k)) ∧
    (∀ j, D j → M j) ∧ (∀ j, (Dm j ∨ ∃ k, Dr k j) → D j) ∧ (∀ k j, Dr k j → ¬ Dm j) ∧ ∀ k k' j, Dr k j → Dr k' j → k = k'
  inM := fun M D v w ⟨r, Dm, Dr, _, _, _, h3, _⟩ k hk => h3 k hk
  law := fun M M' D v w w' hk hm hown ⟨r, Dm, Dr, h1, hp, h2, h3, h4, h5, h6⟩ => by
    have o1 : ∀ j, Dm j → D j := fun j h => h4 j (.inl h)
    have o2 : ∀ k j, Dr k j → D j := fun k j h => h4 j (.inr ⟨k, h⟩)
    exact ⟨r, Dm, Dr, (mapV r).law M M' Dm v w w' hk hm (fun j h => hown j (o1 j h)) h1, hp, fun k hn => (h2 k hn).law hk hm (fun j h => hown j (o2 k j h)), fun j h => (hown j h).1, h4, h5, h6⟩

variable {m : GMap K (GMap K2 V)} {M D : MSet} {v : Value} {w : World} {h : Option (K × Value)}
end
section
variable {P : Program} {ops : Array Oper} {fs : Nat} {L : Slots} {B : Owns} {G : Prop}
variable {ty : TypeId} {pos : String} {after : Array Edge} {g : Option (Nat × Bool)} {xr : List Nat} {d : Option Tmp}
variable {K K2 V : Type} [Rep K] [DecidableEq K] [MKey K] [Rep K2] [Rep V] {T kt et : TypeId} {m : GMap K (GMap K2 V)} {k : K} {hole : Option (K × Value)}

/-- A map that is there or not. -/
def nilM (b : Bool) : SPred where
  p := fun M v w => (b = true ∧ v = .map none) ∨ (b = false ∧ ∃ j, v = .map (some j))
  law := fun M M' v w w' _ _ h => h
end

section
variable {Q : Exit → Act → World → Prop} {P : Program} {n : Nat} {F : Fr} {L : Slots} {B : Owns}
variable {K K2 V : Type} [Rep K] [Rep K2] [Rep V] {m : GMap K (GMap K2 V)} {s : Value}
end
end Go.DB
