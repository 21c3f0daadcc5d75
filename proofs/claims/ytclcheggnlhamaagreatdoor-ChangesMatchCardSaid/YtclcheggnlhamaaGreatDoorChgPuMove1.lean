/-
  Diagrams whose nodes are moved: what steps make of them.
-/
import Derived.Test.YtclcheggnlhamaaGreatDoorChgPuSel1
import Derived.Test.YtclcheggnlhamaaGreatDoorChgPuCopy
set_option linter.unusedSimpArgs false
set_option linter.unusedVariables false
namespace Go.DB
open Go Go.RowKit

def mvP (dx dy : Int) (p : Point) : Point := ⟨W (p.X + dx), W (p.Y + dy)⟩
def mvN (dx dy : Int) (n : DNode) : DNode := if n.Kind = 6 then n else { n with Box := { n.Box with X := W (n.Box.X + dx), Y := W (n.Box.Y + dy) } }
def mvE (dx dy : Int) (x : DEdge) : DEdge := { x with Bends := x.Bends.map (mvP dx dy) }
def stN (P : Nat → Bool) (dx dy : Int) (l : List DNode) : List DNode := (List.range l.length).map fun (i : Nat) => if P i = true then mvN dx dy (gx l (i : Int)) else gx l (i : Int)
def endsP (L : List DNode) (P : Nat → Bool) (x : DEdge) : Bool := P (nodeAt L x.From.Node).toNat && P (nodeAt L x.To.Node).toNat
def stE (L : List DNode) (P : Nat → Bool) (dx dy : Int) (l : List DEdge) : List DEdge := l.map fun x => if endsP L P x = true then mvE dx dy x else x
/-- The ends of an edge are there. -/
def EndsIn (L : List DNode) (x : DEdge) : Prop := inR L (nodeAt L x.From.Node) ∧ inR L (nodeAt L x.To.Node)
theorem Right.endsIn {d : Doc} (h : Right d) {x : DEdge} (hx : x ∈ d.Edges) : EndsIn d.Nodes x := by
  obtain ⟨i, hi, rfl⟩ := List.getElem_of_mem hx
  have := h.edge i hi
  unfold edgeErr at this
  have h1 := firstErr_zero.1 this (endErr d.Nodes d.Edges[i].From) (by simp)
  have h2 := firstErr_zero.1 this (endErr d.Nodes d.Edges[i].To) (by simp)
  have key : ∀ y : DEnd, endErr d.Nodes y = 0 → inR d.Nodes (nodeAt d.Nodes y.Node) := fun y hy => by
    refine (nodeAt_in fun hc => ?_).1
    unfold endErr at hy
    rw [if_pos hc] at hy; cases hy
  exact ⟨key _ h1, key _ h2⟩
theorem shifted_eq {l : List Point} (hl : l.length ≤ 1000000) (dx dy : Int) : ref_shifted l dx dy = some (l.map (mvP dx dy)) := by
  unfold ref_shifted
  rw [rfor_gather (fun p => [mvP dx dy p]) [] (fun a _ => by simp) (by simp; omega) (fun i s hk hs => by
    unfold ref_shifted_L1
    rw [need_of hk, bnd_eq, need_of (by show _ ≤ _; simp; omega)]; rfl), ← List.map_eq_flatMap]
  simp
end Go.DB
