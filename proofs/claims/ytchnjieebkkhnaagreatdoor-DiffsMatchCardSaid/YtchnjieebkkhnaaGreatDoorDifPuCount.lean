/-
  Right operations: their numbers, and which of them count.
-/
import Derived.Test.YtchnjieebkkhnaaGreatDoorDifPuOpsR
set_option linter.unusedSimpArgs false
set_option linter.unusedVariables false
namespace Go.DB
open Go Go.RowKit

/-- The operation in a place. -/
abbrev opI (l : List DOp) (i : Nat) : DOp := gx l (i : Int)
/-- Does an operation take another one back? -/
def undoB (l : List DOp) (j i : Nat) : Bool := decide ((opI l j).Kind = 3) && decide ((opI l j).Stamp.Site = (opI l i).Stamp.Site) && decide ((opI l j).Of = (opI l i).Stamp.No)
def cntF (l : List DOp) : Nat → Nat → Bool
  | 0, _ => true
  | f + 1, i => !(List.range l.length).any (fun j => decide (i < j) && cntF l f j && undoB l j i)
/-- Does the operation in a place count? -/
def cntB (l : List DOp) (i : Nat) : Bool := cntF l l.length i
/-- Which operations count. -/
def cntL (l : List DOp) : List Bool := (List.range l.length).map (cntB l)
/-- What is known, when all from a place on have been looked at. -/
def outP (l : List DOp) (i : Nat) : List Bool := (List.range l.length).map fun k => !(List.range l.length).any (fun j => decide (i ≤ j) && cntB l j && undoB l j k)
end Go.DB
