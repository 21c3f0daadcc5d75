/-
  Texts in quotes.
-/
import Derived.Test.YtlbbcehlhbaggaaGreatDoorCore49
import Derived.Tactics
import Derived.Tactics2
import Derived.Defers
import Derived.Laws.Pointers
import Derived.Laws.LoneSync
import Derived.RegionTactic
import Derived.RegionCalls
import Derived.ChangeAlike
import Derived.Laws.NewBlocks
import Derived.Handy
import Derived.Laws.MakeOwn
import Derived.OwnWalk
import Derived.Deep.WholeRow
import Derived.Deep.RegionLaw
import Derived.Laws.CopyOwn
import Derived.Laws.BytesArg
import Derived.Deep.OwnRows
import Derived.LoopTactic
import Derived.Lib.Walk
import Derived.Laws.Cover3
import Derived.WalkKit
import Derived.Shelf.Strings.Count
set_option linter.unusedSimpArgs false
set_option linter.unusedVariables false
namespace Go.DB
open Go Go.RowKit

def escB (b : UInt8) : List UInt8 := if b = 10 then [92, 110] else if b = 34 then [92, 34] else if b = 92 then [92, 92] else [b]
def escL : List UInt8 → List UInt8
  | [] => []
  | b :: l => escB b ++ escL l
def isEsc (b : UInt8) : Bool := b == 10 || b == 34 || b == 92
theorem escL_append : ∀ (a b : List UInt8), escL (a ++ b) = escL a ++ escL b
  | [], _ => rfl
  | x :: a, b => by rw [List.cons_append, escL, escL, escL_append a b, List.append_assoc]
theorem escB_len (b : UInt8) : (escB b).length = if isEsc b then 2 else 1 := by
  unfold escB isEsc
  by_cases h1 : b = 10
  · subst h1; rfl
  · by_cases h2 : b = 34
    · subst h2; rfl
    · by_cases h3 : b = 92
      · subst h3; rfl
      · simp [h1, h2, h3]
theorem escB_not {b : UInt8} (h : isEsc b = false) : escB b = [b] := by
  unfold isEsc at h
  unfold escB
  simp only [Bool.or_eq_false_iff, beq_eq_false_iff_ne] at h
  rw [if_neg h.1.1, if_neg h.1.2, if_neg h.2]
/-- How many bytes are written as two. -/
def escN (l : List UInt8) : Nat := l.countP isEsc
theorem escL_len : ∀ (l : List UInt8), (escL l).length = l.length + escN l
  | [] => rfl
  | b :: l => by
    rw [escL, List.length_append, escB_len, escL_len l]
    unfold escN
    rw [List.countP_cons, List.length_cons]
    split <;> omega
theorem escL_none : ∀ {l : List UInt8}, escN l = 0 → escL l = l
  | [], _ => rfl
  | b :: l, h => by
    unfold escN at h
    rw [List.countP_cons] at h
    cases hb : isEsc b with
    | true => rw [hb] at h; simp at h
    | false =>
      rw [hb] at h
      rw [escL, escB_not hb, escL_none (by unfold escN; simpa using h)]; rfl
theorem escN_counts : ∀ (l : List UInt8), escN l = l.count 10 + l.count 34 + l.count 92
  | [] => rfl
  | b :: l => by
    have ih := escN_counts l
    unfold escN at *
    rw [List.countP_cons, ih]
    unfold isEsc
    by_cases h1 : b = 10
    · subst h1; simp; omega
    · by_cases h2 : b = 34
      · subst h2; simp; omega
      · by_cases h3 : b = 92
        · subst h3; simp; omega
        · simp [h1, h2, h3]
def repS (s : Str) : Str := ⟨escL s.b⟩
def quoteS (s : Str) : Str := ⟨34 :: (escL s.b ++ [34])⟩
theorem quoteS_len (s : Str) : (quoteS s).b.length ≤ 2 * s.b.length + 2 := by
  unfold quoteS
  simp only [List.length_cons, List.length_append, escL_len]
  have : escN s.b ≤ s.b.length := List.countP_le_length
  simp; omega
theorem quoteS_spec {P : Program} {f : Nat} (ok : FnOK P f) {s : Str} (h : ∀ w : World, Calls P f #[.string ⟨s.b.toArray⟩] w fun e w' => e = .returned (.string ⟨(34 :: (escL s.b ++ [34])).toArray⟩) ∧ Below w.heap.size w w') (hn : s.b.length ≤ 4294967296 := by assumption) : FSpec P f [rep s] (rep (quoteS s)) := by
  refine ⟨ok, fun M w vs hM ha => ?_⟩
  match vs, ha with
  | [v], ⟨hv, _⟩ =>
    obtain ⟨rfl, _⟩ := rep_str.1 hv
    refine Calls.mono (h w) ?_
    rintro e w' ⟨rfl, hB⟩
    exact ⟨Ext.of_below hB, _, rfl, rep_str.2 ⟨rfl, by have := quoteS_len s; omega⟩⟩
end Go.DB
