/-
  What the library's splitting of a string comes to.
-/
import Derived.Test.YtjnglmeiifcgjaaGreatDoorCoreD
import Derived.Shelf.Strings.Split
set_option linter.unusedSimpArgs false
set_option linter.unusedVariables false
namespace Go.DB
open Go Go.RowKit

def ofBytes (x : ByteArray) : Str := ⟨x.data.toList⟩
def splitS (s sep : Str) : List Str := (Go.Lib.splitB (ByteArray.mk sep.b.toArray) 0 (Go.Lib.countB (ByteArray.mk s.b.toArray) (ByteArray.mk sep.b.toArray)) (ByteArray.mk s.b.toArray)).map ofBytes

theorem elems_strs {M : MSet} {w : World} : ∀ (l : List ByteArray), (∀ x ∈ l, x.size ≤ 9223372036854775807) → Elems M w (l.map ofBytes) (l.map Value.string)
  | [], _ => rfl
  | x :: l, h => ⟨[.string x], l.map Value.string, rfl, ⟨congrArg (fun v => [v]) (by cases x; simp [strV, ofBytes]), by have := h x (by simp); show x.data.toList.length ≤ _; rw [Array.length_toList]; exact this⟩, elems_strs l (fun y hy => h y (by simp [hy]))⟩

theorem splitB_size (sep : ByteArray) (n : Nat) : ∀ (k : Nat) (s : ByteArray), s.size ≤ n → ∀ x ∈ Go.Lib.splitB sep 0 k s, x.size ≤ n
  | 0, s, hs, x, hx => by simp [Go.Lib.splitB] at hx; subst hx; exact hs
  | k + 1, s, hs, x, hx => by
    unfold Go.Lib.splitB at hx
    split at hx
    · simp at hx; subst hx; exact hs
    · rcases List.mem_cons.1 hx with rfl | hx
      · rw [ByteArray.size_extract]; omega
      · exact splitB_size sep n k _ (by rw [ByteArray.size_extract]; omega) x hx

end Go.DB
