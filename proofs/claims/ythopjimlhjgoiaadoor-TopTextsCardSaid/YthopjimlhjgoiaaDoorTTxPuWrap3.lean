/-
  Texts divided into lines: the answer's functions compute it too.
-/
import Derived.Test.YthopjimlhjgoiaaDoorTTxPuWrap2
set_option linter.unusedSimpArgs false
set_option linter.unusedVariables false
namespace Go.DB
open Go Go.RowKit

def posN (l : List UInt8) (j : Nat) : Nat := (bytesOf ((chunks l).take j)).length
theorem pos_zero (l : List UInt8) : posN l 0 = 0 := by simp [posN, bytesOf]
theorem pos_all {l : List UInt8} {j : Nat} (h : (chunks l).length ≤ j) : posN l j = l.length := by unfold posN; rw [List.take_of_length_le h, chunks_flat]
theorem pos_take (l : List UInt8) (j : Nat) : l.take (posN l j) = bytesOf ((chunks l).take j) := by
  have h : bytesOf ((chunks l).take j) ++ bytesOf ((chunks l).drop j) = l := by rw [← bytesOf_append, List.take_append_drop, chunks_flat]
  have := congrArg (List.take (posN l j)) h
  unfold posN at this ⊢
  rw [List.take_left] at this
  exact this.symm
theorem pos_drop (l : List UInt8) (j : Nat) : l.drop (posN l j) = bytesOf ((chunks l).drop j) := by
  have h : bytesOf ((chunks l).take j) ++ bytesOf ((chunks l).drop j) = l := by rw [← bytesOf_append, List.take_append_drop, chunks_flat]
  have := congrArg (List.drop (posN l j)) h
  unfold posN at this ⊢
  rw [List.drop_left] at this
  exact this.symm
theorem pos_le (l : List UInt8) (j : Nat) : posN l j ≤ l.length := by
  have h : bytesOf ((chunks l).take j) ++ bytesOf ((chunks l).drop j) = l := by rw [← bytesOf_append, List.take_append_drop, chunks_flat]
  have := congrArg List.length h
  simp only [List.length_append] at this
  unfold posN; omega
theorem pos_next {l : List UInt8} {j : Nat} (h : j < (chunks l).length) : posN l (j + 1) = posN l j + (dec (l.drop (posN l j))).2 := by
  have hne : l.drop (posN l j) ≠ [] := by
    intro e
    rw [pos_drop] at e
    have := chunks_drop l j
    rw [e, chunks_nil] at this
    have := congrArg List.length this
    simp at this; omega
  have hc := chunks_drop l j
  rw [← pos_drop] at hc
  rw [chunks_cons hne] at hc
  unfold posN
  rw [List.take_add_one, bytesOf_append, List.length_append]
  congr 1
  have hj : (chunks l)[j]? = some ((dec (l.drop (posN l j))).1, (l.drop (posN l j)).take (dec (l.drop (posN l j))).2) := by
    have := congrArg (·[0]?) hc
    simp only [List.getElem?_cons_zero, List.getElem?_drop, Nat.add_zero] at this
    exact this.symm
  rw [hj]
  have := dec_le hne
  simp only [Option.toList_some, bytesOf_cons, bytesOf_nil, List.append_nil, List.length_take]
  unfold posN at *
  omega
theorem pos_lt {l : List UInt8} {j : Nat} (h : j < (chunks l).length) : posN l j < l.length := by
  have h1 := pos_next h
  have h2 := dec_pos (l.drop (posN l j))
  have h3 := pos_le l (j + 1)
  omega
theorem pos_pos {l : List UInt8} {j : Nat} (h : j < (chunks l).length) (hj : 1 ≤ j) : 1 ≤ posN l j := by
  obtain ⟨i, rfl⟩ : ∃ i, j = i + 1 := ⟨j - 1, by omega⟩
  have h1 := pos_next (l := l) (j := i) (by omega)
  have h2 := dec_pos (l.drop (posN l i))
  omega
theorem fitN_zero {f : Font} (hf : okF f) {width a : Int} (h : width < a) (cs : List (Nat × List UInt8)) : fitN f width a cs = 0 := by
  cases cs with
  | nil => rfl
  | cons c cs =>
    have := wd_bd hf c.1
    unfold fitN
    rw [if_neg (by omega)]

end Go.DB
