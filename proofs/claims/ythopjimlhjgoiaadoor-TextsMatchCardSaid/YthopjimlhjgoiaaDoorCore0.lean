/-
  Blocks that may be written, worlds that only grow, and what is told of the program's own tables. Over any program.
-/
import Derived.Orders
import Derived.Below
import Derived.Shelf.Unicode.DecodeSlow
set_option linter.unusedSimpArgs false
set_option linter.unusedVariables false
namespace Go.DB
open Go Go.RowKit

/-- Blocks that may be written. -/
abbrev MSet := Nat → Prop

/-- What is in blocks outside M has stayed; nothing has gone. -/
structure Keeps (M : MSet) (w w' : World) : Prop where
  os : w'.os = w.os
  tape : w'.tape = w.tape
  output : w'.output = w.output
  size : w.heap.size ≤ w'.heap.size
  block : ∀ k, k < w.heap.size → ¬ M k → w'.heap[k]? = w.heap[k]?

abbrev gFirst : Nat := 1
abbrev gAcc : Nat := 2
abbrev gMax : Nat := 4
/-- What the tables of the program hold: the blocks bs, told by their cells. -/
def globOK (bs : List Nat) (c : Nat → Nat → Option Value) : Prop := ((∀ i, i < 256 → c gFirst i = some (.int .u8 (Go.Lib.firstT i))) ∧ (∀ i, i < 16 → c gAcc (2 * i) = some (.int .u8 (Go.Lib.accLo i)) ∧ c gAcc (2 * i + 1) = some (.int .u8 (Go.Lib.accHi i)))) ∧ (∃ m, c gMax 0 = some (.int .i64 m))

/-- The tables stand in blocks that nobody writes. -/
def Glob (M : MSet) (w : World) : Prop := ∃ bs : List Nat, (∀ b ∈ bs, ¬ M b ∧ b < w.heap.size) ∧ globOK bs (fun b j => if b ∈ bs then w.cell? ⟨b, j, none⟩ else none)

theorem Glob.law {M M' : MSet} {w w' : World} (hk : Keeps M w w') (hm : ∀ k, M' k → M k ∨ w.heap.size ≤ k) (h : Glob M w) : Glob M' w' := by
  obtain ⟨bs, h1, h2⟩ := h
  refine ⟨bs, fun b hb => ⟨fun hM => (hm b hM).elim (h1 b hb).1 (by have := (h1 b hb).2; omega), Nat.lt_of_lt_of_le (h1 b hb).2 hk.size⟩, ?_⟩
  have e : (fun b j => if b ∈ bs then w'.cell? ⟨b, j, none⟩ else none) = (fun b j => if b ∈ bs then w.cell? ⟨b, j, none⟩ else none) := by
    funext b j
    by_cases hb : b ∈ bs
    · rw [if_pos hb, if_pos hb]
      exact World.cell?_of_block (w := w) (hk.block b (h1 b hb).2 (h1 b hb).1)
    · rw [if_neg hb, if_neg hb]
  rw [e]; exact h2

/-- The blocks that may be written are there; the tables stand. -/
structure Low (M : MSet) (w : World) : Prop where
  lt : ∀ k, M k → k < w.heap.size
  glob : Glob M w

instance {M : MSet} {w : World} : CoeFun (Low M w) (fun _ => ∀ k, M k → k < w.heap.size) := ⟨Low.lt⟩
instance {M : MSet} {w : World} : Coe (Low M w) (∀ k, M k → k < w.heap.size) := ⟨Low.lt⟩

theorem Low.next {M M' : MSet} {w w' : World} (h : Low M w) (hk : Keeps M w w') (hm : ∀ k, M' k → M k ∨ w.heap.size ≤ k) (hl : ∀ k, M' k → k < w'.heap.size) : Low M' w' := ⟨hl, h.glob.law hk hm⟩
theorem Low.less {M M' : MSet} {w : World} (h : Low M w) (hm : ∀ k, M' k → M k) : Low M' w :=
  ⟨fun k hk => h.lt k (hm k hk), h.glob.law ⟨rfl, rfl, rfl, Nat.le_refl _, fun _ _ _ => rfl⟩ (fun k hk => .inl (hm k hk))⟩
theorem Low.ext {M : MSet} {w w' : World} (h : Low M w) (hk : Keeps (fun _ => False) w w') : Low M w' :=
  ⟨fun k hk' => Nat.lt_of_lt_of_le (h.lt k hk') hk.size, h.glob.law ⟨hk.os, hk.tape, hk.output, hk.size, fun k h1 _ => hk.block k h1 (fun f => f)⟩ (fun k hk => .inl hk)⟩

theorem cell_if {bs : List Nat} {w : World} {b j : Nat} {v : Value} (h : (if b ∈ bs then w.cell? ⟨b, j, none⟩ else none) = some v) : w.cell? ⟨b, j, none⟩ = some v := by
  split at h
  · exact h
  · cases h
theorem Glob.tabs {M : MSet} {w : World} (h : Glob M w) : Go.Lib.Utf8Tabs gFirst gAcc w := by
  obtain ⟨bs, _, h2⟩ := h
  exact ⟨fun i hi => cell_if (h2.1.1 i hi), fun i hi => ⟨cell_if (h2.1.2 i hi).1, cell_if (h2.1.2 i hi).2⟩⟩
theorem Glob.maxLen {M : MSet} {w : World} (h : Glob M w) : ∃ m, w.cell? ⟨gMax, 0, none⟩ = some (.int .i64 m) := by
  obtain ⟨bs, _, h2⟩ := h
  obtain ⟨m, hm⟩ := h2.2
  exact ⟨m, cell_if hm⟩
theorem there {w : World} {b j : Nat} {v : Value} (h : w.cell? ⟨b, j, none⟩ = some v) : b < w.heap.size := by
  unfold World.cell? at h
  rcases Nat.lt_or_ge b w.heap.size with h' | h'
  · exact h'
  · simp [Array.getElem?_eq_none h'] at h
theorem Low.start {M : MSet} {w : World} (h : ∀ k, ¬ M k) (ht : Go.Lib.Utf8Tabs gFirst gAcc w) (hx : ∃ m, w.cell? ⟨gMax, 0, none⟩ = some (.int .i64 m)) : Low M w := by
  refine ⟨fun k hk => (h k hk).elim, [gFirst, gAcc, gMax], fun b hb => ⟨h b, ?_⟩, ⟨⟨fun i hi => (if_pos (by simp)).trans (ht.1 i hi), fun i hi => ⟨(if_pos (by simp)).trans (ht.2 i hi).1, (if_pos (by simp)).trans (ht.2 i hi).2⟩⟩, hx.imp (fun m h => (if_pos (by simp)).trans h)⟩⟩
  simp only [List.mem_cons, List.mem_nil_iff, or_false] at hb
  rcases hb with rfl | rfl | rfl
  · exact there (ht.1 0 (by decide))
  · exact there (ht.2 0 (by decide)).1
  · exact there hx.choose_spec

end Go.DB
