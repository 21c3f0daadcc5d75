/-
  Rows of small elements that may become very long.
-/
import Derived.Test.YtchnjieebkkhnaaGreatDoorCore46
set_option linter.unusedSimpArgs false
set_option linter.unusedVariables false
namespace Go.DB
open Go Go.RowKit

/-- A row that may become very long: its elements take at most 64 bytes. -/
def RowOKW (P : Program) (T E : TypeId) (α : Type) [Rep α] : Prop := RowOK P T E α ∧ ((P.info? E).all fun i => i.bytes ≤ 64) = true
/-- l has room, if its elements are small. -/
def roomW (n : Nat) : Prop := n ≤ 2199023255552
/-- A list that fits into memory, if its elements take at least 71 bytes. -/
def fewL {α : Type} (l : List α) : Prop := l.length ≤ 2000000000000
section
variable {P : Program} {ops : Array Oper} {fs : Nat} {L : Slots} {B : Owns} {ty : TypeId} {pos : String} {after : Array Edge}
theorem StepOK.appendW {d k : Nat} {s x : Operand} {t E : TypeId} {α : Type} [Rep α] {l xs : List α} (hT : RowOKW P t E α) (hd : Nat.blt d fs = true) (hs : RowArg L B s k (rowV E l)) (hx : Opd L True x (rep xs)) (hb : l.length + xs.length ≤ 2199023255552) :
    StepOK P ops fs ⟨some d, .call { callee := .builtin .append, args := #[s, x], argTypes := #[t, t] }, ty, pos, after, none⟩ L B ([k], [d, k]) ⟨True, anyV⟩ [(d, some (rowV E (l ++ xs))), (k, none)] := by
  refine .doing fun M D a w hsz hm hsat hsB => ?_
  obtain ⟨hC, C0, hl⟩ := hs.get hsat (fun t ht => looksAt_op (call_ops (by simp [ht]))) hsB (by simp)
  have hX := hx.get hsat (fun t ht => looksAt_op (call_ops (by simp [ht]))) trivial
  obtain ⟨v, w', M', D', hr, h1, h2, h3, h4, h5, h6⟩ := run_appendB (P := P) (ty := ty) hT.1 hm hC hX (by omega) (fun i hi => by
    have h := hT.2
    rw [hi] at h
    have h : i.bytes ≤ 64 := by simpa using h
    have := Nat.mul_le_mul hb h
    omega)
  refine Does.value (ex_append hr) (.pass M' D' hl h2 h3 h4 h5 ⟨fun _ => trivial, fun hf => (hf trivial).elim⟩ ?_ h6)
  rw [val_self (by rw [hsz]; exact Nat.le_of_ble_eq_true hd)]
  exact h1
end
end Go.DB
