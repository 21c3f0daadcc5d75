/-
  Arrays in place, looked into at any index; arrays of arrays.
-/
import Derived.Test.YtbahnfkccdlpnaaCore34
set_option linter.unusedVariables false
set_option linter.unusedSimpArgs false
namespace Go.DB
open Go Go.RowKit

theorem HasField.comp {α β γ : Type} [Rep α] [Rep β] [Rep γ] {o1 o2 : Nat} {p : α → β} {q : β → γ} (h : HasField α β o1 p) (h' : HasField β γ (0 + o2) q) : HasField α γ (o1 + o2) (fun x => q (p x)) := by
  rw [Nat.zero_add] at h'
  refine ⟨by have := h.1; have := h'.1; omega, fun M x cs w hc => ?_⟩
  obtain ⟨c1, hc1, hj1⟩ := h.2 M x cs w hc
  obtain ⟨c2, hc2, hj2⟩ := h'.2 M _ c1 w hc1
  refine ⟨c2, hc2, fun j hj => ?_⟩
  rw [hj2 j hj, hj1 (o2 + j) (by have := h'.1; omega), Nat.add_assoc]
theorem SetField.comp {α β γ : Type} [Rep α] [Rep β] [Rep γ] {o1 o2 : Nat} {p : α → β} {s : α → β → α} {q : β → γ → β} (h : HasField α β o1 p) (hs : SetField α β o1 s) (h' : SetField β γ (0 + o2) q) : SetField α γ (o1 + o2) (fun x z => s x (q (p x) z)) := by
  rw [Nat.zero_add] at h'
  refine ⟨by have := h.1; have := h'.1; omega, fun M x z cs zs w hc hz => ?_⟩
  obtain ⟨c1, hc1, hj1⟩ := h.2 M x cs w hc
  have l1 := Rep.len hc1
  have l0 := Rep.len hc
  have b1 := h.1
  have b2 := h'.1
  have e : c1 = (cs.drop o1).take (Rep.sz β) := by
    apply List.ext_getElem?
    intro j
    by_cases hj : j < Rep.sz β
    · rw [hj1 j hj, List.getElem?_take_of_lt hj, List.getElem?_drop]
    · rw [List.getElem?_eq_none (by omega), List.getElem?_eq_none (by simp; omega)]
  have := hs.2 M x (q (p x) z) cs _ w hc (h'.2 M _ z c1 zs w hc1 hz)
  have e2 : cs.take o1 ++ (c1.take o2 ++ zs ++ c1.drop (o2 + Rep.sz γ)) ++ cs.drop (o1 + Rep.sz β) = cs.take (o1 + o2) ++ zs ++ cs.drop (o1 + o2 + Rep.sz γ) := by
    rw [e]
    have t1 : ((cs.drop o1).take (Rep.sz β)).take o2 = (cs.drop o1).take o2 := by rw [List.take_take, Nat.min_eq_left (by omega)]
    have t2 : cs.take (o1 + o2) = cs.take o1 ++ (cs.drop o1).take o2 := List.take_add
    have t3 : ((cs.drop o1).take (Rep.sz β)).drop (o2 + Rep.sz γ) ++ cs.drop (o1 + Rep.sz β) = cs.drop (o1 + o2 + Rep.sz γ) := by
      have : cs.drop (o1 + Rep.sz β) = (cs.drop o1).drop (Rep.sz β) := by rw [List.drop_drop]
      rw [this, ← List.drop_append_of_le_length (by simp; omega), List.take_append_drop, List.drop_drop]
      congr 1; omega
    rw [t1, t2]
    simp only [List.append_assoc]
    rw [t3]
  rw [e2] at this
  exact this

section
variable {P : Program} {ops : Array Oper} {fs : Nat} {L : Slots} {B : Owns} {G : Prop}
variable {d : Option Tmp} {ty : TypeId} {pos : String} {after : Array Edge} {g : Option (Nat × Bool)} {xr : List Nat}
end
end Go.DB
