/-
  Arrays in place.
-/
import Derived.Test.YtbahnfkccdlpnaaCore29
set_option linter.unusedVariables false
set_option linter.unusedSimpArgs false
namespace Go.DB
open Go Go.RowKit

abbrev Arr.at0 {n : Nat} {α : Type} [Inhabited α] (x : Arr n α) : α := gx x.l 0
abbrev Arr.at1 {n : Nat} {α : Type} [Inhabited α] (x : Arr n α) : α := gx x.l 1
abbrev Arr.at2 {n : Nat} {α : Type} [Inhabited α] (x : Arr n α) : α := gx x.l 2
abbrev Arr.at3 {n : Nat} {α : Type} [Inhabited α] (x : Arr n α) : α := gx x.l 3
instance : Inhabited Raw := ⟨⟨.slice none 0 0⟩⟩
theorem HasField.arr {n i : Nat} {α : Type} [Rep α] [Inhabited α] (hi : i < n + 1) : HasField (Arr n α) α (i * Rep.sz α) (fun x => gx x.l (i : Int)) := by
  refine ⟨?_, fun M x cs w h => ?_⟩
  · show i * Rep.sz α + Rep.sz α ≤ (n + 1) * Rep.sz α
    rw [← Nat.succ_mul]; exact Nat.mul_le_mul_right _ hi
  · obtain ⟨hln, hel⟩ := h
    obtain ⟨c, hc, hj⟩ := Elems.at _ _ i (by omega) hel
    refine ⟨c, ?_, fun j hlt => (hj j hlt).symm⟩
    show Rep.cells M (gx x.l (i : Int)) c w
    have : gx x.l (i : Int) = x.l[i]'(by omega) := by simp [gx, List.getElem?_eq_getElem (show i < x.l.length by omega)]
    rw [this]; exact hc
theorem SetField.arr {n i : Nat} {α : Type} [Rep α] (hi : i < n + 1) : SetField (Arr n α) α (i * Rep.sz α) (fun x z => ⟨x.l.set i z⟩) := by
  refine ⟨?_, fun M x z cs zs w h hz => ?_⟩
  · show i * Rep.sz α + Rep.sz α ≤ (n + 1) * Rep.sz α
    rw [← Nat.succ_mul]; exact Nat.mul_le_mul_right _ hi
  · obtain ⟨hln, hel⟩ := h
    exact ⟨by rw [List.length_set]; exact hln, Elems.set _ _ i z zs (by omega) hel hz⟩

section
variable {P : Program} {ops : Array Oper} {fs : Nat} {L : Slots} {B : Owns} {G : Prop}
variable {d : Option Tmp} {ty : TypeId} {pos : String} {after : Array Edge} {g : Option (Nat × Bool)} {xr : List Nat}
theorem StepOK.indexAddrA {T n E : Nat} {x i : Operand} {α : Type} [Rep α] [Inhabited α] {y : Arr n α} {k : Int} (hg : Guard ops g L G) (hT : ArrOf P T n E) (hE : Ty P E α)
    (hx : Opd L G x (ref y)) (hi : Opd L G i (rep k)) (hb : G → 0 ≤ k ∧ k < (n + 1 : Nat)) :
    StepOK P ops fs ⟨d, .indexAddr T x i, ty, pos, after, g⟩ L B (xr, []) ⟨G, ref (gx y.l k)⟩ [] :=
  .pure hg fun M a w _ hs hG => by
    obtain ⟨b, o, cs, hv, hM, hbk, hc, hr⟩ := hx.get hs (fun t ht => looksAt_op (by simp [Op.operands, ht])) hG
    obtain ⟨hk, _⟩ := rep_int.1 (hi.get hs (fun t ht => looksAt_op (by simp [Op.operands, ht])) hG)
    obtain ⟨h0, h1⟩ := hb hG
    obtain ⟨j, rfl⟩ : ∃ j : Nat, k = j := ⟨k.toNat, by omega⟩
    have hF := HasField.arr (n := n) (i := j) (α := α) (by omega)
    obtain ⟨fcs, hfc, hj⟩ := hF.2 M y cs w hc
    obtain ⟨ti, hti, hsize⟩ := Option.map_eq_some_iff.1 hE.size
    have hsz : (sizeOf E).run P w = .ok (Rep.sz α) w := by simp [sizeOf, typeInfo, hti, hsize, go_sem]
    have hun : (underlying T).run P w = .ok (.array (n + 1) E) w := by simp [underlying, show P.underlying T = _ from hT, go_sem]
    refine ⟨.pointer (some ⟨b, o + j * Rep.sz α, none⟩), ?_, b, o + j * Rep.sz α, fcs, rfl, hM, hbk, hfc, fun q hq => ?_⟩
    · simp only [execOp, hv, hk, Instr.indexAt, Instr.sureAddr, asIntOf, Sem.run_bind, hun, Result.andThen, Sem.run_pure]
      rw [if_pos ⟨h0, h1⟩]
      simp only [Sem.run_bind, hsz, Result.andThen, Sem.run_pure, add_none]
      rfl
    · have := hr (j * Rep.sz α + q) (by have := hF.1; omega)
      rw [hj q hq, ← this]
      congr 2; omega
theorem StepOK.indexPtr {T n E m o : Nat} {x i : Operand} {α : Type} [Rep α] {k : Nat} (hg : Guard ops g L G) (hT : ArrOf P T n E) (hE : Ty P E α)
    (hx : Opd L G x (isV (ptr m o))) (hi : Opd L G i (rep (k : Int))) (hb : k < n + 1) :
    StepOK P ops fs ⟨d, .indexAddr T x i, ty, pos, after, g⟩ L B (xr, []) ⟨G, isV (ptr m (o + k * Rep.sz α))⟩ [] :=
  .pure hg fun M a w _ hs hG => by
    have hv : a.eval x = ptr m o := (rep_raw.1 (hx.get hs (fun t ht => looksAt_op (by simp [Op.operands, ht])) hG)).1
    obtain ⟨hk, _⟩ := rep_int.1 (hi.get hs (fun t ht => looksAt_op (by simp [Op.operands, ht])) hG)
    obtain ⟨ti, hti, hsize⟩ := Option.map_eq_some_iff.1 hE.size
    have hsz : (sizeOf E).run P w = .ok (Rep.sz α) w := by simp [sizeOf, typeInfo, hti, hsize, go_sem]
    have hun : (underlying T).run P w = .ok (.array (n + 1) E) w := by simp [underlying, show P.underlying T = _ from hT, go_sem]
    refine ⟨.pointer (some ⟨m, o + k * Rep.sz α, none⟩), ?_, isV_ptr⟩
    simp only [execOp, hv, hk, ptr, Instr.indexAt, Instr.sureAddr, asIntOf, Sem.run_bind, hun, Result.andThen, Sem.run_pure]
    rw [if_pos ⟨by omega, by omega⟩]
    simp only [Sem.run_bind, hsz, Result.andThen, Sem.run_pure, add_none]
    rfl
end
end Go.DB
