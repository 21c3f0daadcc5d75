/-
  Elements of a part of a row that turns.
-/
import Derived.Test.YtieepiblancbpaaCore37
import Derived.Laws.Cover1
set_option linter.unusedVariables false
set_option linter.unusedSimpArgs false
namespace Go.DB
open Go Go.RowKit
section
variable {P : Program} {ops : Array Oper} {fs : Nat} {L : Slots} {B : Owns} {G : Prop}
variable {d : Option Tmp} {ty : TypeId} {pos : String} {after : Array Edge} {g : Option (Nat × Bool)} {xr : List Nat}

theorem StepOK.indexPart {T E E' k : Nat} {x i : Operand} {s : Value} {α : Type} [Rep α] {l : List α} {i0 j0 j : Int} (hg : Guard ops g L G) (hT : SliceOf P T E) (hE : Ty P E α)
    (hx : Opd L G x (isV (partV s i0 j0 (Rep.sz α)))) (hk : lookB B k = some (CPred.at s (rowV E' l))) (hi : Opd L G i (rep j)) (hb : G → segR l.length i0 j0) (hb2 : G → 0 ≤ j ∧ j < j0 - i0) :
    StepOK P ops fs ⟨d, .indexAddr T x i, ty, pos, after, g⟩ L B ([k], []) ⟨G, isV (elemPtr s ((i0 + j).toNat * Rep.sz α + 0))⟩ [] :=
  .of hg fun M D a w _ hs hsB hG => by
    have hv := (rep_raw.1 (hx.get hs (fun t ht => looksAt_op (by simp [Op.operands, ht])) hG)).1
    obtain ⟨ad, cap, rfl, hcap, _, hl⟩ := hsB.has k (by simp) _ hk
    obtain ⟨hiv, _⟩ := rep_int.1 (hi.get hs (fun t ht => looksAt_op (by simp [Op.operands, ht])) hG)
    obtain ⟨h0, h1⟩ := hb2 hG
    obtain ⟨b0, b1, b2⟩ := hb hG
    cases ad with
    | none => obtain ⟨rfl, _⟩ := hl; simp at b2; omega
    | some ad =>
      obtain ⟨blk, off, sp⟩ := ad
      obtain rfl : sp = none := hl.1
      obtain ⟨ti, hti, hsize⟩ := Option.map_eq_some_iff.1 hE.size
      have hsz : (sizeOf E).run P w = .ok (Rep.sz α) w := by simp [sizeOf, typeInfo, hti, hsize, go_sem]
      have hun : (underlying T).run P w = .ok (.slice E) w := by simp [underlying, show P.underlying T = _ from hT, go_sem]
      refine Does.value (v := ptr blk (off + (i0 + j).toNat * Rep.sz α)) (w' := w) ?_ ⟨Keeps.refl _ _, rep_raw.2 ⟨by simp [elemPtr], rfl, rfl⟩⟩
      have hv2 : partV (.slice (some ⟨blk, off, none⟩) l.length cap) i0 j0 (Rep.sz α) = .slice (some ⟨blk, off + i0.toNat * Rep.sz α, none⟩) (j0.toNat - i0.toNat) (cap - i0.toNat) ∨ i0.toNat = cap := by
        simp only [partV, sliced]
        by_cases c : i0.toNat = cap
        · exact .inr c
        · left
          have c' : ¬ cap = i0.toNat := fun e => c e.symm
          simp [c', Addr.add]
      rcases hv2 with hv2 | hc
      · rw [hv2] at hv
        have e : off + i0.toNat * Rep.sz α + j.toNat * Rep.sz α = off + (i0 + j).toNat * Rep.sz α := by
          rw [show (i0 + j).toNat = i0.toNat + j.toNat by omega, Nat.add_mul]; omega
        simp only [execOp, hv, hiv, Instr.indexAt, asIntOf, Sem.run_bind, hun, Result.andThen, Sem.run_pure]
        rw [if_pos ⟨h0, by omega⟩]
        simp only [Sem.run_bind, hsz, Result.andThen, Sem.run_pure, add_none, ptr, e]
      · have hcap2 : l.length ≤ cap := hcap
        omega
end
end Go.DB
