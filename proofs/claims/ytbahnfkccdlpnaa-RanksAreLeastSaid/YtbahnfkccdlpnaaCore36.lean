/-
  Results that are nil exactly when they are empty.
-/
import Derived.Test.YtbahnfkccdlpnaaCore35
set_option linter.unusedVariables false
set_option linter.unusedSimpArgs false
namespace Go.DB
open Go Go.RowKit

/-- A list that is nil when it is empty. -/
def repN {α : Type} [Rep α] (l : List α) : SPred where
  p := fun M v w => (rep l).p M v w ∧ (l = [] → v = .slice none 0 0)
  law := fun M M' v w w' k hm h => ⟨(rep l).law M M' v w w' k hm h.1, h.2⟩
theorem Imp.toN {α : Type} [Rep α] {l : List α} (h : l ≠ []) : Imp (rep l) (repN l) := fun _ _ _ hp => ⟨hp, fun e => absurd e h⟩
theorem Imp.unN {α : Type} [Rep α] {l : List α} : Imp (repN l) (rep l) := fun _ _ _ hp => hp.1
section
variable {P : Program} {ops : Array Oper} {fs : Nat} {L : Slots} {B : Owns} {G : Prop}
variable {d : Option Tmp} {ty : TypeId} {pos : String} {after : Array Edge} {g : Option (Nat × Bool)} {xr : List Nat}
variable {T T' E : TypeId} {x : Operand} {α : Type} [Rep α] {l : List α}
theorem Opd.nilN : Opd L G (.const (.slice none 0 0)) (repN ([] : List α)) := fun _ _ => ⟨⟨_, ⟨none, 0, rfl, Nat.le_refl _, by decide, rfl⟩, rfl⟩, fun _ => rfl⟩
theorem StepOK.moveW (hg : Guard ops g L G) (hx : Opd L G x (repN l)) : StepOK P ops fs ⟨d, .move x, ty, pos, after, g⟩ L B (xr, []) ⟨G, rep l⟩ [] :=
  .pure hg fun M a w _ hs hG => ⟨a.eval x, rfl, (hx.get hs (fun t ht => looksAt_op (by simp [Op.operands, ht])) hG).1⟩
theorem StepOK.assignW (hg : Guard ops g L G) (hx : Opd L G x (repN l)) : StepOK P ops fs ⟨d, .assign x, ty, pos, after, g⟩ L B (xr, []) ⟨G, rep l⟩ [] :=
  .pure hg fun M a w _ hs hG => ⟨a.eval x, rfl, (hx.get hs (fun t ht => looksAt_op (by simp [Op.operands, ht])) hG).1⟩
/-- A literal nil is told as a list that is nil when it is empty. -/
theorem StepOK.eqNilX (hg : Guard ops g L G) (hT : SliceOf P T E) (hx : Opd L G x (repN l)) :
    StepOK P ops fs ⟨d, .binOp .eql T x (.const (.slice none 0 0)) T', ty, pos, after, g⟩ L B (xr, []) ⟨G, rep l.isEmpty⟩ [] :=
  .pure hg fun M a w _ hs hG => by
    obtain ⟨hr, hn⟩ := hx.get hs (fun t ht => looksAt_op (by simp [Op.operands, ht])) hG
    obtain ⟨ad, cap, hv, _, _, hl⟩ := rep_list.1 hr
    refine ⟨.bool ad.isNone, ex_eqNil hT hv rfl, rep_bool.2 ?_⟩
    cases l with
    | nil =>
      have := hn rfl
      rw [hv] at this
      injection this with h1
      subst h1; rfl
    | cons y l =>
      cases ad with
      | none => cases hl
      | some ad => rfl
end
end Go.DB
