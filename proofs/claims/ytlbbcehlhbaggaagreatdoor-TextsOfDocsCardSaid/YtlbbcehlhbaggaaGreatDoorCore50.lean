/-
  Errors, of which only is told whether there is one.
-/
import Derived.Test.YtlbbcehlhbaggaaGreatDoorCore49
set_option linter.unusedSimpArgs false
set_option linter.unusedVariables false
namespace Go.DB
open Go Go.RowKit

/-- Whether there is an error. -/
structure ErrB where
  is : Bool
deriving Inhabited, DecidableEq
instance : Rep ErrB where
  sz := 1
  agg := false
  cells := fun _ x cs _ => (x.is = false ∧ cs = [.nilIface]) ∨ (x.is = true ∧ ∃ tp pe, cs = [.iface tp pe])
  len := fun h => by rcases h with ⟨_, rfl⟩ | ⟨_, _, _, rfl⟩ <;> rfl
  pos := by decide
  flat := fun h => by rcases h with ⟨_, rfl⟩ | ⟨_, _, _, rfl⟩ <;> rfl
  plain := fun h c hc => by
    rcases h with ⟨_, rfl⟩ | ⟨_, _, _, rfl⟩
    · simp at hc; rw [hc]; rfl
    · simp at hc; rw [hc]; rfl
  law := fun _ _ h => h
theorem rep_err {x : ErrB} {M : MSet} {v : Value} {w : World} : (rep x).p M v w ↔ (x.is = false ∧ v = .nilIface) ∨ (x.is = true ∧ ∃ tp pe, v = .iface tp pe) := by
  constructor
  · rintro ⟨cs, ⟨h, rfl⟩ | ⟨h, tp, pe, rfl⟩, rfl⟩
    · exact .inl ⟨h, rfl⟩
    · exact .inr ⟨h, tp, pe, rfl⟩
  · rintro (⟨h, rfl⟩ | ⟨h, tp, pe, rfl⟩)
    · exact ⟨_, .inl ⟨h, rfl⟩, rfl⟩
    · exact ⟨_, .inr ⟨h, tp, pe, rfl⟩, rfl⟩
section
variable {P : Program} {ops : Array Oper} {fs : Nat} {L : Slots} {B : Owns} {ty : TypeId} {pos : String} {after : Array Edge} {g : Option (Nat × Bool)} {d : Option Tmp} {G : Prop} {xr : List Nat} {T T' : TypeId} {ms : Array (String × TypeId)}
theorem run_eqErr {x : ErrB} {v : Value} {M : MSet} {w : World} {p : Operand} {b : Bool} (hT : P.underlying T = some (.interface ms)) (hv : (rep x).p M v w) :
    (do eqGuard (if b then .eql else .neq) T p (.const .nilIface) v .nilIface; binOp (if b then .eql else .neq) T v .nilIface : Sem Value).run P w = .ok (.bool (if b then !x.is else x.is)) w := by
  have hun : (underlying T).run P w = .ok (.interface ms) w := by simp [underlying, hT, go_sem]
  rcases rep_err.1 hv with ⟨h, rfl⟩ | ⟨h, tp, pe, rfl⟩
  · have h1 : (Op.equal T .nilIface .nilIface).run P w = .ok true w := by
      unfold Op.equal Op.maxDepth Op.equalIn
      rw [Sem.run_bind, hun]
      rfl
    cases b
    · simp only [Bool.false_eq_true, if_false]
      rw [Sem.run_bind, show (eqGuard .neq T p (.const .nilIface) .nilIface .nilIface).run P w = .ok () w from by cases p <;> rfl]
      simp only [Result.andThen, binOp]
      rw [h]
      show ((do return Value.bool !(← Op.equal T .nilIface .nilIface)) : Sem Value).run P w = _
      rw [Sem.run_bind, h1]; rfl
    · simp only [if_true]
      rw [Sem.run_bind, show (eqGuard .eql T p (.const .nilIface) .nilIface .nilIface).run P w = .ok () w from by cases p <;> rfl]
      simp only [Result.andThen, binOp]
      rw [h]
      show ((do return Value.bool (← Op.equal T .nilIface .nilIface)) : Sem Value).run P w = _
      rw [Sem.run_bind, h1]; rfl
  · have h1 : (Op.equal T (.iface tp pe) .nilIface).run P w = .ok false w := by
      unfold Op.equal Op.maxDepth Op.equalIn
      rw [Sem.run_bind, hun]
      rfl
    cases b
    · simp only [Bool.false_eq_true, if_false]
      rw [Sem.run_bind, show (eqGuard .neq T p (.const .nilIface) (.iface tp pe) .nilIface).run P w = .ok () w from rfl]
      simp only [Result.andThen, binOp]
      rw [h]
      show ((do return Value.bool !(← Op.equal T (.iface tp pe) .nilIface)) : Sem Value).run P w = _
      rw [Sem.run_bind, h1]; rfl
    · simp only [if_true]
      rw [Sem.run_bind, show (eqGuard .eql T p (.const .nilIface) (.iface tp pe) .nilIface).run P w = .ok () w from rfl]
      simp only [Result.andThen, binOp]
      rw [h]
      show ((do return Value.bool (← Op.equal T (.iface tp pe) .nilIface)) : Sem Value).run P w = _
      rw [Sem.run_bind, h1]; rfl
theorem ex_eqErr {ρ : Operand → Value} {x : Operand} {e : ErrB} {v : Value} {M : MSet} {w : World} (b : Bool) (hT : P.underlying T = some (.interface ms)) (hv : (rep e).p M v w) (hx : ρ x = v) (hy : ρ (.const .nilIface) = .nilIface) :
    (execOp ρ ⟨d, .binOp (if b then .eql else .neq) T x (.const .nilIface) T', ty, pos, after, g⟩).run P w = .ok (.value (.bool (if b then !e.is else e.is))) w := by
  simp only [execOp, hx, hy]
  rw [Sem.run_bind, run_eqErr hT hv]; rfl
theorem StepOK.eqErr {x : Operand} {e : ErrB} (hg : Guard ops g L G) (hT : P.underlying T = some (.interface ms)) (hx : Opd L G x (rep e)) :
    StepOK P ops fs ⟨d, .binOp .eql T x (.const .nilIface) T', ty, pos, after, g⟩ L B (xr, []) ⟨G, rep (!e.is)⟩ [] :=
  .pure hg fun M a w _ hs hG => ⟨.bool (!e.is), ex_eqErr true hT (hx.get hs (fun t ht => looksAt_op (by simp [Op.operands, ht])) hG) rfl rfl, rep_bool.2 rfl⟩
end
end Go.DB
