/-
  Rows of rows of one's own grow.
-/
import Derived.Test.YtieepiblancbpaaCore38
set_option linter.unusedVariables false
set_option linter.unusedSimpArgs false
namespace Go.DB
open Go Go.RowKit
section
variable {P : Program} {ops : Array Oper} {fs : Nat} {L : Slots} {B : Owns} {ty : TypeId} {pos : String} {after : Array Edge}

/-- The same, where what is handed out is written no more. -/
theorem StepOK.callCLZ {d : Option Nat} {f t : Nat} {xs : Array Operand} {ts : Array TypeId} {Ss Cs Cs' : List SPred} {R : CPred} {ks : List Nat} {α : Type} [Rep α] {l : α} (hx : Opd L True (.tmp t) (cloV f Cs)) (hf : FnOK P f) (hc : CapsTo B Cs Cs' ks) (hspec : FSpecO P f (Ss ++ Cs') [] anyV [some R]) (hR : FlatC R) (hF : FrzC R l) (ha : OpdL L True xs.toList Ss) :
    StepOK P ops fs ⟨d, .call { callee := .value (.tmp t), args := xs, argTypes := ts }, ty, pos, after, none⟩ L B (ks, []) ⟨True, rep l⟩ [] :=
  .of .none fun M D a w hm hs hsB hG => by
    let M' : MSet := fun j => M j ∧ ∀ k ∈ ks, ¬ D k j
    have ha := ha.get hs (fun x hxm t ht => looksAt_op (call_ops (by subst ht; simpa using hxm))) trivial
    obtain ⟨caps, hfv, hcc⟩ := hx.get hs (fun t' ht => looksAt_op (by cases ht; simp [Op.operands, Call.operands])) trivial
    have hc' := hc.get hsB (fun k h => h) hm M' (fun k h => h.1) (fun k hk j hd h => h.2 k hk hd) caps hcc
    have ha' := All2.law (M' := M') (Keeps.refl M w) (fun k h => .inl h.1) _ _ ha
    have hr : (execOp a.eval ⟨d, .call { callee := .value (.tmp t), args := xs, argTypes := ts }, ty, pos, after, none⟩).run P w = .ok (.enter f (xs.toList.map a.eval ++ caps).toArray) w := by
      rw [show (xs.toList.map a.eval ++ caps).toArray = xs.map a.eval ++ caps.toArray by simp]
      exact ex_callV hf hfv
    have hgive := hspec.calls M' (fun _ => NoM) w _ (hm.less fun k h => h.1) (All2.append _ _ _ _ ha' hc') ⟨fun i s c h => by simp at h, fun i j x y h => by simp at h⟩
    refine Does.enterO hr hgive fun e w' he => ?_
    obtain ⟨v, M1, D1, rfl, hk, hml, hmh, hms, hSv, hC, hA⟩ := he
    have hout := hC 0 R rfl
    have hnew : ∀ j, D1 0 j → w.heap.size ≤ j := fun j h => by
      rcases hout.2 j h with h' | h'
      · obtain ⟨i, hi, _⟩ := h'; exact absurd hi (by simp)
      · exact h'
    refine ⟨v, rfl, hk.mono fun k _ h => by obtain ⟨i, hi, _⟩ := h; exact absurd hi (by simp), ?_⟩
    have h1 : R.p (fun j => M1 j ∨ M j) (D1 0) v w' := hR _ _ _ _ _ (fun k h => .inl h) (by simpa using hout.1)
    have h2 := hF _ _ _ _ h1 (fun j h => h.elim (hms j) (fun h => Nat.lt_of_lt_of_le (hm j h) hk.size))
    exact rep_less h2 (fun j h => ⟨.inr h, fun hd => by have := hnew j hd; have := hm j h; omega⟩)
end
end Go.DB
