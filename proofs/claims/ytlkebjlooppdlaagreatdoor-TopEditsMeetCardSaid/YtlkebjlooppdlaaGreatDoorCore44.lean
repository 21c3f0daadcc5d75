/-
  Results in pairs whose first part owns memory.
-/
import Derived.Test.YtlkebjlooppdlaaGreatDoorCore43
set_option linter.unusedSimpArgs false
set_option linter.unusedVariables false
namespace Go.DB
open Go Go.RowKit

/-- A pair whose first part owns memory. -/
def tupC (C : CPred) : CPred where
  p := fun M D v w => ∃ a b, v = .tuple #[a, b] ∧ C.p M D a w
  inM := fun M D v w ⟨a, b, _, h⟩ => C.inM M D a w h
  law := fun M M' D v w w' hk hm hD ⟨a, b, e, h⟩ => ⟨a, b, e, C.law M M' D a w w' hk hm hD h⟩

section
variable {P : Program} {ops : Array Oper} {fs : Nat} {L : Slots} {B : Owns} {ty : TypeId} {pos : String} {after : Array Edge} {g : Option (Nat × Bool)}

theorem StepOK.passTupM {d k : Nat} {x : Operand} {C : CPred} {S : SPred} (hd : Nat.blt d fs = true) (hS : Opd L True x S) (hx : RowArg L B x k C) : StepOK P ops fs ⟨some d, .move x, ty, pos, after, none⟩ L B ([k], [d, k]) ⟨True, S⟩ [(d, some C), (k, none)] := by
  refine .doing fun M D a w hsz hm hs hsB => ?_
  have hv := hS.get hs (fun t ht => looksAt_op (by simp [Op.operands, ht])) trivial
  obtain ⟨hC, C0, hl⟩ := hx.get hs (fun t ht => looksAt_op (by simp [Op.operands, ht])) hsB (by simp)
  refine Does.value (v := a.eval x) (w' := w) rfl (.pass M (D k) hl (Keeps.refl _ _) (fun _ h => h) (fun _ h => .inl h) hm ⟨fun _ => hv, fun hf => (hf trivial).elim⟩ ?_ (fun j h => .inl h))
  rw [val_self (by rw [hsz]; exact Nat.le_of_ble_eq_true hd)]
  exact hC
/-- The first part goes into a slot of its own. -/
theorem StepOK.extractC {d k : Nat} {x : Operand} {C : CPred} (hd : Nat.blt d fs = true) (hx : RowArg L B x k (tupC C)) : StepOK P ops fs ⟨some d, .extract x 0, ty, pos, after, none⟩ L B ([k], [d, k]) ⟨True, anyV⟩ [(d, some C), (k, none)] := by
  refine .doing fun M D a w hsz hm hs hsB => ?_
  obtain ⟨⟨u, v, he, hC⟩, C0, hl⟩ := hx.get hs (fun t ht => looksAt_op (by simp [Op.operands, ht])) hsB (by simp)
  refine Does.value (v := u) (w' := w) (ex_extract (vs := #[u, v]) he rfl) (.pass M (D k) hl (Keeps.refl _ _) (fun _ h => h) (fun _ h => .inl h) hm ⟨fun _ => trivial, fun hf => (hf trivial).elim⟩ ?_ (fun j h => .inl h))
  rw [val_self (by rw [hsz]; exact Nat.le_of_ble_eq_true hd)]
  exact hC
end

theorem Ends.ret2T {P : Program} {fn : Func} {n : Nat} {F : Fr} {L : Slots} {B : Owns} {e : Exit} (he : e = .ret ∨ e = .normal) {k : Nat} {r2 : ResultVar} {S2 : SPred} {C : CPred} (hr : fn.results = #[.tmp k, r2]) (hB : lookB B k = some C)
    (h1 : ResOK P L B (.tmp k) anyV) (h2 : ResOK P L B r2 S2) : Ends (bodyPost P fn (PostO F (tup [anyV, S2]) [] [some (tupC C)])) e n F L B := by
  rintro a w ⟨M, D, hs⟩
  obtain ⟨v1, h1, h1', hv1⟩ := h1.get hs
  obtain ⟨v2, h2, h2', _⟩ := h2.get hs
  have e1 : v1 = Act.val a k := hv1 k rfl
  have hK := hs.hasB k _ hB
  rw [← e1] at hK
  have : a.defers = [] ∧ ∃ v, (results fn a.tmps).run P w = .ok v w ∧ PostO F (tup [anyV, S2]) [] [some (tupC C)] (.returned v) w := by
    refine ⟨hs.defers, _, results_two hr h1 h2, .tuple #[v1, v2], M, fun _ => D k, rfl, hs.keeps, hs.mlow, hs.mhigh, hs.msub, ⟨[v1, v2], rfl, rfl, fun i S u hi hu => ?_⟩, fun i c hc => ?_, fun i j c c' hi hj hne => ?_⟩
    · match i with
      | 0 => simp at hi hu; subst hi hu; exact h1'
      | 1 => simp at hi hu; subst hi hu; exact h2'
      | i + 2 => simp at hi
    · match i, hc with
      | 0, hc =>
        simp only [List.getElem?_cons_zero, Option.some.injEq] at hc
        subst hc
        exact ⟨⟨v1, v2, rfl, hK⟩, hs.own k _ hB⟩
    · match i, j, hi, hj with
      | 0, 0, _, _ => omega
  rcases he with rfl | rfl <;> exact this

section
variable {P : Program} {ops : Array Oper} {fs : Nat} {L : Slots} {B : Owns} {d : Option Tmp} {ty : TypeId} {pos : String} {after : Array Edge} {g : Option (Nat × Bool)} {G : Prop}
variable {K V : Type} [Rep K] [DecidableEq K] [MKey K] [Rep V] {m : GMap K V} {k : K} {z : V} {T kt et : TypeId}
end
end Go.DB
