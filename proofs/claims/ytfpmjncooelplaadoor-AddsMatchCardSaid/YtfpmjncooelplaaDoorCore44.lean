/-
  Results in pairs whose first part owns memory.
-/
import Derived.Test.YtfpmjncooelplaaDoorCore43
set_option linter.unusedSimpArgs false
set_option linter.unusedVariables false
namespace Go.DB
open Go Go.RowKit

/-- A pair whose first part owns memory. -/
def tupC (C : CPred) : CPred where
  p := fun M D v w => ∃ a b, v = .tuple #[a, b] ∧ C.p M D a w
  inM := fun M D v w ⟨a, b, _, h⟩ => C.inM M D a w h
  law := fun M M' D v w w' hk hm hD ⟨a, b, e, h⟩ => ⟨a, b, e, C.law M M' D a w w' hk hm hD h⟩

section
variable {P : Program} {ops : Array Oper} {fs : Nat} {L : Slots} {B : Owns} {ty : TypeId} {pos : String} {after : Array Edge} {g : Option (Nat × Bool)}

theorem StepOK.passTupM {d k : Nat} {x : Operand} {C : CPred} {S : SPred} (hd : Nat.blt d fs = true) (hS : Opd L True x S) (hx : RowArg L B x k C) : StepOK P ops fs ⟨some d, .move x, ty, pos, after, none⟩ L B ([k], [d, k]) ⟨True, S⟩ [(d, some C), (k, none)] := by
  refine .doing fun M D a w hsz hm hs hsB => ?_
  have hv := hS.get hs (fun t ht => looksAt_op (by simp [Op.operands, ht])) trivial
  obtain ⟨hC, C0, hl⟩ := hx.get hs (fun t ht => looksAt_op (by simp [Op.operands, ht])) hsB (by simp)
  refine Does.value (v := a.eval x) (w' := w) rfl (.pass M (D k) hl (Keeps.refl _ _) (fun _ h => h) (fun _ h => .inl h) hm ⟨fun _ => hv, fun hf => (hf trivial).elim⟩ ?_ (fun j h => .inl h))
  rw [val_self (by rw [hsz]; exact Nat.le_of_ble_eq_true hd)]
  exact hC
/-- The first part goes into a slot of its own. -/
theorem StepOK.extractC {d k : Nat} {x : Operand} {C : CPred} (hd : Nat.blt d fs = true) (hx : RowArg L B x k (tupC C)) : StepOK P ops fs ⟨some d, .extract x 0, ty, pos, after, none⟩ L B ([k], [d, k]) ⟨True, anyV⟩ [(d, some C), (k, none)] := by
  refine .doing fun M D a w hsz hm hs hsB => ?_
  obtain ⟨⟨u, v, he, hC⟩, C0, hl⟩ := hx.get hs (fun t ht => looksAt_op (by simp [Op.operands, ht])) hsB (by simp)
  refine Does.value (v := u) (w' := w) (ex_extract (vs := #[u, v]) he rfl) (.pass M (D k) hl (Keeps.refl _ _) (fun _ h => h) (fun _ h => .inl h) hm ⟨fun _ => trivial, fun hf => (hf trivial).elim⟩ ?_ (fun j h => .inl h))
  rw [val_self (by rw [hsz]; exact Nat.le_of_ble_eq_true hd)]
  exact hC
end

theorem Ends.ret2T {P : Program} {fn : Func} {n : Nat} {F : Fr} {L : Slots} {B : Owns} {e : Exit} (he : e = .ret ∨ e = .normal) {k : Nat} {r2 : ResultVar} {S2 : SPred} {C : CPred} (hr : fn.results = #[.tmp k, r2]) (hB : lookB B k = some C)
    (h1 : ResOK P L B (.tmp k) anyV) (h2 : ResOK P L B r2 S2) : Ends (bodyPost P fn (PostO F (tup [anyV, S2]) [] [some (tupC C)])) e n F L B := by
  rintro a w ⟨M, D, hs⟩
  obtain ⟨v1, h1, h1', hv1⟩ := h1.get hs
  obtain ⟨v2, h2, h2', _⟩ := h2.get hs
  have e1 : v1 = Act.val a k := hv1 k rfl
  have hK := hs.hasB k _ hB
  rw [← e1] at hK
  have : a.defers = [] ∧ ∃ v, (results fn a.tmps).run P w = .ok v w ∧ PostO F (tup [anyV, S2]) [] [some (tupC C)] (.returned v) w := by
    refine ⟨hs.defers, _, results_two hr h1 h2, .tuple #[v1, v2], M, fun _ => D k, rfl, hs.keeps, hs.mlow, hs.mhigh, hs.msub, ⟨[v1, v2], rfl, rfl, fun i S u hi hu => ?_⟩, fun i c hc => ?_, fun i j c c' hi hj hne => ?_⟩
    · match i with
      | 0 => simp at hi hu; subst hi hu; exact h1'
      | 1 => simp at hi hu; subst hi hu; exact h2'
      | i + 2 => simp at hi
    · match i, hc with
      | 0, hc =>
        simp only [List.getElem?_cons_zero, Option.some.injEq] at hc
        subst hc
        exact ⟨⟨v1, v2, rfl, hK⟩, hs.own k _ hB⟩
    · match i, j, hi, hj with
      | 0, 0, _, _ => omega
  rcases he with rfl | rfl <;> exact this

theorem FSpecO.frzT {P : Program} {f T : Nat} {Ss : List SPred} {α : Type} [Rep α] {l : List α} {S : SPred} (h : FSpecO P f Ss [] (tup [anyV, S]) [some (tupC (rowV T l))]) : FSpec P f Ss (tup [rep l, S]) :=
  ⟨h.ok, fun M w vs hM ha => Calls.mono (h.calls M (fun _ => NoM) w vs hM ha ⟨fun i s c h => by simp at h, fun i j x y h => by simp at h⟩) fun e w' ⟨v, M', D', he, hk, hml, hmh, hms, hS, hO, _⟩ => by
    have no : ∀ k, ¬ DU (fun _ => NoM) ([] : Given).length k := fun k ⟨i, hi, _⟩ => by simp at hi
    obtain ⟨⟨a, b, hv, h1⟩, h2⟩ := hO 0 _ rfl
    have hv' : v = .tuple #[a, b] := hv
    subst hv'
    have h3 := rowV_rep M' (D' 0) w' _ h1 hms
    obtain ⟨vs2, hv2, hl2, hall⟩ := hS
    refine ⟨⟨hk.os, hk.tape, hk.output, hk.size, fun k hlt _ => hk.block k hlt (no k)⟩, .tuple #[a, b], he, [a, b], rfl, rfl, fun i S' u hi hu => ?_⟩
    match i with
    | 0 =>
      simp at hi hu; subst hi hu
      refine (rep l).law _ M _ w' w' (Keeps.refl _ _) (fun k hk2 => .inl ⟨(hml k hk2).resolve_right (no k), fun hd => ?_⟩) h3
      rcases h2 k hd with h4 | h4
      · exact no k h4
      · have := hM k hk2; simp only at h4; omega
    | 1 =>
      simp at hi hu; subst hi hu
      have e2 : vs2 = [a, b] := by
        have h5 : (#[a, b] : Array Value) = vs2.toArray := by injection hv2
        have h6 := congrArg Array.toList h5
        simpa using h6.symm
      refine S.law M' M _ w' w' (Keeps.refl _ _) (fun k hk2 => .inl ((hml k hk2).resolve_right (no k))) (hall 1 S b rfl (by rw [e2]; rfl))
    | i + 2 => simp at hi⟩

section
variable {P : Program} {ops : Array Oper} {fs : Nat} {L : Slots} {B : Owns} {d : Option Tmp} {ty : TypeId} {pos : String} {after : Array Edge} {g : Option (Nat × Bool)} {G : Prop}
variable {K V : Type} [Rep K] [DecidableEq K] [MKey K] [Rep V] {m : GMap K V} {k : K} {z : V} {T kt et : TypeId}
/-- A look at a map of one's own under a guard. -/
theorem StepOK.lookupG {x y : Operand} {q : Nat} {s : Value} (hg : Guard ops g L G) (hT : MapOf P T kt et (MKey.desc K)) (hz : ZeroOf P et z) {C : CPred} (hC : OwnMap C m) (hx : Opd L G x (isV s)) (hl : lookB B q = some (CPred.at s C)) (hy : Opd L G y (rep k)) :
    StepOK P ops fs ⟨d, .lookup T x y false, ty, pos, after, g⟩ L B ([q], []) ⟨G, rep (m.getD k z)⟩ [] :=
  .of hg fun M D a w hm hs hsB hG => by
    have hv0 := (rep_raw.1 (hx.get hs (fun t ht => looksAt_op (by simp [Op.operands, ht])) hG)).1
    have hcc : C.p M (D q) (a.eval x) w := by rw [hv0]; exact hsB.has q (by simp) _ hl
    obtain ⟨b, es, clock, l, hv, hD, hM, hh, hi⟩ := hC _ _ _ _ hcc
    have h2 := hy.get hs (fun t ht => looksAt_op (by simp [Op.operands, ht])) hG
    obtain ⟨u, hu, hr⟩ := run_lookupAt hT hz h2 hh hi false
    refine Does.value (v := u) (w' := w) ?_ ⟨Keeps.refl _ _, hu⟩
    simp only [execOp, hv]; rw [Sem.run_bind, hr]; rfl
end
end Go.DB
