/-
  Calls of functions that are values, while memory is lent to them.
-/
import Derived.Test.YtieepiblancbpaaCore39
set_option linter.unusedVariables false
set_option linter.unusedSimpArgs false
namespace Go.DB
open Go Go.RowKit
section
variable {P : Program} {ops : Array Oper} {fs : Nat} {L : Slots} {B : Owns} {G : Prop}
variable {ty : TypeId} {pos : String} {after : Array Edge} {g : Option (Nat × Bool)} {xr : List Nat}

/-- As callOL, of a function that lies in a variable. -/
theorem StepOK.callOLC {d : Option Nat} {f t : Nat} {xs : Array Operand} {ts : Array TypeId} {Ss : List SPred} {Os : Given} {S : SPred} {outs : List (Option CPred)} {W : Nat × Option CPred} {Ws : Writes} {xk kl : List Nat} (ks : List Nat) (hf : Opd L True (.tmp t) (cloV f [])) (hspec : FSpecO P f Ss Os S outs)
    (hS : FlatS S) (hO : ∀ c, some c ∈ outs → FlatC c) (hx : OpdB4 L B True xs.toList Ss kl) (hH : Holds B ks Os) (hW : outW (Os.map (·.1)) ks d outs = W :: Ws) (hnd : (ks ++ d.toList).Nodup) (hxk : ∀ k ∈ ks, k ∈ xk) (hd : ∀ d', d = some d' → d' < fs)
    (hkl : ∀ k ∈ kl, k ∉ ks) (hkB : ∀ k ∈ kl, (lookB B k).isSome = true) :
    StepOK P ops fs ⟨d, .call { callee := .value (.tmp t), args := xs, argTypes := ts }, ty, pos, after, none⟩ L B (ks ++ kl, xk) ⟨True, S⟩ (W :: Ws) :=
  .doing fun M D a w hsz hm hs hsB => by
    let M' : MSet := fun j => M j ∧ ∀ k ∈ kl, ¬ D k j
    obtain ⟨caps, hfv, hc0⟩ := hf.get hs (fun t' ht => looksAt_op (by cases ht; simp [Op.operands, Call.operands])) trivial
    obtain rfl : caps = [] := by
      cases caps with
      | nil => rfl
      | cons c cs => exact hc0.elim
    have hr : (execOp a.eval ⟨d, .call { callee := .value (.tmp t), args := xs, argTypes := ts }, ty, pos, after, none⟩).run P w = .ok (.enter f (xs.toList.map a.eval).toArray) w := by
      rw [show (xs.toList.map a.eval).toArray = xs.map a.eval ++ #[] by rw [Array.append_empty, ← List.map_toArray]]
      exact ex_callV hspec.ok hfv
    have hin : ∀ k, k ∈ ks ++ kl → k ∈ (ks ++ kl) ++ xk := fun k hk => List.mem_append_left _ hk
    have ha := hx.get hs (fun x hxm t ht => looksAt_op (call_ops (by subst ht; simpa using hxm))) hsB (fun k h => hin k (List.mem_append_right _ h)) trivial hm M' (fun k h => h.1) (fun k hk j hd h => h.2 k hk hd)
    have hnd' : ks.Nodup := (List.nodup_append.1 hnd).1
    have hown := OwnL.of hH hnd' hsB (fun k hk => hin k (List.mem_append_left _ hk))
    have hown' : OwnL M' (fun i => D ((ks[i]?).getD 0)) w Os := by
      refine ⟨fun i s c h => ?_, hown.apart⟩
      have hC := hown.has i s c h
      obtain ⟨k, hk, hl⟩ := hH.at i s c h
      refine c.law M M' _ s w w (Keeps.refl _ _) (fun j h => .inl h.1) (fun j hj => ⟨⟨c.inM _ _ _ _ hC j hj, fun k2 hk2 h2 => ?_⟩, rfl⟩) hC
      simp only [hk, Option.getD_some] at hj
      have hne : k ≠ k2 := fun e => hkl k2 hk2 (e ▸ List.mem_of_getElem? hk)
      obtain ⟨c2, hl2⟩ := Option.isSome_iff_exists.1 (hkB k2 hk2)
      exact hsB.apart k (hin k (List.mem_append_left _ (List.mem_of_getElem? hk))) k2 (hin k2 (List.mem_append_right _ hk2)) _ _ hl hl2 hne j hj h2
    refine Does.enterO hr (hspec.calls M' _ w _ (hm.less fun k h => h.1) ha hown') fun e w' he => ?_
    obtain ⟨v, M1, D1, rfl, hk, hml, hmh, hms, hSv, hC, hA⟩ := he
    refine ⟨v, rfl, .call hH hW hxk hnd (fun d' h => by rw [hsz]; exact hd d' h) ⟨v, fun j => M1 j ∨ (M j ∧ ∃ k ∈ kl, D k j), D1, rfl, hk, fun j hj => ?_, fun j hj => ?_, fun j hj => ?_, hS _ _ _ _ hSv, fun i c hc => ?_, hA⟩⟩
    · by_cases hl : ∃ k ∈ kl, D k j
      · exact .inl (.inr ⟨hj, hl⟩)
      · exact (hml j ⟨hj, fun k hk h => hl ⟨k, hk, h⟩⟩).imp .inl id
    · rcases hj with hj | hj
      · exact (hmh j hj).imp (fun h => h.1) id
      · exact .inl hj.1
    · rcases hj with hj | hj
      · exact hms j hj
      · exact Nat.lt_of_lt_of_le (hm j hj.1) hk.size
    · obtain ⟨h1, h2⟩ := hC i c hc
      exact ⟨hO c (List.mem_of_getElem? hc) _ _ _ _ _ (fun k h => .inl h) h1, h2⟩
/-- The length of a named row, under a guard. -/
theorem StepOK.lenG {d : Option Nat} {x : Operand} {T E T' k : Nat} {s : Value} {α : Type} [Rep α] {l : List α} (hg : Guard ops g L G) (hT : SliceOf P T E) (hx : Opd L G x (isV s)) (hl : lookB B k = some (CPred.at s (rowV T' l))) :
    StepOK P ops fs ⟨d, .call { callee := .builtin .len, args := #[x], argTypes := #[T] }, ty, pos, after, g⟩ L B ([k], []) ⟨G, rep (l.length : Int)⟩ [] :=
  .of hg fun M D a w _ hs hsB hG => by
    have hv := (rep_raw.1 (hx.get hs (fun t ht => looksAt_op (call_ops (by simp [ht]))) hG)).1
    obtain ⟨ad, cap, rfl, h1, h2, _⟩ := hsB.has k (by simp) _ hl
    exact Does.value (ex_len hT hv) ⟨Keeps.refl _ _, rep_int.2 ⟨rfl, by unfold InI; omega⟩⟩
end
end Go.DB
