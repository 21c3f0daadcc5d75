/-
  Arrays in place, looked into at any index; arrays of arrays.
-/
import Derived.Test.YtbahnfkccdlpnaaCore34
set_option linter.unusedVariables false
set_option linter.unusedSimpArgs false
namespace Go.DB
open Go Go.RowKit

theorem HasField.arrD {n : Nat} {α : Type} [Rep α] [Inhabited α] {k : Int} (hk : 0 ≤ k ∧ k < (n + 1 : Nat)) : HasField (Arr n α) α (0 + k.toNat * Rep.sz α) (fun x => gx x.l k) := by
  obtain ⟨i, rfl⟩ : ∃ i : Nat, k = i := ⟨k.toNat, by omega⟩
  rw [Nat.zero_add]
  exact HasField.arr (i := i) (by omega)
theorem SetField.arrD {n : Nat} {α : Type} [Rep α] {k : Int} (hk : 0 ≤ k ∧ k < (n + 1 : Nat)) : SetField (Arr n α) α (0 + k.toNat * Rep.sz α) (fun x z => ⟨x.l.set k.toNat z⟩) := by
  rw [Nat.zero_add]
  exact SetField.arr (by omega)
theorem HasField.comp {α β γ : Type} [Rep α] [Rep β] [Rep γ] {o1 o2 : Nat} {p : α → β} {q : β → γ} (h : HasField α β o1 p) (h' : HasField β γ (0 + o2) q) : HasField α γ (o1 + o2) (fun x => q (p x)) := by
  rw [Nat.zero_add] at h'
  refine ⟨by have := h.1; have := h'.1; omega, fun M x cs w hc => ?_⟩
  obtain ⟨c1, hc1, hj1⟩ := h.2 M x cs w hc
  obtain ⟨c2, hc2, hj2⟩ := h'.2 M _ c1 w hc1
  refine ⟨c2, hc2, fun j hj => ?_⟩
  rw [hj2 j hj, hj1 (o2 + j) (by have := h'.1; omega), Nat.add_assoc]
theorem SetField.comp {α β γ : Type} [Rep α] [Rep β] [Rep γ] {o1 o2 : Nat} {p : α → β} {s : α → β → α} {q : β → γ → β} (h : HasField α β o1 p) (hs : SetField α β o1 s) (h' : SetField β γ (0 + o2) q) : SetField α γ (o1 + o2) (fun x z => s x (q (p x) z)) := by
  rw [Nat.zero_add] at h'
  refine ⟨by have := h.1; have := h'.1; omega, fun M x z cs zs w hc hz => ?_⟩
  obtain ⟨c1, hc1, hj1⟩ := h.2 M x cs w hc
  have l1 := Rep.len hc1
  have l0 := Rep.len hc
  have b1 := h.1
  have b2 := h'.1
  have e : c1 = (cs.drop o1).take (Rep.sz β) := by
    apply List.ext_getElem?
    intro j
    by_cases hj : j < Rep.sz β
    · rw [hj1 j hj, List.getElem?_take_of_lt hj, List.getElem?_drop]
    · rw [List.getElem?_eq_none (by omega), List.getElem?_eq_none (by simp; omega)]
  have := hs.2 M x (q (p x) z) cs _ w hc (h'.2 M _ z c1 zs w hc1 hz)
  have e2 : cs.take o1 ++ (c1.take o2 ++ zs ++ c1.drop (o2 + Rep.sz γ)) ++ cs.drop (o1 + Rep.sz β) = cs.take (o1 + o2) ++ zs ++ cs.drop (o1 + o2 + Rep.sz γ) := by
    rw [e]
    have t1 : ((cs.drop o1).take (Rep.sz β)).take o2 = (cs.drop o1).take o2 := by rw [List.take_take, Nat.min_eq_left (by omega)]
    have t2 : cs.take (o1 + o2) = cs.take o1 ++ (cs.drop o1).take o2 := List.take_add
    have t3 : ((cs.drop o1).take (Rep.sz β)).drop (o2 + Rep.sz γ) ++ cs.drop (o1 + Rep.sz β) = cs.drop (o1 + o2 + Rep.sz γ) := by
      have : cs.drop (o1 + Rep.sz β) = (cs.drop o1).drop (Rep.sz β) := by rw [List.drop_drop]
      rw [this, ← List.drop_append_of_le_length (by simp; omega), List.take_append_drop, List.drop_drop]
      congr 1; omega
    rw [t1, t2]
    simp only [List.append_assoc]
    rw [t3]
  rw [e2] at this
  exact this

section
variable {P : Program} {ops : Array Oper} {fs : Nat} {L : Slots} {B : Owns} {G : Prop}
variable {d : Option Tmp} {ty : TypeId} {pos : String} {after : Array Edge} {g : Option (Nat × Bool)} {xr : List Nat}
theorem StepOK.indexPtrD {T n E m o : Nat} {x i : Operand} {α : Type} [Rep α] {k : Int} (hg : Guard ops g L G) (hT : ArrOf P T n E) (hE : Ty P E α)
    (hx : Opd L G x (isV (ptr m o))) (hi : Opd L G i (rep k)) (hb : G → 0 ≤ k ∧ k < (n + 1 : Nat)) :
    StepOK P ops fs ⟨d, .indexAddr T x i, ty, pos, after, g⟩ L B (xr, []) ⟨G, isV (ptr m (o + k.toNat * Rep.sz α))⟩ [] :=
  .pure hg fun M a w _ hs hG => by
    have hv : a.eval x = ptr m o := (rep_raw.1 (hx.get hs (fun t ht => looksAt_op (by simp [Op.operands, ht])) hG)).1
    obtain ⟨hk, _⟩ := rep_int.1 (hi.get hs (fun t ht => looksAt_op (by simp [Op.operands, ht])) hG)
    obtain ⟨h0, h1⟩ := hb hG
    obtain ⟨j, rfl⟩ : ∃ j : Nat, k = j := ⟨k.toNat, by omega⟩
    obtain ⟨ti, hti, hsize⟩ := Option.map_eq_some_iff.1 hE.size
    have hsz : (sizeOf E).run P w = .ok (Rep.sz α) w := by simp [sizeOf, typeInfo, hti, hsize, go_sem]
    have hun : (underlying T).run P w = .ok (.array (n + 1) E) w := by simp [underlying, show P.underlying T = _ from hT, go_sem]
    refine ⟨.pointer (some ⟨m, o + j * Rep.sz α, none⟩), ?_, isV_ptr⟩
    simp only [execOp, hv, hk, ptr, Instr.indexAt, Instr.sureAddr, asIntOf, Sem.run_bind, hun, Result.andThen, Sem.run_pure]
    rw [if_pos ⟨h0, h1⟩]
    simp only [Sem.run_bind, hsz, Result.andThen, Sem.run_pure, add_none]
    rfl
/-- A guarded call of a closure that only reads its memory. -/
theorem StepOK.callCL {f t : Nat} {xs : Array Operand} {ts : Array TypeId} {Ss Cs Cs' : List SPred} {S : SPred} {ks : List Nat} (hg : Guard ops g L G) (hx : Opd L G (.tmp t) (cloV f Cs)) (hf : FnOK P f) (hc : CapsTo B Cs Cs' ks) (hspec : G → FSpec P f (Ss ++ Cs') S) (hS : FlatS S) (ha : OpdL L G xs.toList Ss) :
    StepOK P ops fs ⟨d, .call { callee := .value (.tmp t), args := xs, argTypes := ts }, ty, pos, after, g⟩ L B (ks, []) ⟨G, S⟩ [] :=
  .of hg fun M D a w hm hs hsB hG => by
    let M' : MSet := fun j => M j ∧ ∀ k ∈ ks, ¬ D k j
    have ha := ha.get hs (fun x hxm t ht => looksAt_op (call_ops (by subst ht; simpa using hxm))) hG
    obtain ⟨caps, hfv, hcc⟩ := hx.get hs (fun t' ht => looksAt_op (by cases ht; simp [Op.operands, Call.operands])) hG
    have hc' := hc.get hsB (fun k h => h) hm M' (fun k h => h.1) (fun k hk j hd h => h.2 k hk hd) caps hcc
    have ha' := All2.law (M' := M') (Keeps.refl M w) (fun k h => .inl h.1) _ _ ha
    have hgive := (hspec hG).calls M' w _ (hm.less fun k h => h.1) (All2.append _ _ _ _ ha' hc')
    have hgive' : Gives P f (xs.toList.map a.eval ++ caps) M w S := Calls.mono hgive fun e w' ⟨hx, v, he, hv⟩ => ⟨hx, v, he, hS _ _ _ _ hv⟩
    refine Does.enter (vs := xs.toList.map a.eval ++ caps) ?_ hgive'
    rw [show (xs.toList.map a.eval ++ caps).toArray = xs.map a.eval ++ caps.toArray by simp]
    exact ex_callV hf hfv
/-- A row of rows goes into a box that was made in the same region. -/
theorem StepOK.storeRow0D {T T' t k : Nat} {y0 : Raw} {R : CPred} {α : Type} [Rep α] (hT : Ty P T (List α)) (hl : lookB B k = some (cont T' y0)) (hkn : Nat.blt k fs = true) (ht : lookB B t = some R) (hR1 : OneC R) (hkt : (k == t) = false) :
    StepOK P ops fs ⟨none, .store T (.tmp k) (.tmp t), ty, pos, after, none⟩ L B ([k, t], [k, t]) ⟨True, anyV⟩ [(k, some (deep (fun s => cont T' (⟨s⟩ : Raw)) R)), (t, none)] := by
  have hkt : k ≠ t := by simpa using hkt
  refine .doing fun M D a w hsz hm hs hsB => ?_
  obtain ⟨m, old, hvm, hD, hM, hh, hold⟩ := hsB.has k (by simp) _ hl
  have hR := hsB.has t (by simp) _ ht
  have hap := hsB.apart k (by simp) t (by simp) _ _ hl ht hkt
  have hxv : a.eval (.tmp t) = Act.val a t := eval_val
  obtain ⟨ho1, ho2⟩ := hR1 _ _ _ _ hR
  have hz : Rep.cells M (⟨Act.val a t⟩ : Raw) [Act.val a t] w := ⟨rfl, ho1, ho2⟩
  have hat : a.eval (.tmp k) = .pointer (some ⟨m, 0, none⟩) := by
    have hlt : k < a.tmps.size := by rw [hsz]; exact Nat.le_of_ble_eq_true hkn
    rw [Act.eval_tmp (v := Act.val a k) (by unfold Act.val; simp [hlt]), hvm]
  obtain ⟨w', h1, h2, h3, h4, h5, h6, h7⟩ := run_storeAt (w := w) (m := m) (off := 0) (cs := [Act.val a t]) (pre := []) (mid := old) (rest := []) hT rfl (show old.length = 1 from Rep.len hold) rfl (Rep.plain hz) (show (Act.val a t).cells = #[Act.val a t] from ho2) (by simpa using hh)
  have hkeep : Keeps (D k) w w' := ⟨h3, h4, h5, by omega, fun j _ hn => h7 j (fun e => hn ((hD j).2 e))⟩
  have hkM : Keeps M w w' := ⟨h3, h4, h5, by omega, fun j _ hn => h7 j (fun e => hn (e ▸ hM))⟩
  refine Does.skip (w' := w') (ex_store (by rw [hat, hxv]; exact h1)) rfl (.merge hl ht hkeep (fun j h => by rw [h6]; exact hm j h) ⟨fun _ => trivial, fun hf => (hf trivial).elim⟩ ?_)
  rw [val_none]
  refine ⟨Act.val a t, D k, D t, ⟨m, _, hvm, hD, hM, by simpa using h2, rfl, ho1, ho2⟩, ?_, fun _ => Iff.rfl, fun j h1 h2 => hap j h1 h2⟩
  exact R.law M M (D t) _ w w' hkM (fun _ h => .inl h) (fun j hj => ⟨R.inM _ _ _ _ hR j hj, h7 j (fun e => hap j ((hD j).2 e) hj)⟩) hR
end
end Go.DB
