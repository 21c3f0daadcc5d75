/-
  Structs that hold rows of one's own: they are stored, and handed back.
-/
import Derived.Test.YtbahnfkccdlpnaaCore30
set_option linter.unusedVariables false
set_option linter.unusedSimpArgs false
namespace Go.DB
open Go Go.RowKit

/-- The cells of what takes one cell. -/
theorem cells_one {β : Type} [Rep β] {x : β} {M : MSet} {cs : List Value} {w : World} (h1 : Rep.sz β = 1) (ha : Rep.agg β = false) (hc : Rep.cells M x cs w) : ∃ v, cs = [v] ∧ Rep.cells M (⟨v⟩ : Raw) cs w := by
  have hl := Rep.len hc
  rw [h1] at hl
  match cs, hl with
  | [v], _ =>
    refine ⟨v, rfl, rfl, Rep.plain hc v (by simp), ?_⟩
    have := Rep.flat hc
    rw [ha] at this
    exact this

section
variable {P : Program} {ops : Array Oper} {fs : Nat} {L : Slots} {B : Owns} {G : Prop}
variable {ty : TypeId} {pos : String} {after : Array Edge} {g : Option (Nat × Bool)} {xr : List Nat} {d : Option Tmp}

/-- A row of one's own goes into a box that held a value. -/
theorem StepOK.storeRowF {T T' m off k t E : Nat} {p : Operand} {α γ δ : Type} [Rep α] [Rep γ] [Rep δ] {y0 : γ} {l : List α} {set : Value → δ} (hT : Ty P T (List α)) (hl : lookB B k = some (boxAt m T' y0)) (hp : Opd L True p (isV (ptr m off)))
    (hle : off + 1 ≤ Rep.sz γ) (hF : ∀ (M : MSet) (s : Value) (cs : List Value) (w : World), Rep.cells M y0 cs w → Rep.cells M (⟨s⟩ : Raw) [s] w → Rep.cells M (set s) (cs.take off ++ [s] ++ cs.drop (off + 1)) w) (ht : lookB B t = some (rowV E l)) (hkt : (k == t) = false) :
    StepOK P ops fs ⟨none, .store T p (.tmp t), ty, pos, after, none⟩ L B ([k, t], [k, t]) ⟨True, anyV⟩ [(k, some (CPred.at (ptr m 0) (deep (fun s => cont T' (set s)) (rowV E l)))), (t, none)] := by
  have hkt : k ≠ t := by simpa using hkt
  refine .doing fun M D a w hsz hm hs hsB => ?_
  obtain ⟨m', old, hvm, hD, hM, hh, hold⟩ := hsB.has k (by simp) _ hl
  obtain rfl : m = m' := by simp [ptr] at hvm; exact hvm
  have hR := hsB.has t (by simp) _ ht
  have hap := hsB.apart k (by simp) t (by simp) _ _ hl ht hkt
  have hxv : a.eval (.tmp t) = Act.val a t := eval_val
  obtain ⟨ad, cap, hsl, _⟩ := id hR
  have hz : Rep.cells M (⟨Act.val a t⟩ : Raw) [Act.val a t] w := ⟨rfl, by rw [hsl]; rfl, by rw [hsl]; rfl⟩
  have hat : a.eval p = ptr m off := (rep_raw.1 (hp.get hs (fun t ht => looksAt_op (by simp [Op.operands, ht])) trivial)).1
  have hlo := Rep.len hold
  have hsplit : old = old.take off ++ (old.drop off).take 1 ++ old.drop (off + 1) := by
    rw [← List.drop_drop, List.append_assoc, List.take_append_drop, List.take_append_drop]
  obtain ⟨w', h1, h2, h3, h4, h5, h6, h7⟩ := run_storeAt (w := w) (m := m) (off := off) (cs := [Act.val a t]) (pre := old.take off) (mid := (old.drop off).take 1) (rest := old.drop (off + 1)) hT rfl
    (by rw [List.length_take, List.length_drop]; show _ = 1; omega) (by rw [List.length_take]; omega) (Rep.plain hz) (show (Act.val a t).cells = #[Act.val a t] by rw [hsl]; rfl) (by rw [← hsplit]; exact hh)
  have hkeep : Keeps (D k) w w' := ⟨h3, h4, h5, by omega, fun j _ hn => h7 j (fun e => hn ((hD j).2 e))⟩
  have hkM : Keeps M w w' := ⟨h3, h4, h5, by omega, fun j _ hn => h7 j (fun e => hn (e ▸ hM))⟩
  refine Does.skip (w' := w') (ex_store (by rw [hat, hxv]; exact h1)) rfl (.merge hl ht hkeep (fun j h => by rw [h6]; exact hm j h) ⟨fun _ => trivial, fun hf => (hf trivial).elim⟩ ?_)
  refine ⟨Act.val a t, D k, D t, ⟨m, _, rfl, hD, hM, h2, hF M _ old w' (Rep.law hkM (fun _ h => .inl h) hold) (Rep.law hkM (fun _ h => .inl h) hz)⟩, ?_, fun _ => Iff.rfl, fun j h1 h2 => hap j h1 h2⟩
  exact (rowV E l).law M M (D t) _ w w' hkM (fun _ h => .inl h) (fun j hj => ⟨(rowV E l).inM _ _ _ _ hR j hj, h7 j (fun e => hap j ((hD j).2 e) hj)⟩) hR

/-- The same, where one row lies there already. -/
theorem StepOK.storeRowD {T T' m off k t E : Nat} {p : Operand} {α γ δ : Type} [Rep α] [Rep γ] [Rep δ] {R0 : CPred} {mk : Value → γ} {l : List α} {set : Value → Value → δ} (hT : Ty P T (List α)) (hl : lookB B k = some (CPred.at (ptr m 0) (deep (fun z => cont T' (mk z)) R0))) (hp : Opd L True p (isV (ptr m off)))
    (hle : off + 1 ≤ Rep.sz γ) (hF : ∀ (M : MSet) (z s : Value) (cs : List Value) (w : World), Rep.cells M (mk z) cs w → Rep.cells M (⟨s⟩ : Raw) [s] w → Rep.cells M (set s z) (cs.take off ++ [s] ++ cs.drop (off + 1)) w) (ht : lookB B t = some (rowV E l)) (hkt : (k == t) = false) :
    StepOK P ops fs ⟨none, .store T p (.tmp t), ty, pos, after, none⟩ L B ([k, t], [k, t]) ⟨True, anyV⟩ [(k, some (CPred.at (ptr m 0) (deep (fun s => deep (fun z => cont T' (set s z)) R0) (rowV E l)))), (t, none)] := by
  have hkt : k ≠ t := by simpa using hkt
  refine .doing fun M D a w hsz hm hs hsB => ?_
  have hK := hsB.has k (by simp) _ hl
  obtain ⟨z, D1, D2, ⟨m', old, hvm, hD, hM, hh, hold⟩, hR0, e1, a1⟩ := id hK
  obtain rfl : m = m' := by simp [ptr] at hvm; exact hvm
  have hR := hsB.has t (by simp) _ ht
  have hap := hsB.apart k (by simp) t (by simp) _ _ hl ht hkt
  have hxv : a.eval (.tmp t) = Act.val a t := eval_val
  obtain ⟨ad, cap, hsl, _⟩ := id hR
  have hz : Rep.cells M (⟨Act.val a t⟩ : Raw) [Act.val a t] w := ⟨rfl, by rw [hsl]; rfl, by rw [hsl]; rfl⟩
  have hat : a.eval p = ptr m off := (rep_raw.1 (hp.get hs (fun t ht => looksAt_op (by simp [Op.operands, ht])) trivial)).1
  have hlo := Rep.len hold
  have hsplit : old = old.take off ++ (old.drop off).take 1 ++ old.drop (off + 1) := by
    rw [← List.drop_drop, List.append_assoc, List.take_append_drop, List.take_append_drop]
  obtain ⟨w', h1, h2, h3, h4, h5, h6, h7⟩ := run_storeAt (w := w) (m := m) (off := off) (cs := [Act.val a t]) (pre := old.take off) (mid := (old.drop off).take 1) (rest := old.drop (off + 1)) hT rfl
    (by rw [List.length_take, List.length_drop]; show _ = 1; omega) (by rw [List.length_take]; omega) (Rep.plain hz) (show (Act.val a t).cells = #[Act.val a t] by rw [hsl]; rfl) (by rw [← hsplit]; exact hh)
  have dk : D k m := (e1 m).2 (.inl ((hD m).2 rfl))
  have hkeep : Keeps (D k) w w' := ⟨h3, h4, h5, by omega, fun j _ hn => h7 j (fun e => hn (e ▸ dk))⟩
  have hkM : Keeps M w w' := ⟨h3, h4, h5, by omega, fun j _ hn => h7 j (fun e => hn (e ▸ hM))⟩
  have hinK : ∀ j, D k j → M j := fun j hj => CPred.inM _ M (D k) _ w hK j hj
  refine Does.skip (w' := w') (ex_store (by rw [hat, hxv]; exact h1)) rfl (.merge hl ht hkeep (fun j h => by rw [h6]; exact hm j h) ⟨fun _ => trivial, fun hf => (hf trivial).elim⟩ ?_)
  refine ⟨Act.val a t, D k, D t, ⟨z, D1, D2, ⟨m, _, rfl, hD, hM, h2, hF M z _ old w' (Rep.law hkM (fun _ h => .inl h) hold) (Rep.law hkM (fun _ h => .inl h) hz)⟩, ?_, e1, a1⟩, ?_, fun _ => Iff.rfl, fun j h1 h2 => hap j h1 h2⟩
  · exact R0.law M M D2 z w w' hkM (fun _ h => .inl h) (fun j hj => ⟨hinK j ((e1 j).2 (.inr hj)), h7 j (fun e => a1 m ((hD m).2 rfl) (e ▸ hj))⟩) hR0
  · exact (rowV E l).law M M (D t) _ w w' hkM (fun _ h => .inl h) (fun j hj => ⟨(rowV E l).inM _ _ _ _ hR j hj, h7 j (fun e => hap m dk (e ▸ hj))⟩) hR

/-- What owns memory goes into a named box that is there. -/
theorem StepOK.storeG2N {T T' m t k : Nat} {α α0 β : Type} [Rep α] [Rep α0] [Rep β] {R1 R2 : CPred} {mk : Value → Value → α} {y0 : α0} {p : Operand} (hT : Ty P T β) (hβ : Rep.sz β = Rep.sz α) (hagg : Rep.agg β = Rep.agg α) (hα : Rep.sz α0 = Rep.sz α) (hl : lookB B k = some (boxAt m T' y0)) (hp : Opd L True p (isV (ptr m 0)))
    (h1 : lookB B t = some (deep (fun s1 => deep (fun s2 => valV (mk s1 s2)) R2) R1)) (hkt : (k == t) = false) :
    StepOK P ops fs ⟨none, .store T p (.tmp t), ty, pos, after, none⟩ L B ([k, t], [k, t]) ⟨True, anyV⟩ [(k, some (CPred.at (ptr m 0) (deep (fun s1 => deep (fun s2 => cont T' (mk s1 s2)) R2) R1))), (t, none)] := by
  have hkt : k ≠ t := by simpa using hkt
  refine .doing fun M D a w hsz hm hs hsB => ?_
  obtain ⟨m', old, hvm, hD, hM, hh, hold⟩ := hsB.has k (by simp) _ hl
  obtain rfl : m = m' := by simp [ptr] at hvm; exact hvm
  have hR := hsB.has t (by simp) _ h1
  have hap := hsB.apart k (by simp) t (by simp) _ _ hl h1 hkt
  obtain ⟨s1, D1, D2, ⟨s2, D3, D4, ⟨hn, cs, hc, hv⟩, hR2, e1, a1⟩, hR1, e2, a2⟩ := id hR
  have hxv : a.eval (.tmp t) = Act.val a t := eval_val
  have hat : a.eval p = ptr m 0 := (rep_raw.1 (hp.get hs (fun t ht => looksAt_op (by simp [Op.operands, ht])) trivial)).1
  obtain ⟨w', h1', h2, h3, h4, h5, h6, h7⟩ := run_storeAt (w := w) (m := m) (off := 0) (cs := cs) (pre := []) (mid := old) (rest := []) hT ((Rep.len hc).trans hβ.symm) ((Rep.len hold).trans (hα.trans hβ.symm)) rfl (Rep.plain hc) (by rw [hagg]; exact Rep.flat hc) (by simpa using hh)
  have hkeep : Keeps (D k) w w' := ⟨h3, h4, h5, by omega, fun j _ hn => h7 j (fun e => hn ((hD j).2 e))⟩
  have hkM : Keeps M w w' := ⟨h3, h4, h5, by omega, fun j _ hn => h7 j (fun e => hn (e ▸ hM))⟩
  have hin : ∀ j, D t j → M j := fun j hj => CPred.inM _ M (D t) _ w hR j hj
  have old' : ∀ j, D t j → M j ∧ w'.heap[j]? = w.heap[j]? := fun j hj => ⟨hin j hj, h7 j (fun e => hap j ((hD j).2 e) hj)⟩
  have d1 : ∀ j, D1 j → D t j := fun j h => (e2 j).2 (.inl h)
  have d2 : ∀ j, D2 j → D t j := fun j h => (e2 j).2 (.inr h)
  have d4 : ∀ j, D4 j → D1 j := fun j h => (e1 j).2 (.inr h)
  have d14 : ∀ j, D1 j → D4 j := fun j h => ((e1 j).1 h).elim (fun h => absurd h (hn j)) id
  refine Does.skip (w' := w') (ex_store (by rw [hat, hxv, hv, ← hagg]; exact h1')) rfl (.merge hl h1 hkeep (fun j h => by rw [h6]; exact hm j h) ⟨fun _ => trivial, fun hf => (hf trivial).elim⟩ ?_)
  refine ⟨s1, fun j => D k j ∨ D4 j, D2, ⟨s2, D k, D4, ⟨m, cs, rfl, hD, hM, by simpa using h2, Rep.law hkM (fun _ h => .inl h) hc⟩, ?_, fun _ => Iff.rfl, fun j h1 h2 => hap j h1 (d1 j (d4 j h2))⟩, ?_, fun j => ?_, fun j h1 h2 => ?_⟩
  · exact R2.law M M D4 s2 w w' hkM (fun _ h => .inl h) (fun j hj => old' j (d1 j (d4 j hj))) hR2
  · exact R1.law M M D2 s1 w w' hkM (fun _ h => .inl h) (fun j hj => old' j (d2 j hj)) hR1
  · constructor
    · rintro (h | h)
      · exact .inl (.inl h)
      · rcases (e2 j).1 h with h | h
        · exact .inl (.inr (d14 j h))
        · exact .inr h
    · rintro ((h | h) | h)
      · exact .inl h
      · exact .inr (d1 j (d4 j h))
      · exact .inr (d2 j h)
  · rcases h1 with h1 | h1
    · exact hap j h1 (d2 j h2)
    · exact a2 j (d4 j h1) h2

/-- A value goes into a box that held another kind of value of the same size. -/
theorem StepOK.storeAtH {T T' m g : Nat} {p x : Operand} {α0 α : Type} [Rep α0] [Rep α] {y0 : α0} {z : α} (hT : Ty P T α) (hsz0 : Rep.sz α0 = Rep.sz α) (hl : lookB B g = some (boxAt m T' y0)) (hp : Opd L True p (isV (ptr m 0))) (hx : Opd L True x (rep z)) :
    StepOK P ops fs ⟨none, .store T p x, ty, pos, after, none⟩ L B ([g], [g]) ⟨True, anyV⟩ [(g, some (boxAt m T' z))] := by
  refine .doing fun M D a w hsz hm hs hsB => ?_
  obtain ⟨m', old, hvm, hD, hM, hh, hold⟩ := hsB.has g (by simp) _ hl
  obtain rfl : m = m' := by simp [ptr] at hvm; exact hvm
  have hat : a.eval p = ptr m 0 := (rep_raw.1 (hp.get hs (fun t ht => looksAt_op (by simp [Op.operands, ht])) trivial)).1
  obtain ⟨cs, hc, hv⟩ := hx.get hs (fun t ht => looksAt_op (by simp [Op.operands, ht])) trivial
  obtain ⟨w', h1, h2, h3, h4, h5, h6, h7⟩ := run_storeAt (w := w) (m := m) (off := 0) (cs := cs) (pre := []) (mid := old) (rest := []) hT (Rep.len hc) ((Rep.len hold).trans hsz0) rfl (Rep.plain hc) (Rep.flat hc) (by simpa using hh)
  have hkeep : Keeps (D g) w w' := ⟨h3, h4, h5, by omega, fun j _ hn => h7 j (fun e => hn ((hD j).2 e))⟩
  have hkM : Keeps M w w' := ⟨h3, h4, h5, by omega, fun j _ hn => h7 j (fun e => hn (e ▸ hM))⟩
  refine Does.skip (w' := w') (ex_store (by rw [hat, hv]; exact h1)) rfl (.turn hl hkeep (fun j h => by rw [h6]; exact hm j h) ⟨fun _ => trivial, fun hf => (hf trivial).elim⟩ ?_)
  exact ⟨m, cs, rfl, hD, hM, by simpa using h2, Rep.law hkM (fun _ h => .inl h) hc⟩
end

section
variable {P : Program} {fn : Func} {n : Nat} {F : Fr} {L : Slots} {B : Owns}
/-- A struct with rows of its own is handed back. -/
theorem Ends.ret1S {e : Exit} (he : e = .ret ∨ e = .normal) {t T T' m K : Nat} {α : Type} [Rep α] {R1 R2 : CPred} {mk : Value → Value → α} {c : Prop} (hT : Ty P T α) (hr : fn.results = #[.cell t T])
    (hl : look L t = some ⟨c, isV (ptr m 0)⟩) (hc : c) (hB : lookB B K = some (CPred.at (ptr m 0) (deep (fun s1 => deep (fun s2 => cont T' (mk s1 s2)) R2) R1))) :
    Ends (bodyPost P fn (PostO F anyV [] [some (deep (fun s1 => deep (fun s2 => valV (mk s1 s2)) R2) R1)])) e n F L B := by
  rintro a w ⟨M, D, hs⟩
  have hK := hs.hasB K _ hB
  obtain ⟨s1, D1, D2, ⟨s2, D3, D4, ⟨m', cs, hvm, hD, hM, hh, hcs⟩, hR2, e1, a1⟩, hR1, e2, a2⟩ := id hK
  obtain rfl : m = m' := by simp [ptr] at hvm; exact hvm
  obtain ⟨v, hv, hev⟩ := hs.has t _ hl
  obtain ⟨rfl, _⟩ := rep_raw.1 (hev.1 hc)
  have hrun : (resVal a.tmps (.cell t T)).run P w = .ok (mkv (Rep.agg α) cs) w := by
    have h1 := run_loadAt (P := P) hT hcs (b := m) (off := 0) (fun j _ => by rw [cell_of_heap hh]; simp)
    simp only [Instr.loadAt, Instr.sureAddr] at h1
    rw [Sem.run_bind] at h1
    simp only [Sem.run_pure, Result.andThen] at h1
    simp only [resVal, Array.getD_eq_getD_getElem?, hv, Option.getD_some, asAddr]
    rw [Sem.run_bind]
    simp only [Sem.run_pure, Result.andThen]
    exact h1
  have hd : ∀ j, (D4 j ∨ D2 j) → D K j := fun j h => (e2 j).2 (h.imp (fun h => (e1 j).2 (.inr h)) id)
  have hpost : a.defers = [] ∧ ∃ v, (results fn a.tmps).run P w = .ok v w ∧ PostO F anyV [] [some (deep (fun s1 => deep (fun s2 => valV (mk s1 s2)) R2) R1)] (.returned v) w := by
    refine ⟨hs.defers, _, results_one hr hrun, _, M, fun _ j => D4 j ∨ D2 j, rfl, hs.keeps, hs.mlow, hs.mhigh, hs.msub, trivial, fun i c hi => ?_, fun i j c c' hi hj hne => ?_⟩
    · match i, hi with
      | 0, hi =>
        simp only [List.getElem?_cons_zero, Option.some.injEq] at hi
        subst hi
        exact ⟨⟨s1, D4, D2, ⟨s2, NoM, D4, ⟨fun k h => h, cs, hcs, rfl⟩, hR2, fun j => ⟨fun h => .inr h, fun h => h.elim (fun h => h.elim) id⟩, fun j h => h.elim⟩, hR1, fun j => Iff.rfl, fun j h => a2 j ((e1 j).2 (.inr h))⟩, fun k hk => hs.own K _ hB k (hd k hk)⟩
      | i + 1, hi => simp at hi
    · match i, j, hi, hj with
      | 0, 0, _, _ => omega
      | i + 1, _, hi, _ => simp at hi
      | _, j + 1, _, hj => simp at hj
  rcases he with rfl | rfl <;> exact hpost
end
end Go.DB
