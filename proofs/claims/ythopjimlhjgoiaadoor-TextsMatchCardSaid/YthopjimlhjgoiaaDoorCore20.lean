/-
  Ranges over strings: iterators of one's own.
-/
import Derived.Test.YthopjimlhjgoiaaDoorCore19
import Derived.Scope
set_option linter.unusedVariables false
set_option linter.unusedSimpArgs false
namespace Go.DB
open Go Go.RowKit

/-- An iterator over a string, at a place. -/
def iterV (s : Str) (pos : Nat) : CPred where
  p := fun M D v w => ∃ m, v = .pointer (some ⟨m, 0, none⟩) ∧ (∀ k, D k ↔ k = m) ∧ M m ∧ w.heap[m]? = some (.stringIter (ByteArray.mk s.b.toArray) pos) ∧ s.b.length ≤ 9223372036854775807
  inM := fun M D v w ⟨m, hv, hD, hM, _, _⟩ k hk => (hD k).1 hk ▸ hM
  law := fun M M' D v w w' hk hm hown ⟨m, hv, hD, hM, hh, hb⟩ => by
    obtain ⟨h1, h2⟩ := hown m ((hD m).2 rfl)
    exact ⟨m, hv, hD, h1, by rw [h2]; exact hh, hb⟩

section
variable {P : Program} {ops : Array Oper} {fs : Nat} {L : Slots} {B : Owns} {G : Prop}
variable {ty : TypeId} {pos : String} {after : Array Edge} {g : Option (Nat × Bool)} {xr : List Nat}

theorem ex_rangeS {ρ : Operand → Value} {d : Option Nat} {x : Operand} {T : Nat} {m : Str} {w : World} (hT : P.underlying T = some .string) (hx : ρ x = strV m) :
    (execOp ρ ⟨d, .range T x, ty, pos, after, g⟩).run P w = .ok (.value (.pointer (some ⟨w.heap.size, 0, none⟩))) (w.alloc (.stringIter (ByteArray.mk m.b.toArray) 0)) := by
  have hun : (underlying T).run P w = .ok .string w := by simp [underlying, hT, go_sem]
  simp only [execOp, hx, strV, Instr.range]
  simp [go_sem, hun]
theorem StepOK.rangeStr {d T : Nat} {x : Operand} {m : Str} (hT : P.underlying T = some .string) (hd : Nat.blt d fs = true) (hx : Opd L True x (rep m)) :
    StepOK P ops fs ⟨some d, .range T x, ty, pos, after, none⟩ L B ([], [d]) ⟨True, anyV⟩ [(d, some (iterV m 0))] := by
  refine .doing fun M D a w hsz hm hs _ => ?_
  obtain ⟨hv, hbd⟩ := rep_str.1 (hx.get hs (fun t ht => looksAt_op (by simp [Op.operands, ht])) trivial)
  refine Does.value (ex_rangeS hT hv) (.one (fun k => M k ∨ k = w.heap.size) (fun k => k = w.heap.size) (Ext.alloc _ _) (fun k h => .inl h) (fun k h => h.imp id (by omega)) (fun k h => ?_) ⟨fun _ => trivial, fun hf => (hf trivial).elim⟩ ?_ (fun k h => by omega))
  · rw [size_new]
    rcases h with h | h
    · have := hm k h; omega
    · omega
  · rw [val_self (by rw [hsz]; exact Nat.le_of_ble_eq_true hd)]
    refine ⟨w.heap.size, rfl, fun k => Iff.rfl, .inr rfl, ?_, hbd⟩
    show (w.heap.push _)[w.heap.size]? = _
    rw [Array.getElem?_push_size]

/-- What a string holds at a place: a code point, and how many bytes it has. -/
def Str.at (s : Str) (pos : Nat) : Nat × Nat := Utf8.decode (ByteArray.mk s.b.toArray) pos
def Str.next (s : Str) (pos : Nat) : Nat := if pos < s.b.length then pos + (s.at pos).2 else pos
def nextV (s : Str) (pos : Nat) : Value := if pos < s.b.length then .tuple #[.bool true, goInt pos, .int .i32 (s.at pos).1] else .tuple #[.bool false]

theorem ex_nextS {ρ : Operand → Value} {d : Option Nat} {x : Operand} {r : Nat} {s : Str} {p : Nat} {w : World} (hx : ρ x = .pointer (some ⟨r, 0, none⟩)) (hh : w.heap[r]? = some (.stringIter (ByteArray.mk s.b.toArray) p)) :
    ∃ w', (execOp ρ ⟨d, .next x true, ty, pos, after, g⟩).run P w = .ok (.value (nextV s p)) w' ∧ w'.os = w.os ∧ w'.tape = w.tape ∧ w'.output = w.output ∧ w'.heap.size = w.heap.size ∧ (∀ k, k ≠ r → w'.heap[k]? = w.heap[k]?) ∧ w'.heap[r]? = some (.stringIter (ByteArray.mk s.b.toArray) (s.next p)) := by
  have hg : (getObj r).run P w = .ok (.stringIter (ByteArray.mk s.b.toArray) p) w := by simp [getObj, Sem.run, hh]
  have hsz : (ByteArray.mk s.b.toArray).size = s.b.length := rfl
  have hlt : r < w.heap.size := by
    rcases Nat.lt_or_ge r w.heap.size with h | h
    · exact h
    · rw [Array.getElem?_eq_none h] at hh; cases hh
  by_cases c : p < s.b.length
  · refine ⟨{ w with heap := w.heap.setIfInBounds r (.stringIter (ByteArray.mk s.b.toArray) (p + (s.at p).2)) }, ?_, rfl, rfl, rfl, by simp, fun k hk => by simp [Array.getElem?_setIfInBounds, Ne.symm hk], by simp [Array.getElem?_setIfInBounds, hlt, Str.next, c]⟩
    have hset : (setObj r (.stringIter (ByteArray.mk s.b.toArray) (p + (s.at p).2))).run P w = .ok () { w with heap := w.heap.setIfInBounds r (.stringIter (ByteArray.mk s.b.toArray) (p + (s.at p).2)) } := by simp [setObj, Sem.run, hh]
    simp only [execOp, hx, Instr.next, Sem.run_bind, hg, Result.andThen, hsz, c, if_true]
    rw [show Utf8.decode (ByteArray.mk s.b.toArray) p = s.at p from rfl]
    simp only [Sem.run_bind, hset, Result.andThen, Sem.run_pure, nextV, c, if_true]
  · refine ⟨w, ?_, rfl, rfl, rfl, rfl, fun k hk => rfl, by rw [hh]; simp [Str.next, c]⟩
    simp only [execOp, hx, Instr.next, Sem.run_bind, hg, Result.andThen, hsz, c, if_false, Sem.run_pure, nextV]

/-- What `next` gives. -/
def nextS (s : Str) (pos : Nat) : SPred where
  p := fun _ v _ => v = nextV s pos ∧ s.b.length ≤ 9223372036854775807
  law := fun _ _ _ _ _ _ _ h => h
theorem StepOK.nextStr {d k m p : Nat} {x : Operand} {s : Str} (hd : Nat.blt d fs = true) (hl : lookB B k = some (CPred.at (ptr m 0) (iterV s p))) (hx : Opd L True x (isV (ptr m 0))) (hkd : (k == d) = false) :
    StepOK P ops fs ⟨some d, .next x true, ty, pos, after, none⟩ L B ([k], [k]) ⟨True, nextS s p⟩ [(k, some (CPred.at (ptr m 0) (iterV s (s.next p))))] := by
  refine .doing fun M D a w hsz hm hs hsB => ?_
  obtain ⟨m', hvm, hD, hM, hh, hbd⟩ := hsB.has k (by simp) _ hl
  obtain rfl : m = m' := by simp [ptr] at hvm; exact hvm
  have hat : a.eval x = .pointer (some ⟨m, 0, none⟩) := (rep_raw.1 (hx.get hs (fun t ht => looksAt_op (by simp [Op.operands, ht])) trivial)).1
  obtain ⟨w', h1, h3, h4, h5, h6, h7, h8⟩ := ex_nextS (P := P) (ty := ty) (pos := pos) (after := after) (g := none) (d := some d) hat hh
  have hkeep : Keeps (D k) w w' := ⟨h3, h4, h5, by omega, fun j _ hn => h7 j (fun e => hn ((hD j).2 e))⟩
  exact Does.value h1 (.turn hl hkeep (fun j h => by rw [h6]; exact hm j h) ⟨fun _ => ⟨rfl, hbd⟩, fun hf => (hf trivial).elim⟩ ⟨m, rfl, hD, hM, h8, hbd⟩)

theorem ex_extractT {ρ : Operand → Value} {d : Option Nat} {x : Operand} {i : Nat} {vs : Array Value} {v : Value} {w : World} (hx : ρ x = .tuple vs) (hv : vs[i]? = some v) :
    (execOp ρ ⟨d, .extract x i, ty, pos, after, g⟩).run P w = .ok (.value v) w := by
  simp only [execOp, hx, Instr.extract, hv]; rfl
theorem StepOK.nextOk {d : Option Nat} {p : Nat} {x : Operand} {s : Str} (hg : Guard ops g L G) (hx : Opd L G x (nextS s p)) :
    StepOK P ops fs ⟨d, .extract x 0, ty, pos, after, g⟩ L B (xr, []) ⟨G, rep (decide (p < s.b.length))⟩ [] :=
  .pure hg fun M a w _ hs hG => by
    obtain ⟨h1, _⟩ := hx.get hs (fun t ht => looksAt_op (by simp [Op.operands, ht])) hG
    by_cases c : p < s.b.length
    · exact ⟨_, ex_extractT (by rw [h1, nextV, if_pos c]) rfl, rep_bool.2 (by simp [c])⟩
    · exact ⟨_, ex_extractT (by rw [h1, nextV, if_neg c]) rfl, rep_bool.2 (by simp [c])⟩
theorem StepOK.nextAt {d : Option Nat} {p : Nat} {x : Operand} {s : Str} (hg : Guard ops g L G) (hx : Opd L G x (nextS s p)) (h : G → p < s.b.length) :
    StepOK P ops fs ⟨d, .extract x 1, ty, pos, after, g⟩ L B (xr, []) ⟨G, rep (p : Int)⟩ [] :=
  .pure hg fun M a w _ hs hG => by
    obtain ⟨h1, hb⟩ := hx.get hs (fun t ht => looksAt_op (by simp [Op.operands, ht])) hG
    have c := h hG
    exact ⟨_, ex_extractT (by rw [h1, nextV, if_pos c]) rfl, rep_int.2 ⟨rfl, by unfold InI; omega⟩⟩
theorem StepOK.nextRune {d : Option Nat} {p : Nat} {x : Operand} {s : Str} (hg : Guard ops g L G) (hx : Opd L G x (nextS s p)) (h : G → p < s.b.length) :
    StepOK P ops fs ⟨d, .extract x 2, ty, pos, after, g⟩ L B (xr, []) ⟨G, rep (⟨((s.at p).1 : Int)⟩ : KI .i32)⟩ [] :=
  .pure hg fun M a w _ hs hG => by
    obtain ⟨h1, hb⟩ := hx.get hs (fun t ht => looksAt_op (by simp [Op.operands, ht])) hG
    have c := h hG
    exact ⟨_, ex_extractT (by rw [h1, nextV, if_pos c]) rfl, rep_ki.2 rfl⟩
end

/-! Code with labels through which the run goes straight. -/
section
variable {P : Program} {n : Nat} {F : Fr} {L : Slots} {B : Owns} {Q : Exit → Act → World → Prop}
theorem Cod.scope {c : Code} (h : Cod P c (Exit.noGoto Q) n F L B) : Cod P (.scope c) Q n F L B := fun a w hs => wp_scope_straight (h a w hs)
theorem Cod.label {l : Nat} (h : Ends Q .normal n F L B) : Cod P (.label l) Q n F L B := fun a w hs => wp_label (h a w hs)
theorem Ends.scpNormal (h : Ends Q .normal n F L B) : Ends (Exit.noGoto Q) .normal n F L B := h
theorem Ends.scpRet (h : Ends Q .ret n F L B) : Ends (Exit.noGoto Q) .ret n F L B := h
theorem Ends.scpExit {id : Nat} (h : Ends Q (.exit id) n F L B) : Ends (Exit.noGoto Q) (.exit id) n F L B := h
end
theorem isBox_iter {s : Str} {p : Nat} : IsBox (iterV s p) := fun M D v w ⟨m, hv, _⟩ => ⟨m, hv⟩
end Go.DB
