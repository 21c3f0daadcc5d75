/-
  Plain rules on the program's operations, code and memory (texts laid together).
-/
import Derived.Test.YtjkfpjpepjjhlaaCoreE
/-
  Maps whose elements are rows of one's own; pointers that may be nil; rows that a call keeps.
-/
set_option linter.unusedVariables false
set_option linter.unusedSimpArgs false
namespace Go.DB
open Go Go.RowKit

section
variable {K α : Type} [Rep K] [Rep α]

/-- What an entry's row is. -/
def FitR (E : Nat) (M D : MSet) (w : World) : Option (List α) → Option Raw → Prop
  | some l, some s => (rowV E l).p M D s.v w
  | none, none => ∀ j, ¬ D j
  | _, _ => False

theorem FitR.law {E : Nat} {M M' D : MSet} {w w' : World} {a : Option (List α)} {b : Option Raw} (hk : Keeps M w w') (hm : ∀ k, M' k → M k ∨ w.heap.size ≤ k) (ho : ∀ k, D k → M' k ∧ w'.heap[k]? = w.heap[k]?) (h : FitR E M D w a b) : FitR E M' D w' a b := by
  match a, b, h with
  | some l, some s, h => exact (rowV E l).law M M' D s.v w w' hk hm ho h
  | none, none, h => exact h

/-- A map whose elements are rows of one's own; at the keys of the hole nothing is told. -/
def mapH (E : Nat) (hole : K → Prop) (m : GMap K (List α)) : CPred where
  p := fun M D v w => ∃ (r : GMap K Raw) (Dm : MSet) (Dr : K → MSet), (mapV r).p M Dm v w ∧ (∀ k, ¬ hole k → FitR E M (Dr k) w (m.f k) (r.f k)) ∧ (∀ j, D j → M j) ∧
    (∀ j, (Dm j ∨ ∃ k, Dr k j) → D j) ∧ (∀ k j, Dr k j → ¬ Dm j) ∧ ∀ k k' j, Dr k j → Dr k' j → k = k'
  inM := fun M D v w ⟨r, Dm, Dr, h1, _, h3, h4, _⟩ k hk => h3 k hk
  law := fun M M' D v w w' hk hm hown ⟨r, Dm, Dr, h1, h2, h3, h4, h5, h6⟩ => by
    have o1 : ∀ j, Dm j → D j := fun j h => h4 j (.inl h)
    have o2 : ∀ k j, Dr k j → D j := fun k j h => h4 j (.inr ⟨k, h⟩)
    exact ⟨r, Dm, Dr, (mapV r).law M M' Dm v w w' hk hm (fun j h => hown j (o1 j h)) h1, fun k hn => (h2 k hn).law hk hm (fun j h => hown j (o2 k j h)), fun j h => (hown j h).1, h4, h5, h6⟩
abbrev mapW (E : Nat) (m : GMap K (List α)) : CPred := mapH E (fun _ => False) m

end

section
variable {P : Program} {ops : Array Oper} {fs : Nat} {L : Slots} {B : Owns} {G : Prop}
variable {ty : TypeId} {pos : String} {after : Array Edge} {g : Option (Nat × Bool)} {xr : List Nat} {d : Option Tmp}
variable {K α : Type} [Rep K] [DecidableEq K] [MKey K] [Rep α] {T kt et : TypeId} {m : GMap K (List α)} {k : K}

end

section
variable {P : Program} {Q : Exit → Act → World → Prop} {n : Nat} {F : Fr} {L : Slots} {B : Owns} {K α : Type} [Rep K] [Rep α] {m : GMap K (List α)}
end


/-- A slot that is told without a condition. -/
theorem Opd.s {L : Slots} {G : Prop} {t : Nat} {S : SPred} (h : look L t = some ⟨True, S⟩) : Opd L G (.tmp t) S := .tmp h fun _ => trivial

/-! Pointers that may be nil. -/
instance {α : Type} [Rep α] : Rep (Option α) where
  sz := 1
  agg := false
  cells := fun M o cs w => ∃ v, cs = [v] ∧ ((v = .pointer none ∧ o = none) ∨ ∃ x, o = some x ∧ (ref x).p M v w)
  len := fun ⟨v, h, _⟩ => by rw [h]; rfl
  pos := by decide
  flat := fun ⟨v, h, hv⟩ => by
    subst h
    rcases hv with ⟨rfl, _⟩ | ⟨x, _, b, off, cs, rfl, _⟩ <;> rfl
  plain := fun ⟨v, h, hv⟩ c hc => by
    subst h; simp at hc; subst hc
    rcases hv with ⟨rfl, _⟩ | ⟨x, _, b, off, cs, rfl, _⟩ <;> rfl
  law := fun {M M' x cs w w'} hk hm ⟨v, h, hv⟩ => ⟨v, h, by
    rcases hv with hv | ⟨x, h1, h2⟩
    · exact .inl hv
    · exact .inr ⟨x, h1, (ref x).law _ _ _ _ _ hk hm h2⟩⟩
theorem rep_ptr {α : Type} [Rep α] {o : Option α} {M : MSet} {v : Value} {w : World} : (rep o).p M v w ↔ (v = .pointer none ∧ o = none) ∨ ∃ x, o = some x ∧ (ref x).p M v w := by
  constructor
  · rintro ⟨cs, ⟨u, h, hu⟩, hv⟩
    subst h
    have : v = u := hv
    rw [this]; exact hu
  · intro h
    exact ⟨[v], ⟨v, rfl, h⟩, rfl⟩
theorem ref_of {α : Type} [Rep α] {x : α} {o : Option α} (h : o = some x) {M : MSet} {v : Value} {w : World} (hr : (rep o).p M v w) : (ref x).p M v w := by
  subst h
  rcases rep_ptr.1 hr with ⟨_, h⟩ | ⟨y, h, hy⟩
  · cases h
  · cases h; exact hy
theorem ptr_zero {α : Type} [Rep α] {M : MSet} {w : World} : Rep.cells M (none : Option α) [.pointer none] w := ⟨_, rfl, .inl ⟨rfl, rfl⟩⟩
theorem Imp.refSome {α : Type} [Rep α] {x : α} : Imp (ref x) (rep (some x)) := fun M v w h => rep_ptr.2 (.inr ⟨x, rfl, h⟩)
section
variable {P : Program} {ops : Array Oper} {fs : Nat} {L : Slots} {B : Owns} {G : Prop}
theorem StepOK.isRef {o : Oper} {x : Aux} {α : Type} [Rep α] {e : Option α} {v : α} {Ws : Writes} (hv : e = some v) (h : StepOK P ops fs o L B x ⟨G, rep e⟩ Ws) : StepOK P ops fs o L B x ⟨G, ref v⟩ Ws := by
  intro M D a w h1 h2 h3 h4
  have q := h M D a w h1 h2 h3 h4
  have hh : ∀ M' u w', (⟨G, rep e⟩ : Ent).holds M' u w' → (⟨G, ref v⟩ : Ent).holds M' u w' := fun M' u w' hp => ⟨fun hc => ref_of hv (hp.1 hc), hp.2⟩
  split
  · rename_i hw
    rw [if_pos hw] at q
    refine Does.mono q fun u w' hL => ?_
    cases Ws with
    | nil => exact ⟨hL.1, hh _ _ _ hL.2⟩
    | cons W Ws =>
      obtain ⟨M', D', a1, a2, a3, a4, a5, a6⟩ := hL
      exact ⟨M', D', a1, a2, a3, a4, hh _ _ _ a5, a6⟩
  · rename_i hw
    rw [if_neg hw] at q
    exact ⟨q.1, hh _ _ _ q.2⟩

variable {d : Option Tmp} {ty : TypeId} {pos : String} {after : Array Edge}
/-- A pointer that is captured lies in a box. -/
theorem StepOK.boxRef {T : TypeId} {x : Operand} {α : Type} [Rep α] {y : α} {g : Option (Nat × Bool)} {xr : List Nat} (hg : Guard ops g L G) (hx : Opd L G x (ref y)) :
    StepOK P ops fs ⟨d, .box T x, ty, pos, after, g⟩ L B (xr, []) ⟨G, ref (some y)⟩ [] :=
  .of hg fun M D a w hm hs _ hG => by
    obtain ⟨cs, hc, hv⟩ := rep_ptr.2 (.inr ⟨y, rfl, hx.get hs (fun t ht => looksAt_op (by simp [Op.operands, ht])) hG⟩)
    have hcs : (a.eval x).cells = cs.toArray := by rw [hv]; exact Rep.flat hc
    refine Does.value (ex_box hcs) ⟨Ext.alloc _ _, w.heap.size, 0, cs, rfl, fun h => absurd (hm _ h) (by omega), by rw [size_new]; omega, Rep.law (Ext.alloc _ _).keeps (fun _ h => .inl h) hc, fun j _ => ?_⟩
    rw [Nat.zero_add, cell_new, List.getElem?_toArray]
end

section
variable {P : Program} {Q : Exit → Act → World → Prop} {n : Nat} {F : Fr} {L : Slots} {B : Owns}
/-- A pointer that is not nil. -/
theorem Cod.isRef {α : Type} [Rep α] {c : Code} {t : Nat} {e : Option α} {v : α} {q : Prop} (hv : e = some v) (hl : look L t = some ⟨q, rep e⟩) (hq : q)
    (k : Cod P c Q n F ((t, ⟨True, ref v⟩) :: L) B) : Cod P c Q n F L B := by
  intro a w hs
  obtain ⟨M, D, h⟩ := id hs
  refine k a w ⟨M, D, { h with has := fun t' en he => ?_ }⟩
  simp only [look] at he
  by_cases hne : t = t'
  · subst hne
    simp at he; subst he
    obtain ⟨u, h1, h2⟩ := h.has t _ hl
    exact ⟨u, h1, fun _ => ref_of hv (h2.1 hq), fun hf => (hf trivial).elim⟩
  · rw [beq_ne hne, cond_false] at he; exact h.has t' en he
end
end Go.DB

/-
  Arrays in place.
-/
set_option linter.unusedVariables false
set_option linter.unusedSimpArgs false
namespace Go.DB
open Go Go.RowKit

abbrev Arr.at0 {n : Nat} {α : Type} [Inhabited α] (x : Arr n α) : α := gx x.l 0
abbrev Arr.at1 {n : Nat} {α : Type} [Inhabited α] (x : Arr n α) : α := gx x.l 1
abbrev Arr.at2 {n : Nat} {α : Type} [Inhabited α] (x : Arr n α) : α := gx x.l 2
abbrev Arr.at3 {n : Nat} {α : Type} [Inhabited α] (x : Arr n α) : α := gx x.l 3
instance : Inhabited Raw := ⟨⟨.slice none 0 0⟩⟩
theorem HasField.arr {n i : Nat} {α : Type} [Rep α] [Inhabited α] (hi : i < n + 1) : HasField (Arr n α) α (i * Rep.sz α) (fun x => gx x.l (i : Int)) := by
  refine ⟨?_, fun M x cs w h => ?_⟩
  · show i * Rep.sz α + Rep.sz α ≤ (n + 1) * Rep.sz α
    rw [← Nat.succ_mul]; exact Nat.mul_le_mul_right _ hi
  · obtain ⟨hln, hel⟩ := h
    obtain ⟨c, hc, hj⟩ := Elems.at _ _ i (by omega) hel
    refine ⟨c, ?_, fun j hlt => (hj j hlt).symm⟩
    show Rep.cells M (gx x.l (i : Int)) c w
    have : gx x.l (i : Int) = x.l[i]'(by omega) := by simp [gx, List.getElem?_eq_getElem (show i < x.l.length by omega)]
    rw [this]; exact hc
theorem SetField.arr {n i : Nat} {α : Type} [Rep α] (hi : i < n + 1) : SetField (Arr n α) α (i * Rep.sz α) (fun x z => ⟨x.l.set i z⟩) := by
  refine ⟨?_, fun M x z cs zs w h hz => ?_⟩
  · show i * Rep.sz α + Rep.sz α ≤ (n + 1) * Rep.sz α
    rw [← Nat.succ_mul]; exact Nat.mul_le_mul_right _ hi
  · obtain ⟨hln, hel⟩ := h
    exact ⟨by rw [List.length_set]; exact hln, Elems.set _ _ i z zs (by omega) hel hz⟩

section
variable {P : Program} {ops : Array Oper} {fs : Nat} {L : Slots} {B : Owns} {G : Prop}
variable {d : Option Tmp} {ty : TypeId} {pos : String} {after : Array Edge} {g : Option (Nat × Bool)} {xr : List Nat}
theorem StepOK.indexAddrA {T n E : Nat} {x i : Operand} {α : Type} [Rep α] [Inhabited α] {y : Arr n α} {k : Int} (hg : Guard ops g L G) (hT : ArrOf P T n E) (hE : Ty P E α)
    (hx : Opd L G x (ref y)) (hi : Opd L G i (rep k)) (hb : G → 0 ≤ k ∧ k < (n + 1 : Nat)) :
    StepOK P ops fs ⟨d, .indexAddr T x i, ty, pos, after, g⟩ L B (xr, []) ⟨G, ref (gx y.l k)⟩ [] :=
  .pure hg fun M a w _ hs hG => by
    obtain ⟨b, o, cs, hv, hM, hbk, hc, hr⟩ := hx.get hs (fun t ht => looksAt_op (by simp [Op.operands, ht])) hG
    obtain ⟨hk, _⟩ := rep_int.1 (hi.get hs (fun t ht => looksAt_op (by simp [Op.operands, ht])) hG)
    obtain ⟨h0, h1⟩ := hb hG
    obtain ⟨j, rfl⟩ : ∃ j : Nat, k = j := ⟨k.toNat, by omega⟩
    have hF := HasField.arr (n := n) (i := j) (α := α) (by omega)
    obtain ⟨fcs, hfc, hj⟩ := hF.2 M y cs w hc
    obtain ⟨ti, hti, hsize⟩ := Option.map_eq_some_iff.1 hE.size
    have hsz : (sizeOf E).run P w = .ok (Rep.sz α) w := by simp [sizeOf, typeInfo, hti, hsize, go_sem]
    have hun : (underlying T).run P w = .ok (.array (n + 1) E) w := by simp [underlying, show P.underlying T = _ from hT, go_sem]
    refine ⟨.pointer (some ⟨b, o + j * Rep.sz α, none⟩), ?_, b, o + j * Rep.sz α, fcs, rfl, hM, hbk, hfc, fun q hq => ?_⟩
    · simp only [execOp, hv, hk, Instr.indexAt, Instr.sureAddr, asIntOf, Sem.run_bind, hun, Result.andThen, Sem.run_pure]
      rw [if_pos ⟨h0, h1⟩]
      simp only [Sem.run_bind, hsz, Result.andThen, Sem.run_pure, add_none]
      rfl
    · have := hr (j * Rep.sz α + q) (by have := hF.1; omega)
      rw [hj q hq, ← this]
      congr 2; omega
end
end Go.DB

/-
  Structs that hold rows of one's own: they are stored, and handed back.
-/
set_option linter.unusedVariables false
set_option linter.unusedSimpArgs false
namespace Go.DB
open Go Go.RowKit

/-- The cells of what takes one cell. -/
theorem cells_one {β : Type} [Rep β] {x : β} {M : MSet} {cs : List Value} {w : World} (h1 : Rep.sz β = 1) (ha : Rep.agg β = false) (hc : Rep.cells M x cs w) : ∃ v, cs = [v] ∧ Rep.cells M (⟨v⟩ : Raw) cs w := by
  have hl := Rep.len hc
  rw [h1] at hl
  match cs, hl with
  | [v], _ =>
    refine ⟨v, rfl, rfl, Rep.plain hc v (by simp), ?_⟩
    have := Rep.flat hc
    rw [ha] at this
    exact this

section
variable {P : Program} {ops : Array Oper} {fs : Nat} {L : Slots} {B : Owns} {G : Prop}
variable {ty : TypeId} {pos : String} {after : Array Edge} {g : Option (Nat × Bool)} {xr : List Nat} {d : Option Tmp}

/-- A row of one's own goes into a box that held a value. -/
theorem StepOK.storeRowF {T T' m off k t E : Nat} {p : Operand} {α γ δ : Type} [Rep α] [Rep γ] [Rep δ] {y0 : γ} {l : List α} {set : Value → δ} (hT : Ty P T (List α)) (hl : lookB B k = some (boxAt m T' y0)) (hp : Opd L True p (isV (ptr m off)))
    (hle : off + 1 ≤ Rep.sz γ) (hF : ∀ (M : MSet) (s : Value) (cs : List Value) (w : World), Rep.cells M y0 cs w → Rep.cells M (⟨s⟩ : Raw) [s] w → Rep.cells M (set s) (cs.take off ++ [s] ++ cs.drop (off + 1)) w) (ht : lookB B t = some (rowV E l)) (hkt : (k == t) = false) :
    StepOK P ops fs ⟨none, .store T p (.tmp t), ty, pos, after, none⟩ L B ([k, t], [k, t]) ⟨True, anyV⟩ [(k, some (CPred.at (ptr m 0) (deep (fun s => cont T' (set s)) (rowV E l)))), (t, none)] := by
  have hkt : k ≠ t := by simpa using hkt
  refine .doing fun M D a w hsz hm hs hsB => ?_
  obtain ⟨m', old, hvm, hD, hM, hh, hold⟩ := hsB.has k (by simp) _ hl
  obtain rfl : m = m' := by simp [ptr] at hvm; exact hvm
  have hR := hsB.has t (by simp) _ ht
  have hap := hsB.apart k (by simp) t (by simp) _ _ hl ht hkt
  have hxv : a.eval (.tmp t) = Act.val a t := eval_val
  obtain ⟨ad, cap, hsl, _⟩ := id hR
  have hz : Rep.cells M (⟨Act.val a t⟩ : Raw) [Act.val a t] w := ⟨rfl, by rw [hsl]; rfl, by rw [hsl]; rfl⟩
  have hat : a.eval p = ptr m off := (rep_raw.1 (hp.get hs (fun t ht => looksAt_op (by simp [Op.operands, ht])) trivial)).1
  have hlo := Rep.len hold
  have hsplit : old = old.take off ++ (old.drop off).take 1 ++ old.drop (off + 1) := by
    rw [← List.drop_drop, List.append_assoc, List.take_append_drop, List.take_append_drop]
  obtain ⟨w', h1, h2, h3, h4, h5, h6, h7⟩ := run_storeAt (w := w) (m := m) (off := off) (cs := [Act.val a t]) (pre := old.take off) (mid := (old.drop off).take 1) (rest := old.drop (off + 1)) hT rfl
    (by rw [List.length_take, List.length_drop]; show _ = 1; omega) (by rw [List.length_take]; omega) (Rep.plain hz) (show (Act.val a t).cells = #[Act.val a t] by rw [hsl]; rfl) (by rw [← hsplit]; exact hh)
  have hkeep : Keeps (D k) w w' := ⟨h3, h4, h5, by omega, fun j _ hn => h7 j (fun e => hn ((hD j).2 e))⟩
  have hkM : Keeps M w w' := ⟨h3, h4, h5, by omega, fun j _ hn => h7 j (fun e => hn (e ▸ hM))⟩
  refine Does.skip (w' := w') (ex_store (by rw [hat, hxv]; exact h1)) rfl (.merge hl ht hkeep (fun j h => by rw [h6]; exact hm j h) ⟨fun _ => trivial, fun hf => (hf trivial).elim⟩ ?_)
  refine ⟨Act.val a t, D k, D t, ⟨m, _, rfl, hD, hM, h2, hF M _ old w' (Rep.law hkM (fun _ h => .inl h) hold) (Rep.law hkM (fun _ h => .inl h) hz)⟩, ?_, fun _ => Iff.rfl, fun j h1 h2 => hap j h1 h2⟩
  exact (rowV E l).law M M (D t) _ w w' hkM (fun _ h => .inl h) (fun j hj => ⟨(rowV E l).inM _ _ _ _ hR j hj, h7 j (fun e => hap j ((hD j).2 e) hj)⟩) hR

/-- The same, where one row lies there already. -/
theorem StepOK.storeRowD {T T' m off k t E : Nat} {p : Operand} {α γ δ : Type} [Rep α] [Rep γ] [Rep δ] {R0 : CPred} {mk : Value → γ} {l : List α} {set : Value → Value → δ} (hT : Ty P T (List α)) (hl : lookB B k = some (CPred.at (ptr m 0) (deep (fun z => cont T' (mk z)) R0))) (hp : Opd L True p (isV (ptr m off)))
    (hle : off + 1 ≤ Rep.sz γ) (hF : ∀ (M : MSet) (z s : Value) (cs : List Value) (w : World), Rep.cells M (mk z) cs w → Rep.cells M (⟨s⟩ : Raw) [s] w → Rep.cells M (set s z) (cs.take off ++ [s] ++ cs.drop (off + 1)) w) (ht : lookB B t = some (rowV E l)) (hkt : (k == t) = false) :
    StepOK P ops fs ⟨none, .store T p (.tmp t), ty, pos, after, none⟩ L B ([k, t], [k, t]) ⟨True, anyV⟩ [(k, some (CPred.at (ptr m 0) (deep (fun s => deep (fun z => cont T' (set s z)) R0) (rowV E l)))), (t, none)] := by
  have hkt : k ≠ t := by simpa using hkt
  refine .doing fun M D a w hsz hm hs hsB => ?_
  have hK := hsB.has k (by simp) _ hl
  obtain ⟨z, D1, D2, ⟨m', old, hvm, hD, hM, hh, hold⟩, hR0, e1, a1⟩ := id hK
  obtain rfl : m = m' := by simp [ptr] at hvm; exact hvm
  have hR := hsB.has t (by simp) _ ht
  have hap := hsB.apart k (by simp) t (by simp) _ _ hl ht hkt
  have hxv : a.eval (.tmp t) = Act.val a t := eval_val
  obtain ⟨ad, cap, hsl, _⟩ := id hR
  have hz : Rep.cells M (⟨Act.val a t⟩ : Raw) [Act.val a t] w := ⟨rfl, by rw [hsl]; rfl, by rw [hsl]; rfl⟩
  have hat : a.eval p = ptr m off := (rep_raw.1 (hp.get hs (fun t ht => looksAt_op (by simp [Op.operands, ht])) trivial)).1
  have hlo := Rep.len hold
  have hsplit : old = old.take off ++ (old.drop off).take 1 ++ old.drop (off + 1) := by
    rw [← List.drop_drop, List.append_assoc, List.take_append_drop, List.take_append_drop]
  obtain ⟨w', h1, h2, h3, h4, h5, h6, h7⟩ := run_storeAt (w := w) (m := m) (off := off) (cs := [Act.val a t]) (pre := old.take off) (mid := (old.drop off).take 1) (rest := old.drop (off + 1)) hT rfl
    (by rw [List.length_take, List.length_drop]; show _ = 1; omega) (by rw [List.length_take]; omega) (Rep.plain hz) (show (Act.val a t).cells = #[Act.val a t] by rw [hsl]; rfl) (by rw [← hsplit]; exact hh)
  have dk : D k m := (e1 m).2 (.inl ((hD m).2 rfl))
  have hkeep : Keeps (D k) w w' := ⟨h3, h4, h5, by omega, fun j _ hn => h7 j (fun e => hn (e ▸ dk))⟩
  have hkM : Keeps M w w' := ⟨h3, h4, h5, by omega, fun j _ hn => h7 j (fun e => hn (e ▸ hM))⟩
  have hinK : ∀ j, D k j → M j := fun j hj => CPred.inM _ M (D k) _ w hK j hj
  refine Does.skip (w' := w') (ex_store (by rw [hat, hxv]; exact h1)) rfl (.merge hl ht hkeep (fun j h => by rw [h6]; exact hm j h) ⟨fun _ => trivial, fun hf => (hf trivial).elim⟩ ?_)
  refine ⟨Act.val a t, D k, D t, ⟨z, D1, D2, ⟨m, _, rfl, hD, hM, h2, hF M z _ old w' (Rep.law hkM (fun _ h => .inl h) hold) (Rep.law hkM (fun _ h => .inl h) hz)⟩, ?_, e1, a1⟩, ?_, fun _ => Iff.rfl, fun j h1 h2 => hap j h1 h2⟩
  · exact R0.law M M D2 z w w' hkM (fun _ h => .inl h) (fun j hj => ⟨hinK j ((e1 j).2 (.inr hj)), h7 j (fun e => a1 m ((hD m).2 rfl) (e ▸ hj))⟩) hR0
  · exact (rowV E l).law M M (D t) _ w w' hkM (fun _ h => .inl h) (fun j hj => ⟨(rowV E l).inM _ _ _ _ hR j hj, h7 j (fun e => hap m dk (e ▸ hj))⟩) hR

end

section
variable {P : Program} {fn : Func} {n : Nat} {F : Fr} {L : Slots} {B : Owns}
end
end Go.DB

/-
  A row of one's own of which parts are moved within it, and of which the beginning is handed back.
-/
set_option linter.unusedVariables false
set_option linter.unusedSimpArgs false
namespace Go.DB
open Go Go.RowKit

section
variable {P : Program} {ops : Array Oper} {fs : Nat} {L : Slots} {B : Owns} {G : Prop}
variable {ty : TypeId} {pos : String} {after : Array Edge} {g : Option (Nat × Bool)} {xr : List Nat} {d : Option Tmp}

end

section
variable {Q : Exit → Act → World → Prop} {n : Nat} {F : Fr} {L : Slots} {B : Owns}

end
end Go.DB

/-
  Calls that are handed memory of one's own while other memory is lent to them.
-/
set_option linter.unusedVariables false
set_option linter.unusedSimpArgs false
namespace Go.DB
open Go Go.RowKit

/-- What is held says nothing of other memory. -/
def FlatC (C : CPred) : Prop := ∀ (M M1 D : MSet) (v : Value) (w : World), (∀ k, M k → M1 k) → C.p M D v w → C.p M1 D v w
theorem FlatC.row {T : Nat} {α : Type} [Rep α] [Flat α] {l : List α} : FlatC (rowV T l) := by
  rintro M M1 D v w hM ⟨ad, cap, e1, e2, e3, e4⟩
  refine ⟨ad, cap, e1, e2, e3, ?_⟩
  cases ad with
  | none => exact e4
  | some ad =>
    obtain ⟨f1, f2, f3, pre, cs, rest, f4, f5, f6, f7⟩ := e4
    exact ⟨f1, f2, hM _ f3, pre, cs, rest, f4, f5, Elems.flat _ _ f6, f7⟩
theorem FlatC.box {T : Nat} {α : Type} [Rep α] [Flat α] {y : α} : FlatC (cont T y) := by
  rintro M M1 D v w hM ⟨m, cs, hv, hD, hMm, hh, hc⟩
  exact ⟨m, cs, hv, hD, hM _ hMm, hh, Flat.cells hc⟩
theorem FlatO.nil : ∀ c, some c ∈ ([] : List (Option CPred)) → FlatC c := fun c h => by cases h
theorem FlatO.some {x : CPred} {l : List (Option CPred)} (h : FlatC x) (t : ∀ c, Option.some c ∈ l → FlatC c) : ∀ c, Option.some c ∈ (Option.some x :: l) → FlatC c := fun c hc => by
  rcases List.mem_cons.1 hc with e | e
  · obtain rfl := Option.some.inj e; exact h
  · exact t c e
theorem FlatO.none {l : List (Option CPred)} (t : ∀ c, Option.some c ∈ l → FlatC c) : ∀ c, Option.some c ∈ (Option.none :: l) → FlatC c := fun c hc => by
  rcases List.mem_cons.1 hc with e | e
  · cases e
  · exact t c e

section
variable {P : Program} {ops : Array Oper} {fs : Nat} {L : Slots} {B : Owns} {G : Prop}
variable {ty : TypeId} {pos : String} {after : Array Edge} {g : Option (Nat × Bool)} {xr : List Nat}

end
end Go.DB

/-
  Rows whose elements hold rows of one's own.
-/
set_option linter.unusedVariables false
set_option linter.unusedSimpArgs false
namespace Go.DB
open Go Go.RowKit

section
variable {α β ρ : Type} [Rep β] [Rep ρ]

/-- A row of what mk makes of a plain element and of the value of a row of one's own; the rows at hs are told, and taken out. -/
def rowD (E E2 : Nat) (mk : α → Value → ρ) (sub : α → List β) (hs : List (Nat × Value)) (l : List α) : CPred where
  p := fun M D v w => ∃ (ss : List Value) (Dm : MSet) (Dr : Nat → MSet), ss.length = l.length ∧ (rowV E (List.zipWith mk l ss)).p M Dm v w ∧ (∀ x ∈ hs, ss[x.1]? = some x.2) ∧
    (∀ (i : Nat) a s, l[i]? = some a → ss[i]? = some s → (∀ x ∈ hs, x.1 ≠ i) → (rowV E2 (sub a)).p M (Dr i) s w) ∧ (∀ j, D j → M j) ∧ (∀ j, (Dm j ∨ ∃ i, Dr i j) → D j) ∧ (∀ i j, Dr i j → ¬ Dm j) ∧ ∀ i i' j, Dr i j → Dr i' j → i = i'
  inM := fun M D v w ⟨ss, Dm, Dr, _, _, _, _, h, _⟩ k hk => h k hk
  law := fun M M' D v w w' hk hm hown ⟨ss, Dm, Dr, h1, h2, h3, h4, h5, h6, h7, h8⟩ =>
    ⟨ss, Dm, Dr, h1, (rowV E _).law M M' Dm v w w' hk hm (fun j h => hown j (h6 j (.inl h))) h2, h3, fun i a s ha hs hn => (rowV E2 _).law M M' (Dr i) s w w' hk hm (fun j h => hown j (h6 j (.inr ⟨i, h⟩))) (h4 i a s ha hs hn), fun j h => (hown j h).1, h6, h7, h8⟩

variable {E E2 : Nat} {mk : α → Value → ρ} {sub : α → List β} {hs : List (Nat × Value)} {l : List α} {M D : MSet} {v : Value} {w : World}

end

/-- The rows of rows. -/
abbrev mkR {β : Type} : List β → Value → Raw := fun _ s => ⟨s⟩
abbrev subR {β : Type} : List β → List β := fun x => x
section
variable {Q : Exit → Act → World → Prop} {P : Program} {n : Nat} {F : Fr} {L : Slots} {B : Owns}

variable {α β ρ : Type} [Rep β] [Rep ρ] [Inhabited α] {E E2 : Nat} {mk : α → Value → ρ} {sub : α → List β} {hs : List (Nat × Value)} {l : List α} {s : Value}

end

section
variable {P : Program} {ops : Array Oper} {fs : Nat} {L : Slots} {B : Owns} {G : Prop}
variable {ty : TypeId} {pos : String} {after : Array Edge} {g : Option (Nat × Bool)} {xr : List Nat} {d : Option Tmp}
variable {α β ρ : Type} [Rep β] [Rep ρ] [Inhabited α] {E E2 : Nat} {mk : α → Value → ρ} {sub : α → List β} {hs : List (Nat × Value)} {l : List α} {s : Value}

end

section
variable {P : Program} {Q : Exit → Act → World → Prop} {n : Nat} {F : Fr} {L : Slots} {B : Owns}
end
/-! Loops whose rounds are walked one by one. -/
/-- What is to come at a loop's head. -/
def inLp (P : Program) (c : Code) (Q : Exit → Act → World → Prop) (a : Act) (w : World) : Prop :=
  ∀ (b : Frame) (k : List Item) (cs : List Frame), ∃ e a' w', Q e a' w' ∧ Arrives P (lone (b.at a (.code c :: .inLoop c :: k)) cs w) b k cs e a' w'
section
variable {Q : Exit → Act → World → Prop} {P : Program} {n : Nat} {F : Fr} {L : Slots} {B : Owns}
end

/-! A result of one's own that nobody writes. -/
theorem FSpecO.frzO {P : Program} {f T : Nat} {Ss : List SPred} {Os : Given} {outs : List (Option CPred)} {α : Type} [Rep α] {l : List α} (h : FSpecO P f Ss Os anyV (outs ++ [some (rowV T l)])) (hlen : outs.length = Os.length) : FSpecO P f Ss Os (rep l) outs := by
  refine ⟨h.ok, fun M D w vs hM ha hO => Calls.mono (h.calls M D w vs hM ha hO) ?_⟩
  rintro e w' ⟨v, M', D', rfl, hk, hml, hmh, hms, _, hC, hA⟩
  have hn : (outs ++ [some (rowV T l)])[Os.length]? = some (some (rowV T l)) := by rw [← hlen]; simp
  obtain ⟨g1, g2⟩ := hC Os.length _ hn
  have hv : (((Os.map (·.1)) ++ [v])[Os.length]?).getD undef = v := by
    rw [List.getElem?_append_right (by simp)]
    simp
  rw [hv] at g1
  refine ⟨v, fun k => M' k ∧ ¬ D' Os.length k, D', rfl, hk, fun k hk' => ?_, fun k hk' => hmh k hk'.1, fun k hk' => hms k hk'.1, rowV_rep M' (D' Os.length) w' v g1 hms, fun i c hc => ?_, fun i j c c' hi hj hne => ?_⟩
  · rcases hml k hk' with h1 | h1
    · by_cases hd : D' Os.length k
      · rcases g2 k hd with h2 | h2
        · exact .inr h2
        · exact absurd (hM k hk') (by have := h2; simp only at this; omega)
      · exact .inl ⟨h1, hd⟩
    · exact .inr h1
  · have hil : i < outs.length := (List.getElem?_eq_some_iff.1 hc).1
    have hc' : (outs ++ [some (rowV T l)])[i]? = some (some c) := by rw [List.getElem?_append_left hil]; exact hc
    obtain ⟨q1, q2⟩ := hC i c hc'
    refine ⟨c.law M' _ (D' i) _ w' w' (Keeps.refl _ _) (fun k hk => .inl hk.1) (fun k hk => ⟨⟨c.inM _ _ _ _ q1 k hk, hA i Os.length _ _ hc' hn (by omega) k hk⟩, rfl⟩) q1, q2⟩
  · have hil : i < outs.length := (List.getElem?_eq_some_iff.1 hi).1
    have hjl : j < outs.length := (List.getElem?_eq_some_iff.1 hj).1
    exact hA i j c c' (by rw [List.getElem?_append_left hil]; exact hi) (by rw [List.getElem?_append_left hjl]; exact hj) hne
theorem FSpecO.frzO1 {P : Program} {f T : Nat} {Ss : List SPred} {x : Value × CPred} {o : Option CPred} {α : Type} [Rep α] {l : List α} (h : FSpecO P f Ss [x] anyV [o, some (rowV T l)]) : FSpecO P f Ss [x] (rep l) [o] := FSpecO.frzO (outs := [o]) h rfl
end Go.DB

/-
  Arrays in place, looked into at any index; arrays of arrays.
-/
set_option linter.unusedVariables false
set_option linter.unusedSimpArgs false
namespace Go.DB
open Go Go.RowKit

theorem HasField.comp {α β γ : Type} [Rep α] [Rep β] [Rep γ] {o1 o2 : Nat} {p : α → β} {q : β → γ} (h : HasField α β o1 p) (h' : HasField β γ (0 + o2) q) : HasField α γ (o1 + o2) (fun x => q (p x)) := by
  rw [Nat.zero_add] at h'
  refine ⟨by have := h.1; have := h'.1; omega, fun M x cs w hc => ?_⟩
  obtain ⟨c1, hc1, hj1⟩ := h.2 M x cs w hc
  obtain ⟨c2, hc2, hj2⟩ := h'.2 M _ c1 w hc1
  refine ⟨c2, hc2, fun j hj => ?_⟩
  rw [hj2 j hj, hj1 (o2 + j) (by have := h'.1; omega), Nat.add_assoc]
theorem SetField.comp {α β γ : Type} [Rep α] [Rep β] [Rep γ] {o1 o2 : Nat} {p : α → β} {s : α → β → α} {q : β → γ → β} (h : HasField α β o1 p) (hs : SetField α β o1 s) (h' : SetField β γ (0 + o2) q) : SetField α γ (o1 + o2) (fun x z => s x (q (p x) z)) := by
  rw [Nat.zero_add] at h'
  refine ⟨by have := h.1; have := h'.1; omega, fun M x z cs zs w hc hz => ?_⟩
  obtain ⟨c1, hc1, hj1⟩ := h.2 M x cs w hc
  have l1 := Rep.len hc1
  have l0 := Rep.len hc
  have b1 := h.1
  have b2 := h'.1
  have e : c1 = (cs.drop o1).take (Rep.sz β) := by
    apply List.ext_getElem?
    intro j
    by_cases hj : j < Rep.sz β
    · rw [hj1 j hj, List.getElem?_take_of_lt hj, List.getElem?_drop]
    · rw [List.getElem?_eq_none (by omega), List.getElem?_eq_none (by simp; omega)]
  have := hs.2 M x (q (p x) z) cs _ w hc (h'.2 M _ z c1 zs w hc1 hz)
  have e2 : cs.take o1 ++ (c1.take o2 ++ zs ++ c1.drop (o2 + Rep.sz γ)) ++ cs.drop (o1 + Rep.sz β) = cs.take (o1 + o2) ++ zs ++ cs.drop (o1 + o2 + Rep.sz γ) := by
    rw [e]
    have t1 : ((cs.drop o1).take (Rep.sz β)).take o2 = (cs.drop o1).take o2 := by rw [List.take_take, Nat.min_eq_left (by omega)]
    have t2 : cs.take (o1 + o2) = cs.take o1 ++ (cs.drop o1).take o2 := List.take_add
    have t3 : ((cs.drop o1).take (Rep.sz β)).drop (o2 + Rep.sz γ) ++ cs.drop (o1 + Rep.sz β) = cs.drop (o1 + o2 + Rep.sz γ) := by
      have : cs.drop (o1 + Rep.sz β) = (cs.drop o1).drop (Rep.sz β) := by rw [List.drop_drop]
      rw [this, ← List.drop_append_of_le_length (by simp; omega), List.take_append_drop, List.drop_drop]
      congr 1; omega
    rw [t1, t2]
    simp only [List.append_assoc]
    rw [t3]
  rw [e2] at this
  exact this

section
variable {P : Program} {ops : Array Oper} {fs : Nat} {L : Slots} {B : Owns} {G : Prop}
variable {d : Option Tmp} {ty : TypeId} {pos : String} {after : Array Edge} {g : Option (Nat × Bool)} {xr : List Nat}
end
end Go.DB

/-
  Results that are nil exactly when they are empty.
-/
set_option linter.unusedVariables false
set_option linter.unusedSimpArgs false
namespace Go.DB
open Go Go.RowKit

/-- A list that is nil when it is empty. -/
def repN {α : Type} [Rep α] (l : List α) : SPred where
  p := fun M v w => (rep l).p M v w ∧ (l = [] → v = .slice none 0 0)
  law := fun M M' v w w' k hm h => ⟨(rep l).law M M' v w w' k hm h.1, h.2⟩
section
variable {P : Program} {ops : Array Oper} {fs : Nat} {L : Slots} {B : Owns} {G : Prop}
variable {d : Option Tmp} {ty : TypeId} {pos : String} {after : Array Edge} {g : Option (Nat × Bool)} {xr : List Nat}
variable {T T' E : TypeId} {x : Operand} {α : Type} [Rep α] {l : List α}
end
section
variable {P : Program} {ops : Array Oper} {fs : Nat} {L : Slots} {B : Owns} {ty : TypeId} {pos : String} {after : Array Edge}
end
end Go.DB

