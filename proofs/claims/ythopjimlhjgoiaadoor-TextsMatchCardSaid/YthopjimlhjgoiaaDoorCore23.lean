/-
  Parts of struct values; comparison of structs of whatever parts.
-/
import Derived.Test.YthopjimlhjgoiaaDoorCore22
set_option linter.unusedVariables false
set_option linter.unusedSimpArgs false
namespace Go.DB
open Go Go.RowKit

section
variable {P : Program} {ops : Array Oper} {fs : Nat} {L : Slots} {B : Owns} {G : Prop}
variable {d : Option Tmp} {ty : TypeId} {pos : String} {after : Array Edge} {g : Option (Nat × Bool)} {xr : List Nat}

theorem run_isAgg {T : Nat} {α : Type} [Rep α] (hT : Ty P T α) (w : World) : (isAgg T).run P w = .ok (Rep.agg α) w := by
  obtain ⟨dd, hd, hm⟩ := hT.agg
  rw [← hm]
  cases dd <;> simp [isAgg, underlying, hd, go_sem]

/-- A part of a struct's cells. -/
theorem run_partAt {T off : Nat} {α β : Type} [Rep α] [Rep β] {proj : α → β} (hT : Ty P T β) (hF : HasField α β off proj) {M : MSet} {x : α} {cs : List Value} {w : World} (hc : Rep.cells M x cs w) :
    ∃ v, (part T cs.toArray off).run P w = .ok v w ∧ (rep (proj x)).p M v w := by
  obtain ⟨hle, hp⟩ := hF
  obtain ⟨f, hf, hj⟩ := hp M x cs w hc
  have hl := Rep.len hf
  have hlc := Rep.len hc
  have hpos := Rep.pos (α := β)
  refine ⟨mkv (Rep.agg β) f, ?_, f, hf, rfl⟩
  obtain ⟨i, hi, hsize⟩ := Option.map_eq_some_iff.1 hT.size
  have hs : (sizeOf T).run P w = .ok (Rep.sz β) w := by simp [sizeOf, typeInfo, hi, hsize, go_sem]
  unfold part
  rw [Sem.run_bind, run_isAgg hT]
  simp only [Result.andThen]
  cases hag : Rep.agg β with
  | true =>
    simp only [if_true]
    rw [Sem.run_bind, hs]
    simp only [Result.andThen, mkv, Sem.run_pure]
    congr 2
    refine Array.ext_getElem? fun j => ?_
    simp only [List.extract_toArray, List.getElem?_toArray]
    by_cases hjl : j < Rep.sz β
    · rw [hj j hjl]
      simp only [List.extract, List.getElem?_take, List.getElem?_drop]
      rw [if_pos (by omega)]
    · rw [List.getElem?_eq_none (by simp only [List.extract, List.length_take, List.length_drop]; omega), List.getElem?_eq_none (by omega)]
  | false =>
    simp only [Bool.false_eq_true, if_false]
    have h0 := hj 0 hpos
    match f, hl with
    | c :: f', _ =>
      simp only [List.getElem?_cons_zero, Nat.add_zero] at h0
      have : cs.toArray[off]? = some c := by simpa using h0.symm
      rw [this]
      simp [mkv, go_sem]
    | [], hl => simp at hl; omega

def FieldTy (P : Program) (S f off T : Nat) : Prop := ∃ fs fd, P.underlying S = some (.struct fs) ∧ fs[f]? = some fd ∧ fd.offset = off ∧ fd.type = T

theorem StepOK.fieldV {S f off T : Nat} {x : Operand} {α β : Type} [Rep α] [Rep β] {proj : α → β} {y : α} (hg : Guard ops g L G) (hS : FieldTy P S f off T) (hT : Ty P T β) (hF : HasField α β off proj) (hag : Rep.agg α = true) (hx : Opd L G x (rep y)) :
    StepOK P ops fs ⟨d, .field S x f, ty, pos, after, g⟩ L B (xr, []) ⟨G, rep (proj y)⟩ [] :=
  .pure hg fun M a w _ hs hG => by
    obtain ⟨cs, hc, hv⟩ := hx.get hs (fun t ht => looksAt_op (by simp [Op.operands, ht])) hG
    obtain ⟨fl, fd, h1, h2, rfl, rfl⟩ := hS
    obtain ⟨v, hr, hp⟩ := run_partAt (P := P) hT hF hc
    refine ⟨v, ?_, hp⟩
    rw [hag] at hv
    have hun : (underlying S).run P w = .ok (.struct fl) w := by simp [underlying, h1, go_sem]
    have hf : (Instr.field S (a.eval x) f).run P w = .ok v w := by
      rw [hv]
      unfold Instr.field
      rw [Sem.run_bind, hun]
      simp only [Result.andThen, h2, mkv]
      exact hr
    simp only [execOp]
    rw [Sem.run_bind, hf]; rfl

/-! Comparison, within d rounds. -/

def EqIn (P : Program) (T : Nat) (α : Type) [Rep α] [DecidableEq α] (d : Nat) : Prop :=
  ∀ (k : Nat) (M : MSet) (w : World) (x y : α) (v u : Value), (rep x).p M v w → (rep y).p M u w → (Op.equalIn (k + d) T v u).run P w = .ok (decide (x = y)) w

theorem eqIn_int {T : Nat} {kd : IntKind} (hT : P.underlying T = some (.int kd)) : EqIn P T Int 1 := by
  intro k M w x y v u hv hu
  rw [(rep_int.1 hv).1, (rep_int.1 hu).1, run_equalIn_int k hT]
  congr 1
theorem eqIn_ki {T : Nat} {kd kx : IntKind} (hT : P.underlying T = some (.int kd)) : EqIn P T (KI kx) 1 := by
  intro k M w x y v u hv hu
  rw [rep_ki.1 hv, rep_ki.1 hu, run_equalIn_int k hT]
  congr 1
  cases x with
  | mk a => cases y with
    | mk c => by_cases h : a = c <;> simp [h]
theorem eqIn_bool {T : Nat} (hT : P.underlying T = some .bool) : EqIn P T Bool 1 := by
  intro k M w x y v u hv hu
  rw [rep_bool.1 hv, rep_bool.1 hu, run_equalIn_bool k hT]
  cases x <;> cases y <;> rfl
theorem eqIn_str {T : Nat} (hT : P.underlying T = some .string) : EqIn P T Str 1 := by
  intro k M w x y v u hv hu
  rw [(rep_str.1 hv).1, (rep_str.1 hu).1]
  have : (Op.equalIn (k + 1) T (strV x) (strV y)).run P w = .ok ((ByteArray.mk x.b.toArray) == (ByteArray.mk y.b.toArray)) w := by
    simp [strV, Op.equalIn, underlying, hT, go_sem]
  rw [this]
  congr 1
  rw [beq_toListBytes]
  cases x with | mk a => cases y with | mk c => by_cases h : a = c <;> simp [h]

theorem eqIn_more {T d1 d2 : Nat} {α : Type} [Rep α] [DecidableEq α] (h : EqIn P T α d1) (hle : d1 ≤ d2) : EqIn P T α d2 := by
  intro k M w x y v u hv hu
  have := h (k + d2 - d1) M w x y v u hv hu
  rwa [show k + d2 - d1 + d1 = k + d2 by omega] at this

/-- A struct's fields, compared one by one. -/
inductive FQ (P : Program) (dd : Nat) (α : Type) [Rep α] : List Field → (α → α → Bool) → Prop
  | nil : FQ P dd α [] (fun _ _ => true)
  | cons {f : Field} {fs : List Field} {β : Type} [Rep β] [DecidableEq β] {proj : α → β} {r : α → α → Bool} : (f.name == "_") = false → HasField α β f.offset proj → Ty P f.type β → EqIn P f.type β dd → FQ P dd α fs r → FQ P dd α (f :: fs) (fun x y => decide (proj x = proj y) && r x y)

theorem FQ.run {dd : Nat} {α : Type} [Rep α] {fl : List Field} {r : α → α → Bool} (h : FQ P dd α fl r) {k : Nat} {M : MSet} {w : World} {x y : α} {xs ys : List Value} (hx : Rep.cells M x xs w) (hy : Rep.cells M y ys w) :
    (Op.eqFields (k + dd) xs.toArray ys.toArray fl).run P w = .ok (r x y) w := by
  induction h with
  | nil => simp [Op.eqFields, go_sem]
  | @cons f fl β _ _ proj r h1 h2 h3 h4 _ ih =>
    have hne : f.name ≠ "_" := by intro e; rw [e] at h1; cases h1
    obtain ⟨v, hv, hv2⟩ := run_partAt (P := P) h3 h2 hx
    obtain ⟨u, hu, hu2⟩ := run_partAt (P := P) h3 h2 hy
    rw [Op.eqFields, if_pos hne, Sem.run_bind, hv]
    simp only [Result.andThen]
    rw [Sem.run_bind, hu]
    simp only [Result.andThen]
    rw [Sem.run_bind, h4 k M w _ _ _ _ hv2 hu2]
    simp only [Result.andThen]
    by_cases he : proj x = proj y
    · simp only [he, decide_true, Bool.not_true, Bool.false_eq_true, if_false, Bool.true_and]
      exact ih
    · simp [he, go_sem]

theorem eqIn_struct {T dd : Nat} {α : Type} [Rep α] [DecidableEq α] {fl : Array Field} {r : α → α → Bool} (hT : P.underlying T = some (.struct fl)) (hst : P.stoodInHeld T = false) (hq : FQ P dd α fl.toList r) (hr : ∀ x y, r x y = decide (x = y)) (hag : Rep.agg α = true) : EqIn P T α (dd + 1) := by
  intro k M w x y v u hv hu
  obtain ⟨xs, hx, rfl⟩ := hv
  obtain ⟨ys, hy, rfl⟩ := hu
  rw [hag]
  have hfo : P.fieldsOf T = fl := by unfold Program.fieldsOf; rw [hT]
  show (Op.equalIn (k + dd + 1) T (.agg xs.toArray) (.agg ys.toArray)).run P w = _
  rw [run_equalIn_struct w _ T _ _ (by rw [hfo]; exact hT) hst, hfo, hq.run hx hy, hr]

theorem eqAt_in {T dd : Nat} {α : Type} [Rep α] [DecidableEq α] (h : EqIn P T α dd) (hle : Nat.ble dd 10000 = true) (hgd : P.eqGuardType P.depth T = false) (hag : Rep.agg α = true) : EqAt P T α := by
  intro M w p q x y v u hv hu
  have he : (Op.equal T v u).run P w = .ok (decide (x = y)) w := by
    have := h (10000 - dd) M w x y v u hv hu
    rw [Nat.sub_add_cancel (Nat.le_of_ble_eq_true hle)] at this
    exact this
  obtain ⟨xs, hx, rfl⟩ := hv
  obtain ⟨ys, hy, rfl⟩ := hu
  rw [hag] at *
  have hg : ∀ op, (op = .eql ∨ op = .neq) → (eqGuard op T p q (mkv true xs) (mkv true ys)).run P w = .ok () w := by
    intro op hop
    rcases hop with rfl | rfl <;> simp [mkv, eqGuard, go_sem, hgd]
  constructor
  · rw [Sem.run_bind, hg _ (.inl rfl)]
    simp only [Result.andThen, binOp, mkv] at he ⊢
    rw [Sem.run_bind, he]; rfl
  · rw [Sem.run_bind, hg _ (.inr rfl)]
    simp only [Result.andThen, binOp, mkv] at he ⊢
    rw [Sem.run_bind, he]; rfl
end
end Go.DB
