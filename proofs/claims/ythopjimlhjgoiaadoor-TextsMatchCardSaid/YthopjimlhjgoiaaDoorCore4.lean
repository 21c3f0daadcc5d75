/-
  Memory: boxes, fields, elements, slices made at once; calls; results; control.
-/
import Derived.Test.YthopjimlhjgoiaaDoorCore3
import Derived.KernelRfl
set_option linter.unusedSimpArgs false
set_option linter.unusedVariables false
namespace Go.DB
open Go Go.RowKit

/-! Closed facts on types. -/

/-- A type of the program holds what α stands for. -/
structure Ty (P : Program) (T : TypeId) (α : Type) [Rep α] : Prop where
  agg : ∃ d, P.underlying T = some d ∧ (match d with | .struct _ | .array _ _ => true | _ => false) = Rep.agg α
  size : (P.info? T).map (·.size) = some (Rep.sz α)

/-- Field f of struct type S lies at off. -/
def FieldAt (P : Program) (S f off : Nat) : Prop :=
  ∃ fs fd, P.underlying S = some (.struct fs) ∧ fs[f]? = some fd ∧ fd.offset = off ∧ (P.info? fd.type).map (fun i => Nat.blt 0 i.size) = some true

theorem sizeNe {P : Program} {t : Nat} (h : (P.info? t).map (fun i => Nat.blt 0 i.size) = some true) : ∃ i, P.info? t = some i ∧ i.size ≠ 0 := by
  obtain ⟨i, hi, hb⟩ := Option.map_eq_some_iff.1 h
  refine ⟨i, hi, fun e => ?_⟩
  rw [e] at hb; cases hb

/-- A slice type over E. -/
def SliceOf (P : Program) (T E : Nat) : Prop := P.underlying T = some (.slice E)

/-- A part of a struct's cells. -/
def HasField (α β : Type) [Rep α] [Rep β] (off : Nat) (proj : α → β) : Prop :=
  off + Rep.sz β ≤ Rep.sz α ∧ ∀ (M : MSet) (x : α) (cs : List Value) (w : World), Rep.cells M x cs w → ∃ fcs, Rep.cells M (proj x) fcs w ∧ ∀ j, j < Rep.sz β → fcs[j]? = cs[off + j]?

theorem HasField.self {α : Type} [Rep α] : HasField α α 0 id := ⟨by simp, fun _ _ cs _ h => ⟨cs, h, fun j _ => by rw [Nat.zero_add]⟩⟩
theorem HasField.fst {α β γ : Type} [Rep α] [Rep β] [Rep γ] {off : Nat} {f : α → γ} (h : HasField α γ off f) : HasField (α × β) γ off (fun x => f x.1) := by
  refine ⟨Nat.le_trans h.1 (Nat.le_add_right _ _), ?_⟩
  rintro M x cs w ⟨c1, c2, rfl, h1, h2⟩
  obtain ⟨fcs, hf, hj⟩ := h.2 M x.1 c1 w h1
  refine ⟨fcs, hf, fun j hlt => ?_⟩
  rw [hj j hlt, List.getElem?_append_left]
  have := h.1
  rw [Rep.len h1]; omega
theorem HasField.snd {α β γ : Type} [Rep α] [Rep β] [Rep γ] {off : Nat} {f : β → γ} (h : HasField β γ off f) : HasField (α × β) γ (Rep.sz α + off) (fun x => f x.2) := by
  refine ⟨by have := h.1; show _ ≤ Rep.sz α + Rep.sz β; omega, ?_⟩
  rintro M x cs w ⟨c1, c2, rfl, h1, h2⟩
  obtain ⟨fcs, hf, hj⟩ := h.2 M x.2 c2 w h2
  refine ⟨fcs, hf, fun j hlt => ?_⟩
  rw [hj j hlt, List.getElem?_append_right (by rw [Rep.len h1]; omega), Rep.len h1]
  congr 1; omega

/-! Loads of several cells. -/

theorem add_none (b off j : Nat) : (⟨b, off, none⟩ : Addr).add j = ⟨b, off + j, none⟩ := by
  unfold Addr.add
  by_cases h : j = 0
  · subst h; simp
  · simp [h]

theorem run_loadCellsFrom {P : Program} {w : World} {b off : Nat} : ∀ (n i : Nat) (acc : Array Value) (cs : List Value), cs.length = n →
    (∀ j, j < n → w.cell? ⟨b, off + i + j, none⟩ = cs[j]?) → (loadCellsFrom ⟨b, off, none⟩ i n acc).run P w = .ok (acc ++ cs.toArray) w
  | 0, i, acc, cs, hl, _ => by
    have : cs = [] := List.length_eq_zero_iff.1 hl
    subst this
    simp [loadCellsFrom, go_sem]
  | n + 1, i, acc, cs, hl, h => by
    match cs, hl with
    | c :: cs, hl =>
      have h0 := h 0 (by omega)
      simp at h0
      have ih := run_loadCellsFrom (P := P) (w := w) (b := b) (off := off) n (i + 1) (acc.push c) cs (by simpa using hl) (fun j hj => by
        have := h (j + 1) (by omega)
        rw [show off + (i + 1) + j = off + i + (j + 1) by omega, this]; simp)
      simp only [loadCellsFrom, add_none]
      have hload : (load ⟨b, off + i, none⟩).run P w = .ok c w := by simp [load, Sem.run, h0]
      rw [Sem.run_bind, hload]
      simp only [Result.andThen]
      rw [ih]
      simp

theorem run_loadAt {P : Program} {T : TypeId} {α : Type} [Rep α] (hT : Ty P T α) {M : MSet} {x : α} {w : World} {b off : Nat} {cs : List Value}
    (hc : Rep.cells M x cs w) (hr : ∀ j, j < Rep.sz α → w.cell? ⟨b, off + j, none⟩ = cs[j]?) :
    (Instr.loadAt T (.pointer (some ⟨b, off, none⟩))).run P w = .ok (mkv (Rep.agg α) cs) w := by
  obtain ⟨⟨d, hu, hd⟩, hsz⟩ := hT
  obtain ⟨i, hi, hsize⟩ := Option.map_eq_some_iff.1 hsz
  have hlen := Rep.len hc
  have hagg : (isAgg T).run P w = .ok (Rep.agg α) w := by
    rw [← hd]
    cases d <;> simp [isAgg, underlying, hu, go_sem]
  cases ha : Rep.agg α with
  | true =>
    have hl := run_loadCellsFrom (P := P) (w := w) (b := b) (off := off) (Rep.sz α) 0 #[] cs hlen (fun j hj => by simpa using hr j hj)
    rw [ha] at hagg
    have hs : (sizeOf T).run P w = .ok (Rep.sz α) w := by simp [sizeOf, typeInfo, hi, hsize, go_sem]
    simp only [Instr.loadAt, Instr.sureAddr, loadVar, loadCells, Sem.run_bind, hagg, Sem.run_pure, Result.andThen, if_true, hs, hl, mkv]
    simp
  | false =>
    have hfl := Rep.flat hc
    rw [ha] at hfl hagg
    have h1 : cs.length ≠ 0 := by rw [hlen]; exact Nat.ne_of_gt (Rep.pos (α := α))
    match cs, h1 with
    | c :: cs, _ =>
      have h0 := hr 0 (Rep.pos (α := α))
      simp at h0
      have hload : (load ⟨b, off, none⟩).run P w = .ok c w := by simp [load, Sem.run, h0]
      simp only [Instr.loadAt, Instr.sureAddr, loadVar, Sem.run_bind, hagg, Sem.run_pure, Result.andThen, mkv]
      simp [hload]

section
variable {P : Program} {ops : Array Oper} {fs : Nat} {L : Slots} {B : Owns} {G : Prop}
variable {d : Option Tmp} {ty : TypeId} {pos : String} {after : Array Edge} {g : Option (Nat × Bool)} {xr : List Nat}

theorem StepOK.load {T : TypeId} {x : Operand} {α : Type} [Rep α] {y : α} (hg : Guard ops g L G) (hT : Ty P T α) (hx : Opd L G x (ref y)) :
    StepOK P ops fs ⟨d, .load T x, ty, pos, after, g⟩ L B (xr, []) ⟨G, rep y⟩ [] :=
  .pure hg fun M a w _ hs hG => by
    obtain ⟨b, off, cs, hv, _, _, hc, hr⟩ := hx.get hs (fun t ht => looksAt_op (by simp [Op.operands, ht])) hG
    refine ⟨mkv (Rep.agg α) cs, ?_, cs, hc, rfl⟩
    simp only [execOp, hv, Sem.run_bind, run_loadAt hT hc hr, Result.andThen, Sem.run_pure]

theorem StepOK.fieldAddr {S f off : Nat} {x : Operand} {α β : Type} [Rep α] [Rep β] {proj : α → β} {y : α} (hg : Guard ops g L G) (hF : FieldAt P S f off) (hH : HasField α β off proj)
    (hx : Opd L G x (ref y)) : StepOK P ops fs ⟨d, .fieldAddr S x f, ty, pos, after, g⟩ L B (xr, []) ⟨G, ref (proj y)⟩ [] :=
  .pure hg fun M a w _ hs hG => by
    obtain ⟨b, o, cs, hv, hM, hb, hc, hr⟩ := hx.get hs (fun t ht => looksAt_op (by simp [Op.operands, ht])) hG
    obtain ⟨fds, fd, hu, hf, hoff, hsz0⟩ := hF
    obtain ⟨i, hi, hne⟩ := sizeNe hsz0
    obtain ⟨fcs, hfc, hj⟩ := hH.2 M y cs w hc
    refine ⟨.pointer (some ⟨b, o + off, none⟩), ?_, b, o + off, fcs, rfl, hM, hb, hfc, fun j hlt => ?_⟩
    · have hsz : (sizeOf fd.type).run P w = .ok i.size w := by simp [sizeOf, typeInfo, hi, go_sem]
      have hpl : (fieldPlace ⟨b, o, none⟩ fd).run P w = .ok ⟨b, o + off, none⟩ w := by
        unfold fieldPlace
        rw [Sem.run_bind, hsz]
        simp only [Result.andThen, hne, if_false, Sem.run_pure, add_none, hoff]
      have hun : (underlying S).run P w = .ok (.struct fds) w := by simp [underlying, hu, go_sem]
      simp only [execOp, hv, Instr.fieldAt, Instr.sureAddr, Sem.run_bind, hun, hf, Result.andThen, Sem.run_pure, hpl]
    · have := hr (off + j) (by have := hH.1; omega)
      rw [hj j hlt, ← this]
      congr 2; omega

/-- The element at i. -/
def gx {α : Type} [Inhabited α] (l : List α) (i : Int) : α := (l[i.toNat]?).getD default

theorem StepOK.indexAddr {T E : Nat} {x i : Operand} {α : Type} [Rep α] [Inhabited α] {l : List α} {k : Int} (hg : Guard ops g L G) (hT : SliceOf P T E) (hE : Ty P E α)
    (hx : Opd L G x (rep l)) (hi : Opd L G i (rep k)) (hb : G → 0 ≤ k ∧ k < l.length) :
    StepOK P ops fs ⟨d, .indexAddr T x i, ty, pos, after, g⟩ L B (xr, []) ⟨G, ref (gx l k)⟩ [] :=
  .pure hg fun M a w _ hs hG => by
    obtain ⟨ad, cap, hv, hcap, _, hl⟩ := rep_list.1 (hx.get hs (fun t ht => looksAt_op (by simp [Op.operands, ht])) hG)
    obtain ⟨hk, _⟩ := rep_int.1 (hi.get hs (fun t ht => looksAt_op (by simp [Op.operands, ht])) hG)
    obtain ⟨h0, h1⟩ := hb hG
    cases ad with
    | none => rw [Lies] at hl; subst hl; simp at h1; omega
    | some ad =>
      have hlt : k.toNat < l.length := by omega
      obtain ⟨hsp, hM, hb, cs, hc, hr⟩ := hl k.toNat hlt
      have hgx : gx l k = l[k.toNat] := by simp [gx, List.getElem?_eq_getElem hlt]
      rw [hgx]
      obtain ⟨blk, off, sp⟩ := ad
      simp only at hsp hM hb hr
      subst hsp
      refine ⟨.pointer (some ⟨blk, off + k.toNat * Rep.sz α, none⟩), ?_, blk, _, cs, rfl, hM, hb, hc, hr⟩
      obtain ⟨ti, hti, hsize⟩ := Option.map_eq_some_iff.1 hE.size
      have hsz : (sizeOf E).run P w = .ok (Rep.sz α) w := by simp [sizeOf, typeInfo, hti, hsize, go_sem]
      have hun : (underlying T).run P w = .ok (.slice E) w := by simp [underlying, show P.underlying T = _ from hT, go_sem]
      simp only [execOp, hv, hk, Instr.indexAt, asIntOf, Sem.run_bind, hun, Result.andThen, Sem.run_pure]
      rw [if_pos ⟨h0, h1⟩]
      simp only [Sem.run_bind, hsz, Result.andThen, Sem.run_pure, add_none]

theorem ex_len {ρ : Operand → Value} {x : Operand} {T E : Nat} {o : Option Addr} {n cap : Nat} {w : World} (hT : SliceOf P T E) (hx : ρ x = .slice o n cap) :
    (execOp ρ ⟨d, .call { callee := .builtin .len, args := #[x], argTypes := #[T] }, ty, pos, after, g⟩).run P w = .ok (.value (.int .i64 n)) w := by
  have hun : (underlying T).run P w = .ok (.slice E) w := by simp [underlying, show P.underlying T = _ from hT, go_sem]
  simp only [execOp, resolve, invoke, builtin, Builtin.len_, Array.map]
  simp [go_sem, hun, hx, goInt]

theorem StepOK.len {x : Operand} {T E : Nat} {α : Type} [Rep α] {l : List α} (hg : Guard ops g L G) (hT : SliceOf P T E) (hx : Opd L G x (rep l)) :
    StepOK P ops fs ⟨d, .call { callee := .builtin .len, args := #[x], argTypes := #[T] }, ty, pos, after, g⟩ L B (xr, []) ⟨G, rep (l.length : Int)⟩ [] :=
  .pure hg fun M a w _ hs hG => by
    obtain ⟨ad, cap, hv, hcap, hc2, _⟩ := rep_list.1 (hx.get hs (fun t ht => looksAt_op (call_ops (by simp [ht]))) hG)
    exact ⟨_, ex_len hT hv, rep_int.2 ⟨rfl, by unfold InI; omega⟩⟩

theorem cell_new (w : World) (cs : Array Value) (T : TypeId) (j : Nat) : (w.alloc (.cells cs T)).cell? ⟨w.heap.size, j, none⟩ = cs[j]? := by
  unfold World.cell?
  show (match (w.heap.push (.cells cs T))[w.heap.size]? with | some (.cells c _ _) => _ | _ => _) = _
  rw [Array.getElem?_push_size]
  rfl
theorem size_new (w : World) (o : Obj) : (w.alloc o).heap.size = w.heap.size + 1 := by
  show (w.heap.push o).size = _
  rw [Array.size_push]

theorem ex_box {ρ : Operand → Value} {T : TypeId} {x : Operand} {cs : Array Value} {w : World} (hx : (ρ x).cells = cs) :
    (execOp ρ ⟨d, .box T x, ty, pos, after, g⟩).run P w = .ok (.value (.pointer (some ⟨w.heap.size, 0, none⟩))) (w.alloc (.cells cs T)) := by
  subst hx; rfl

theorem StepOK.box {T : TypeId} {x : Operand} {α : Type} [Rep α] {y : α} (hg : Guard ops g L G) (hx : Opd L G x (rep y)) :
    StepOK P ops fs ⟨d, .box T x, ty, pos, after, g⟩ L B (xr, []) ⟨G, ref y⟩ [] :=
  .of hg fun M D a w hm hs _ hG => by
    obtain ⟨cs, hc, hv⟩ := hx.get hs (fun t ht => looksAt_op (by simp [Op.operands, ht])) hG
    have hcs : (a.eval x).cells = cs.toArray := by rw [hv]; exact Rep.flat hc
    refine Does.value (ex_box hcs) ⟨Ext.alloc _ _, w.heap.size, 0, cs, rfl, fun h => absurd (hm _ h) (by omega), by rw [size_new]; omega, Rep.law (Ext.alloc _ _).keeps (fun _ h => .inl h) hc, fun j _ => ?_⟩
    rw [Nat.zero_add, cell_new, List.getElem?_toArray]

theorem ex_extract {ρ : Operand → Value} {x : Operand} {i : Nat} {vs : Array Value} {v : Value} {w : World} (hx : ρ x = .tuple vs) (hi : vs[i]? = some v) :
    (execOp ρ ⟨d, .extract x i, ty, pos, after, g⟩).run P w = .ok (.value v) w := by
  simp only [execOp, hx, Instr.extract, hi]; rfl

theorem StepOK.extract {x : Operand} {i : Nat} {Ss : List SPred} {S : SPred} (hg : Guard ops g L G) (hx : Opd L G x (tup Ss)) (hi : Ss[i]? = some S) :
    StepOK P ops fs ⟨d, .extract x i, ty, pos, after, g⟩ L B (xr, []) ⟨G, S⟩ [] :=
  .pure hg fun M a w _ hs hG => by
    obtain ⟨vs, hv, hl, hall⟩ := hx.get hs (fun t ht => looksAt_op (by simp [Op.operands, ht])) hG
    have hlt : i < vs.length := by rw [hl]; exact (List.getElem?_eq_some_iff.1 hi).1
    exact ⟨vs[i], ex_extract hv (by simp [hlt]), hall i S _ hi (List.getElem?_eq_getElem hlt)⟩

/-! Calls. -/

theorem run_callFunc {f : Nat} (hf : FnOK P f) (vs : Array Value) (w : World) : (callFunc f vs).run P w = .ok (.enter f vs) w := by
  obtain ⟨fn, h1, h2, h3⟩ := hf
  unfold callFunc
  rw [Sem.run_bind, show Sem.run P program w = .ok P w from rfl]
  simp only [Result.andThen, h1, h2, h3]
  rfl

theorem Does.enter {o : Oper} {a : Act} {w : World} {f : Nat} {vs : List Value} {M : MSet} {S : SPred} (hr : (execOp a.eval o).run P w = .ok (.enter f vs.toArray) w)
    (h : Gives P f vs M w S) : Does P o a w (fun v w' => Ext w w' ∧ S.p M v w') := by
  unfold Does Oper.wp
  rw [hr]
  refine Calls.mono h fun e w' ⟨hx, v, he, hv⟩ => ?_
  subst he
  exact ⟨v, rfl, hx, hv⟩

theorem ex_callV {ρ : Operand → Value} {x : Operand} {xs : Array Operand} {ts : Array TypeId} {f : Nat} {caps : Array Value} {w : World} (hf : FnOK P f) (hx : ρ x = .func (.func f) #[] caps) :
    (execOp ρ ⟨d, .call { callee := .value x, args := xs, argTypes := ts }, ty, pos, after, g⟩).run P w = .ok (.enter f (xs.map ρ ++ caps)) w := by
  have h := run_callFunc hf (xs.map ρ ++ caps) w
  simp only [execOp, resolve, hx, Deferred.ofValue]
  rw [Sem.run_bind]
  simp only [Sem.run_pure, Result.andThen, invoke, Array.empty_append]
  exact h

theorem StepOK.call {f : Nat} {xs : Array Operand} {ts : Array TypeId} {Ss : List SPred} {S : SPred} (hg : Guard ops g L G) (hspec : FSpec P f Ss S) (hx : OpdL L G xs.toList Ss) :
    StepOK P ops fs ⟨d, .call { callee := .value (.func f), args := xs, argTypes := ts }, ty, pos, after, g⟩ L B (xr, []) ⟨G, S⟩ [] :=
  .of hg fun M D a w hm hs _ hG => by
    have ha := hx.get hs (fun x hxm t ht => looksAt_op (call_ops (by subst ht; simpa using hxm))) hG
    refine Does.enter (vs := xs.toList.map a.eval) ?_ (hspec.calls M w _ hm ha)
    rw [show (xs.toList.map a.eval).toArray = xs.map a.eval ++ #[] by rw [Array.append_empty, ← List.map_toArray]]
    exact ex_callV hspec.ok rfl
/-- The same, where the contract asks for something. -/
theorem StepOK.callIf {f : Nat} {pre : Prop} {xs : Array Operand} {ts : Array TypeId} {Ss : List SPred} {S : SPred} (hg : Guard ops g L G) (hf : FnOK P f) (hspec : pre → FSpec P f Ss S) (hx : OpdL L G xs.toList Ss) (hp : G → pre) :
    StepOK P ops fs ⟨d, .call { callee := .value (.func f), args := xs, argTypes := ts }, ty, pos, after, g⟩ L B (xr, []) ⟨G, S⟩ [] :=
  .of hg fun M D a w hm hs _ hG => by
    have ha := hx.get hs (fun x hxm t ht => looksAt_op (call_ops (by subst ht; simpa using hxm))) hG
    refine Does.enter (vs := xs.toList.map a.eval) ?_ ((hspec (hp hG)).calls M w _ hm ha)
    rw [show (xs.toList.map a.eval).toArray = xs.map a.eval ++ #[] by rw [Array.append_empty, ← List.map_toArray]]
    exact ex_callV hf rfl

/-- A call of a function value. -/
theorem StepOK.callV {t : Nat} {xs : Array Operand} {ts : Array TypeId} {ι : Type} {pre : ι → Prop} {Ss : ι → List SPred} {S : ι → SPred} (i : ι) (hg : Guard ops g L G)
    (hf : Opd L G (.tmp t) (fnv P pre Ss S)) (hp : G → pre i) (hx : OpdL L G xs.toList (Ss i)) :
    StepOK P ops fs ⟨d, .call { callee := .value (.tmp t), args := xs, argTypes := ts }, ty, pos, after, g⟩ L B (xr, []) ⟨G, S i⟩ [] :=
  .of hg fun M D a w hm hs _ hG => by
    have ha := hx.get hs (fun x hxm t ht => looksAt_op (call_ops (by subst ht; simpa using hxm))) hG
    obtain ⟨f, caps, hv, hok, hcall⟩ := hf.get hs (fun t' ht => looksAt_op (by cases ht; simp [Op.operands, Call.operands])) hG
    refine Does.enter (vs := xs.toList.map a.eval ++ caps) ?_ (hcall i (hp hG) M w _ (Keeps.refl _ _) (fun _ h => .inl h) hm ha)
    rw [show (xs.toList.map a.eval ++ caps).toArray = xs.map a.eval ++ caps.toArray by simp]
    exact ex_callV hok hv

theorem Opd.func {f : Nat} {ι : Type} {pre : ι → Prop} {Ss : ι → List SPred} {S : ι → SPred} (hf : FnOK P f) (hspec : ∀ i, pre i → FSpec P f (Ss i) (S i)) : Opd L G (.func f) (fnv P pre Ss S) :=
  fun _ _ => ⟨f, [], rfl, hf, fun i hi _ _ vs _ _ hsz hall => by rw [List.append_nil]; exact (hspec i hi).calls _ _ _ hsz hall⟩

theorem ex_makeFunc {ρ : Operand → Value} {fn : Fn} {cs : Array Operand} {w : World} :
    (execOp ρ ⟨d, .makeFunc fn #[] cs, ty, pos, after, g⟩).run P w = .ok (.value (.func fn #[] (cs.map ρ))) w := by
  simp only [execOp, Array.map_empty]; rfl

/-- A function without parameters that gives x, where c holds. -/
abbrev thunk (P : Program) (c : Prop) {α : Type} [Rep α] (x : α) : SPred := fnv P (fun _ : Unit => c) (fun _ => []) (fun _ => rep x)

/-- A function literal. -/
theorem StepOK.makeFunc {f : Nat} {cs : Array Operand} {Cs : List SPred} {ι : Type} {pre : ι → Prop} {Ss : ι → List SPred} {S : ι → SPred} (hg : Guard ops g L G) (hf : FnOK P f)
    (hspec : ∀ i, pre i → FSpec P f (Ss i ++ Cs) (S i)) (hc : OpdL L G cs.toList Cs) :
    StepOK P ops fs ⟨d, .makeFunc (.func f) #[] cs, ty, pos, after, g⟩ L B (xr, []) ⟨G, fnv P pre Ss S⟩ [] :=
  .pure hg fun M a w hm hs hG => by
    have ha := hc.get hs (fun x hxm t ht => looksAt_op (by subst ht; simpa [Op.operands] using hxm)) hG
    refine ⟨_, ex_makeFunc, f, cs.toList.map a.eval, by rw [← List.map_toArray], hf, fun i hi M' w' vs hk hm' hsz hall => ?_⟩
    exact (hspec i hi).calls M' w' _ hsz (All2.append _ _ _ _ hall (All2.law hk hm' _ _ ha))

end

/-! Chains. -/

section
variable {P : Program} {ops : Array Oper} {n : Nat} {L : Slots} {B : Owns} {K : Slots → Owns → Prop} {rest : List Oper}

theorem Chain.nil {aux : List Aux} (h : K L B) : Chain P ops n [] aux L B K := h
theorem Chain.cons {d : Nat} {op : Op} {ty : TypeId} {pos : String} {after : Array Edge} {g : Option (Nat × Bool)} {E : Ent}
    (h : StepOK P ops n ⟨some d, op, ty, pos, after, g⟩ L B ([], []) E []) (hB : hasKey B d = false) (k : Chain P ops n rest [] ((d, E) :: L) B K) :
    Chain P ops n (⟨some d, op, ty, pos, after, g⟩ :: rest) [] L B K :=
  ⟨E, [], rfl, h, by simpa [pushB, dropB, hB, pushD] using k⟩
theorem Chain.consA {d : Nat} {op : Op} {ty : TypeId} {pos : String} {after : Array Edge} {g : Option (Nat × Bool)} {E : Ent} {xr : List Nat} {aux : List Aux}
    (h : StepOK P ops n ⟨some d, op, ty, pos, after, g⟩ L B (xr, []) E []) (hB : hasKey B d = false) (k : Chain P ops n rest aux ((d, E) :: L) B K) :
    Chain P ops n (⟨some d, op, ty, pos, after, g⟩ :: rest) ((xr, []) :: aux) L B K :=
  ⟨E, [], rfl, h, by simpa [pushB, dropB, hB, pushD] using k⟩
/-- The same, where the slot had memory of its own. -/
theorem Chain.consD {d : Nat} {op : Op} {ty : TypeId} {pos : String} {after : Array Edge} {g : Option (Nat × Bool)} {E : Ent} {xr : List Nat} {aux : List Aux}
    (h : StepOK P ops n ⟨some d, op, ty, pos, after, g⟩ L B (xr, []) E []) (hB : hasKey B d = true) (k : Chain P ops n rest aux ((d, E) :: L) ((d, none) :: B) K) :
    Chain P ops n (⟨some d, op, ty, pos, after, g⟩ :: rest) ((xr, []) :: aux) L B K :=
  ⟨E, [], rfl, h, by simpa [pushB, dropB, hB, pushD] using k⟩
/-- An operation that writes memory of one's own. -/
theorem Chain.consW {d : Nat} {op : Op} {ty : TypeId} {pos : String} {after : Array Edge} {g : Option (Nat × Bool)} {E : Ent} {xr xs : List Nat} {aux : List Aux} {W : Nat × Option CPred} {Ws : Writes}
    (h : StepOK P ops n ⟨some d, op, ty, pos, after, g⟩ L B (xr, xs) E (W :: Ws)) (hx : (W :: Ws).map (·.1) = xs) (hB : hasKey B d = false) (k : Chain P ops n rest aux ((d, E) :: L) (W :: (Ws ++ B)) K) :
    Chain P ops n (⟨some d, op, ty, pos, after, g⟩ :: rest) ((xr, xs) :: aux) L B K :=
  ⟨E, W :: Ws, hx, h, by simpa [pushB, dropB, hB, pushD] using k⟩
theorem Chain.consWD {d : Nat} {op : Op} {ty : TypeId} {pos : String} {after : Array Edge} {g : Option (Nat × Bool)} {E : Ent} {xr xs : List Nat} {aux : List Aux} {W : Nat × Option CPred} {Ws : Writes}
    (h : StepOK P ops n ⟨some d, op, ty, pos, after, g⟩ L B (xr, xs) E (W :: Ws)) (hx : (W :: Ws).map (·.1) = xs) (hB : hasKey B d = true) (k : Chain P ops n rest aux ((d, E) :: L) (W :: (Ws ++ (d, none) :: B)) K) :
    Chain P ops n (⟨some d, op, ty, pos, after, g⟩ :: rest) ((xr, xs) :: aux) L B K :=
  ⟨E, W :: Ws, hx, h, by simpa [pushB, dropB, hB, pushD] using k⟩
theorem Chain.consN {op : Op} {ty : TypeId} {pos : String} {after : Array Edge} {g : Option (Nat × Bool)} {E : Ent} {xr xs : List Nat} {aux : List Aux} {W : Nat × Option CPred} {Ws : Writes}
    (h : StepOK P ops n ⟨none, op, ty, pos, after, g⟩ L B (xr, xs) E (W :: Ws)) (hx : (W :: Ws).map (·.1) = xs) (k : Chain P ops n rest aux L (W :: (Ws ++ B)) K) :
    Chain P ops n (⟨none, op, ty, pos, after, g⟩ :: rest) ((xr, xs) :: aux) L B K :=
  ⟨E, W :: Ws, hx, h, by simpa [pushB, dropB, pushD] using k⟩

end

/-! Control. -/

section
variable {P : Program} {Q : Exit → Act → World → Prop} {n : Nat} {F : Fr} {L : Slots} {B : Owns}

def Cod (P : Program) (c : Code) (Q : Exit → Act → World → Prop) (n : Nat) (F : Fr) (L : Slots) (B : Owns) : Prop := ∀ a w, Sat n F L B a w → c.wp P Q a w
def Ends (Q : Exit → Act → World → Prop) (e : Exit) (n : Nat) (F : Fr) (L : Slots) (B : Owns) : Prop := ∀ a w, Sat n F L B a w → Q e a w

theorem Cod.seq {x y : Code} (h : Cod P x (Exit.then (y.wp P Q) Q) n F L B) : Cod P (.seq x y) Q n F L B := fun a w hs => wp_seq (h a w hs)
theorem Cod.skip (h : Ends Q .normal n F L B) : Cod P .skip Q n F L B := fun a w hs => wp_skip (h a w hs)
theorem Cod.ret (h : Ends Q .ret n F L B) : Cod P .ret Q n F L B := fun a w hs => wp_ret (h a w hs)
theorem Cod.exit {id : Nat} (h : Ends Q (.exit id) n F L B) : Cod P (.exit id) Q n F L B := fun a w hs => wp_exit (h a w hs)
theorem Cod.block {id : Nat} {c : Code} (h : Cod P c (Exit.inBlock id Q) n F L B) : Cod P (.block id c) Q n F L B := fun a w hs => wp_block (h a w hs)
theorem Cod.region {id : Nat} {l : List Oper} {draw : Bool} (aux : List Aux) (hm : P.follows .mixedOrders = true) (hok : regOk n l.toArray aux = true)
    (h : Chain P l.toArray n l aux L B (fun L' B' => Ends Q .normal n F L' B')) : Cod P (.region id l.toArray draw) Q n F L B :=
  fun _ _ hs => region_ops aux hm hok h hs

theorem Cod.cond {t : Nat} {x y : Code} {c : Prop} {b : Bool} (hl : look L t = some ⟨c, rep b⟩) (hc : c)
    (h1 : b = true → Cod P x Q n F L B) (h2 : b = false → Cod P y Q n F L B) : Cod P (.cond (.tmp t) x y) Q n F L B := by
  intro a w hs
  obtain ⟨M, D, hs1⟩ := id hs
  obtain ⟨v, hv, he⟩ := hs1.has t _ hl
  have hvb : v = .bool b := rep_bool.1 (he.1 hc)
  have hev : a.eval (.tmp t) = .bool b := by rw [Act.eval_tmp hv, hvb]
  cases b with
  | true => exact wp_cond_true hev (h1 rfl a w hs)
  | false => exact wp_cond_false hev (h2 rfl a w hs)

theorem Ends.then {y : Code} (h : Cod P y Q n F L B) : Ends (Exit.then (y.wp P Q) Q) .normal n F L B := h
theorem Ends.thenRet {K : Act → World → Prop} (h : Ends Q .ret n F L B) : Ends (Exit.then K Q) .ret n F L B := h
theorem Ends.thenExit {K : Act → World → Prop} {id : Nat} (h : Ends Q (.exit id) n F L B) : Ends (Exit.then K Q) (.exit id) n F L B := h
theorem Ends.blkNormal {id : Nat} (h : Ends Q .normal n F L B) : Ends (Exit.inBlock id Q) .normal n F L B := h
theorem Ends.blkRet {id : Nat} (h : Ends Q .ret n F L B) : Ends (Exit.inBlock id Q) .ret n F L B := h
theorem Ends.blkExit {id : Nat} (h : Ends Q .normal n F L B) : Ends (Exit.inBlock id Q) (.exit id) n F L B := fun a w hs => by
  show (if id = id then _ else _); rw [if_pos rfl]; exact h a w hs
theorem Ends.blkExitNe {id id' : Nat} (hne : ¬ id' = id) (h : Ends Q (.exit id') n F L B) : Ends (Exit.inBlock id Q) (.exit id') n F L B := fun a w hs => by
  show (if id' = id then _ else _); rw [if_neg hne]; exact h a w hs

/-- The slots may be told in other words. -/
def Sub (L L' : Slots) : Prop := ∀ t e, look L' t = some e → look L t = some e
def SubB (B B' : Owns) : Prop := ∀ t c, lookB B' t = some c → lookB B t = some c

theorem Sat.weaken {L' : Slots} {B' : Owns} {a : Act} {w : World} (hs : Sat n F L B a w) (h : Sub L L') (hB : SubB B B') : Sat n F L' B' a w := by
  obtain ⟨M, D, hs⟩ := hs
  exact ⟨M, D, hs.size, hs.defers, hs.keeps, hs.mf0, hs.mlow, hs.mhigh, hs.msub, fun t e he => hs.has t e (h t e he), fun t c hc => hs.hasB t c (hB t c hc),
    fun t c hc => hs.own t c (hB t c hc), fun t t' c c' h1 h2 => hs.apart t t' c c' (hB t c h1) (hB t' c' h2)⟩

theorem Sub.nil : Sub L [] := fun _ _ h => by cases h
theorem Sub.cons {L' : Slots} {t : Nat} {e : Ent} (h1 : look L t = some e) (h2 : Sub L L') : Sub L ((t, e) :: L') := by
  intro t' e' h
  simp only [look] at h
  by_cases hne : t = t'
  · subst hne
    simp at h; subst h; exact h1
  · rw [beq_ne hne, cond_false] at h; exact h2 t' e' h
theorem SubB.nil : SubB B [] := fun _ _ h => by cases h
theorem SubB.cons {B' : Owns} {t : Nat} {c : CPred} (h1 : lookB B t = some c) (h2 : SubB B B') : SubB B ((t, some c) :: B') := by
  intro t' e' h
  simp only [lookB] at h
  by_cases hne : t = t'
  · subst hne
    simp at h; subst h; exact h1
  · rw [beq_ne hne, cond_false] at h; exact h2 t' e' h

theorem Cod.weaken {c : Code} {L' : Slots} {B' : Owns} (h : Sub L L') (hB : SubB B B') (k : Cod P c Q n F L' B') : Cod P c Q n F L B :=
  fun a w hs => k a w (hs.weaken h hB)
theorem Ends.weaken {e : Exit} {L' : Slots} {B' : Owns} (h : Sub L L') (hB : SubB B B') (k : Ends Q e n F L' B') : Ends Q e n F L B :=
  fun a w hs => k a w (hs.weaken h hB)

/-- A loop: what holds at its head, told by i; a measure. -/
theorem Cod.loop {c : Code} {ι : Type} (Ls : ι → Slots) (Bs : ι → Owns) (μ : ι → Nat) (i0 : ι) (h0 : Sub L (Ls i0)) (hB0 : SubB B (Bs i0))
    (round : ∀ i, Cod P c (Exit.then (fun a w => ∃ j, μ j < μ i ∧ Sat n F (Ls j) (Bs j) a w) Q) n F (Ls i) (Bs i)) : Cod P (.loop c) Q n F L B := by
  intro a w hs b k cs
  have key : ∀ m i a w, μ i = m → Sat n F (Ls i) (Bs i) a w →
      ∃ e a' w', Q e a' w' ∧ Arrives P (lone (b.at a (.code c :: .inLoop c :: k)) cs w) b k cs e a' w' := by
    intro m
    induction m using Nat.strongRecOn with
    | _ m ih =>
      intro i a w hm hI
      obtain ⟨e, a₁, w₁, hq, harr⟩ := round i a w hI b (.inLoop c :: k) cs
      cases e with
      | normal =>
        obtain ⟨j, hlt, hI₁⟩ := hq
        obtain ⟨e₂, a₂, w₂, hq₂, harr₂⟩ := ih (μ j) (hm ▸ hlt) j a₁ w₁ rfl hI₁
        exact ⟨e₂, a₂, w₂, hq₂, .of_steps (Steps.trans harr (.one step_inLoop)) harr₂⟩
      | exit id => exact ⟨_, a₁, w₁, hq, .pass (x := .inLoop c) rfl (fun _ _ => .inl (by simp)) harr⟩
      | goto l => exact ⟨_, a₁, w₁, hq, .pass (x := .inLoop c) rfl (fun _ _ => .inl (by simp)) harr⟩
      | ret => exact ⟨_, a₁, w₁, hq, .pass (x := .inLoop c) rfl (fun _ _ => .inl (by simp)) harr⟩
      | panic ch => exact ⟨_, a₁, w₁, hq, .pass (x := .inLoop c) rfl (fun _ _ => .inl (by simp)) harr⟩
      | outgrown => exact ⟨_, a₁, w₁, hq, .pass (x := .inLoop c) rfl (fun _ _ => .inl (by simp)) harr⟩
  obtain ⟨e, a', w', hq, harr⟩ := key _ i0 a w rfl (hs.weaken h0 hB0)
  exact ⟨e, a', w', hq, .of_steps (.one step_loop) harr⟩

theorem Ends.again {ι : Type} {Ls : ι → Slots} {Bs : ι → Owns} {μ : ι → Nat} {i : ι} (j : ι) (hμ : μ j < μ i) (h : Sub L (Ls j)) (hB : SubB B (Bs j)) :
    Ends (Exit.then (fun a w => ∃ j, μ j < μ i ∧ Sat n F (Ls j) (Bs j) a w) Q) .normal n F L B := fun _ _ hs => ⟨j, hμ, hs.weaken h hB⟩

end
end Go.DB
