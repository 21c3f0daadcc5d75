/-
  A function's beginning and end; variables of its own in memory.
-/
import Derived.Test.YtieepiblancbpaaCore4
set_option linter.unusedSimpArgs false
set_option linter.unusedVariables false
namespace Go.DB
open Go Go.RowKit

/-! The beginning. -/

def args0 : Nat → List SPred → Slots
  | _, [] => []
  | k, S :: Ss => (k, ⟨True, S⟩) :: args0 (k + 1) Ss

theorem args0_look {M : MSet} {w : World} : ∀ (Ss : List SPred) (vs : List Value) (k t : Nat) (e : Ent), All2 M w Ss vs → look (args0 k Ss) t = some e →
    ∃ v, k ≤ t ∧ vs[t - k]? = some v ∧ e.holds M v w
  | [], _, _, _, _, _, h => by cases h
  | S :: Ss, [], _, _, _, ha, _ => ha.elim
  | S :: Ss, v :: vs, k, t, e, ha, h => by
    simp only [args0, look] at h
    by_cases hk : k = t
    · subst hk
      simp at h; subst h
      exact ⟨v, Nat.le_refl _, by simp, fun _ => ha.1, fun hf => (hf trivial).elim⟩
    · rw [beq_ne hk, cond_false] at h
      obtain ⟨u, h1, h2, h3⟩ := args0_look Ss vs (k + 1) t e ha.2 h
      refine ⟨u, by omega, ?_, h3⟩
      rw [show t - k = (t - (k + 1)) + 1 by omega]; simpa using h2

/-- What a body must come to. -/
def Post (w0 : World) (Mf : MSet) (S : SPred) (e : Ending) (w' : World) : Prop := Ext w0 w' ∧ ∃ v, e = .returned v ∧ S.p Mf v w'

theorem FSpec.intro {P : Program} {f n : Nat} {fn : Func} {c : Code} {Ss : List SPred} {S : SPred} (ok : FnOK P f) (hf : P.funcs[f]? = some fn) (hb : fn.body = some c) (hn : fn.ntmps = n)
    (hle : Nat.ble Ss.length n = true) (h : ∀ w0 Mf, Cod P c (bodyPost P fn (Post w0 Mf S)) n w0 Mf (args0 0 Ss) []) : FSpec P f Ss S := by
  refine ⟨ok, fun M w vs hM ha => ?_⟩
  have hl := ha.length
  have hle' : Ss.length ≤ n := Nat.le_of_ble_eq_true hle
  refine calls_of_wp hf hb (h w M _ _ ⟨M, ?_, rfl, Below.refl _ _, hM, fun _ h => h, fun _ h => .inl h, hM, ?_, fun t c h => (by cases h), fun t c _ _ h => (by cases h), fun t _ c _ _ _ _ h => (by cases h)⟩)
  · simp [hn, hl]; omega
  · intro t e he
    obtain ⟨v, _, h2, h3⟩ := args0_look Ss vs 0 t e ha he
    refine ⟨v, ?_, h3⟩
    simp at h2
    have hlt : t < vs.length := (List.getElem?_eq_some_iff.1 h2).1
    rw [Array.getElem?_append_left (by simpa using hlt)]
    simpa using h2

/-! Memory of one's own: a variable. -/

/-- A box of one's own, in which y stands. -/
def cont (T : TypeId) {α : Type} [Rep α] (y : α) : CPred where
  p := fun M v w => ∃ m cs, v = .pointer (some ⟨m, 0, none⟩) ∧ M m ∧ w.heap[m]? = some (.cells cs.toArray T (0, 0)) ∧ Rep.cells M y cs w
  inM := fun M v w m ⟨m', cs, hv, hM, _⟩ hb => by subst hv; simp [blk] at hb; subst hb; exact hM
  law := fun M M' v w w' hk hm hown ⟨m, cs, hv, hM, hh, hc⟩ => by
    obtain ⟨h1, h2⟩ := hown m (by subst hv; rfl)
    exact ⟨m, cs, hv, h1, by rw [h2]; exact hh, Rep.law hk hm hc⟩

def anyV : SPred := ⟨fun _ _ _ => True, fun _ _ _ _ _ _ _ _ => trivial⟩

/-- A pointer into block m, at off. -/
def isPtr (m off : Nat) : SPred := ⟨fun _ v _ => v = .pointer (some ⟨m, off, none⟩), fun _ _ _ _ _ _ _ h => h⟩

theorem cell_of_heap {w : World} {m j : Nat} {cs : Array Value} {T : TypeId} {fz : Nat × Nat} (h : w.heap[m]? = some (.cells cs T fz)) : w.cell? ⟨m, j, none⟩ = cs[j]? := by
  simp [World.cell?, h]

/-- The zero value of a type. -/
def ZeroOf (P : Program) (T : TypeId) {α : Type} [Rep α] (z : α) : Prop :=
  ∃ cs, (P.info? T).bind (·.zero) = some (mkv (Rep.agg α) cs) ∧ ∀ (M : MSet) (w : World), Rep.cells M z cs w

section
variable {P : Program} {ops : Array Oper} {fs : Nat} {L : Slots} {B : Owns} {G : Prop}
variable {d : Option Tmp} {ty : TypeId} {pos : String} {after : Array Edge} {xr : List Nat}

theorem ex_alloc {ρ : Operand → Value} {T : TypeId} {z : Value} {i : TypeInfo} {g : Option (Nat × Bool)} {w : World} (hi : P.info? T = some i) (hz : i.zero = some z) :
    (execOp ρ ⟨d, .alloc T, ty, pos, after, g⟩).run P w = .ok (.value (.pointer (some ⟨w.heap.size, 0, none⟩))) (w.alloc (.cells z.cells T)) := by
  have h1 : (zeroValue T).run P w = .ok z w := by simp [zeroValue, typeInfo, hi, hz, go_sem]
  simp only [execOp, Instr.alloc]
  rw [Sem.run_bind, Sem.run_bind, h1]
  rfl

theorem put_self {a : Act} {t : Nat} {v : Value} (h : t < a.tmps.size) : (a.put (some t) v).tmps[t]? = some v := by simp [Act.put, h]

theorem StepOK.alloc {T d : Nat} {α : Type} [Rep α] {z : α} (hz : ZeroOf P T z) (hd : Nat.blt d fs = true) :
    StepOK P ops fs ⟨some d, .alloc T, ty, pos, after, none⟩ L B xr ⟨True, anyV⟩ (some (d, cont T z)) := by
  intro M a w hsz hm _ _
  obtain ⟨cs, hiz, hc⟩ := hz
  obtain ⟨i, hi, hzv⟩ := Option.bind_eq_some_iff.1 hiz
  have hw : Region.wanted (⟨some d, .alloc T, ty, pos, after, none⟩ : Oper) (yielded ops a.tmps) = true := rfl
  rw [if_pos hw]
  have hcs : (mkv (Rep.agg α) cs).cells = cs.toArray := Rep.flat (hc M w)
  refine Does.value (ex_alloc hi hzv) ⟨fun k => M k ∨ k = w.heap.size, (Ext.alloc _ _).keeps, fun k h => .inl h, fun k h => ?_, fun k h => ?_, ⟨fun _ => trivial, fun hf => (hf trivial).elim⟩,
    _, put_self (by rw [hsz]; exact Nat.le_of_ble_eq_true hd), ?_, ?_⟩
  · rcases h with h | h
    · exact .inl h
    · exact .inr (by omega)
  · rw [size_new]
    rcases h with h | h
    · have := hm k h; omega
    · omega
  · refine ⟨w.heap.size, cs, rfl, .inr rfl, ?_, hc _ _⟩
    rw [hcs]
    show (w.heap.push _)[w.heap.size]? = _
    rw [Array.getElem?_push_size]
  · intro m hb
    simp [blk] at hb
    exact .inr (by omega)

/-- Stores, cell by cell. -/
theorem run_storeCells {m : Nat} {T : TypeId} : ∀ (vs pre rest : List Value) (w : World), rest.length = vs.length → (∀ c ∈ vs, isOne c = true) →
    w.heap[m]? = some (.cells (pre ++ rest).toArray T (0, 0)) →
    ∃ w', (storeCells ⟨m, 0, none⟩ vs pre.length).run P w = .ok () w' ∧ w'.heap[m]? = some (.cells (pre ++ vs).toArray T (0, 0)) ∧
      w'.os = w.os ∧ w'.tape = w.tape ∧ w'.output = w.output ∧ w'.heap.size = w.heap.size ∧ ∀ k, k ≠ m → w'.heap[k]? = w.heap[k]?
  | [], pre, rest, w, hl, _, hh => by
    have : rest = [] := List.length_eq_zero_iff.1 hl
    subst this
    exact ⟨w, rfl, hh, rfl, rfl, rfl, rfl, fun _ _ => rfl⟩
  | v :: vs, pre, rest, w, hl, hp, hh => by
    match rest, hl with
    | r :: rest, hl =>
      have hcell : w.cell? ⟨m, pre.length, none⟩ = some r := by rw [cell_of_heap hh]; simp
      have hfz : w.frozen? ⟨m, pre.length, none⟩ = false := by simp [World.frozen?, hh]
      have hv := hp v List.mem_cons_self
      have hst : (store ⟨m, pre.length, none⟩ v).run P w = .ok () (w.setCell ⟨m, pre.length, none⟩ v) := by
        unfold store
        cases v <;> first | (simp [isOne] at hv; done) | simp [Sem.run, hcell, hfz]
      have hheap : (w.setCell ⟨m, pre.length, none⟩ v).heap[m]? = some (.cells ((pre ++ [v]) ++ rest).toArray T (0, 0)) := by
        simp [World.setCell, Array.getElem?_modify, hh]
      obtain ⟨w', h1, h2, h3, h4, h5, h6, h7⟩ := run_storeCells vs (pre ++ [v]) rest (w.setCell ⟨m, pre.length, none⟩ v) (by simpa using hl) (fun c hc => hp c (List.mem_cons_of_mem _ hc)) hheap
      refine ⟨w', ?_, by simpa using h2, h3.trans rfl, h4.trans rfl, h5.trans rfl, h6.trans (by simp [World.setCell]), fun k hk => ?_⟩
      · simp only [storeCells, add_none, Nat.zero_add]
        rw [Sem.run_bind, hst]
        simp only [Result.andThen]
        simpa using h1
      · rw [h7 k hk]
        simp only [World.setCell, Array.getElem?_modify]
        rw [if_neg (Ne.symm hk)]

theorem run_storeAt {T : TypeId} {α : Type} [Rep α] (hT : Ty P T α) {m : Nat} {cs old : List Value} {w : World} (hl : cs.length = Rep.sz α) (hold : old.length = Rep.sz α)
    (hp : ∀ c ∈ cs, isOne c = true) (hf : (mkv (Rep.agg α) cs).cells = cs.toArray) {T' : TypeId} (hh : w.heap[m]? = some (.cells old.toArray T' (0, 0))) :
    ∃ w', (Instr.storeAt T (.pointer (some ⟨m, 0, none⟩)) (mkv (Rep.agg α) cs)).run P w = .ok () w' ∧ w'.heap[m]? = some (.cells cs.toArray T' (0, 0)) ∧
      w'.os = w.os ∧ w'.tape = w.tape ∧ w'.output = w.output ∧ w'.heap.size = w.heap.size ∧ ∀ k, k ≠ m → w'.heap[k]? = w.heap[k]? := by
  obtain ⟨w', h1, h2⟩ := run_storeCells (P := P) (m := m) (T := T') cs [] old w (by rw [hl, hold]) hp (by simpa using hh)
  refine ⟨w', ?_, by simpa using h2⟩
  obtain ⟨i, hi, hsize⟩ := Option.map_eq_some_iff.1 hT.size
  have hs : (sizeOf T).run P w = .ok (Rep.sz α) w := by simp [sizeOf, typeInfo, hi, hsize, go_sem]
  simp only [Instr.storeAt, Instr.sureAddr, storeVar, hf]
  rw [Sem.run_bind]
  simp only [Sem.run_pure, Result.andThen]
  rw [Sem.run_bind, hs]
  simp only [Result.andThen]
  rw [if_neg (by simp [hl])]
  simpa using h1

theorem StepOK.store {T T' t : Nat} {x : Operand} {α : Type} [Rep α] {y y0 : α} (hT : Ty P T α) (hl : lookB B t = some (cont T' y0)) (hx : Opd L True x (rep y)) (ht : [t] = xr) :
    StepOK P ops fs ⟨none, .store T (.tmp t) x, ty, pos, after, none⟩ L B xr ⟨True, anyV⟩ (some (t, cont T' y)) := by
  subst ht
  intro M a w hsz hm hs hsB
  have hw : Region.wanted (⟨none, .store T (.tmp t) x, ty, pos, after, none⟩ : Oper) (yielded ops a.tmps) = true := rfl
  rw [if_pos hw]
  obtain ⟨v, hv, m, old, hvm, hM, hh, hold⟩ := hsB t (by simp) _ hl
  obtain ⟨cs, hc, hxv⟩ := hx.get hs (fun t ht => looksAt_op (by simp [Op.operands, ht])) trivial
  have hat : a.eval (.tmp t) = .pointer (some ⟨m, 0, none⟩) := by rw [Act.eval_tmp hv, hvm]
  obtain ⟨w', h1, h2, h3, h4, h5, h6, h7⟩ := run_storeAt (w := w) hT (Rep.len hc) (Rep.len hold) (Rep.plain hc) (Rep.flat hc) hh
  have hrun : (execOp a.eval ⟨none, .store T (.tmp t) x, ty, pos, after, none⟩).run P w = .ok .skip w' := by
    simp only [execOp, hat, hxv]
    rw [Sem.run_bind, h1]
    rfl
  have hkeep : Keeps (Mine [t] B t a) w w' := ⟨h3, h4, h5, by omega, fun k _ hn => h7 k (fun e => hn ⟨by simp, _, v, hl, hv, by rw [hvm, e]; rfl⟩)⟩
  have hkM : Keeps M w w' := ⟨h3, h4, h5, by omega, fun k _ hn => h7 k (fun e => hn (e ▸ hM))⟩
  unfold Does Oper.wp
  rw [hrun]
  refine ⟨undef, rfl, M, hkeep, fun _ h => h, fun _ h => .inl h, fun k h => by rw [h6]; exact hm k h, ⟨fun _ => trivial, fun hf => (hf trivial).elim⟩, v, ?_, ?_, ?_⟩
  · exact hv
  · exact ⟨m, cs, hvm, hM, h2, Rep.law hkM (fun _ h => .inl h) hc⟩
  · intro k hb
    exact .inl ⟨by simp, _, v, hl, hv, hb⟩

/-- A load out of one's own variable. -/
theorem StepOK.loadOwn {T T' t : Nat} {α : Type} [Rep α] {y : α} {g : Option (Nat × Bool)} (hg : Guard ops g L G) (hT : Ty P T α) (hl : lookB B t = some (cont T' y)) (ht : [t] = xr) :
    StepOK P ops fs ⟨d, .load T (.tmp t), ty, pos, after, g⟩ L B xr ⟨G, rep y⟩ none := by
  subst ht
  refine .of hg fun M a w _ _ hsB _ => ?_
  obtain ⟨v, hv, m, cs, hvm, hM, hh, hc⟩ := hsB t (by simp) _ hl
  have hat : a.eval (.tmp t) = .pointer (some ⟨m, 0, none⟩) := by rw [Act.eval_tmp hv, hvm]
  refine Does.value (v := mkv (Rep.agg α) cs) (w' := w) ?_ ⟨Keeps.refl _ _, cs, hc, rfl⟩
  have := run_loadAt (P := P) hT hc (b := m) (off := 0) (fun j _ => by rw [cell_of_heap hh]; simp)
  simp only [execOp, hat, Sem.run_bind, this, Result.andThen, Sem.run_pure]

/-- The place of a field of one's own variable, and the load from there. -/
theorem StepOK.fieldPtr {S f off m o : Nat} {x : Operand} {g : Option (Nat × Bool)} (hg : Guard ops g L G) (hF : FieldAt P S f off) (hx : Opd L G x (isPtr m o)) :
    StepOK P ops fs ⟨d, .fieldAddr S x f, ty, pos, after, g⟩ L B xr ⟨G, isPtr m (o + off)⟩ none :=
  .pure hg fun M a w _ hs hG => by
    have hv : a.eval x = _ := hx.get hs (fun t ht => looksAt_op (by simp [Op.operands, ht])) hG
    obtain ⟨fds, fd, hu, hf, hoff, hsz0⟩ := hF
    obtain ⟨i, hi, hne⟩ := sizeNe hsz0
    refine ⟨.pointer (some ⟨m, o + off, none⟩), ?_, rfl⟩
    have hsz : (sizeOf fd.type).run P w = .ok i.size w := by simp [sizeOf, typeInfo, hi, go_sem]
    have hpl : (fieldPlace ⟨m, o, none⟩ fd).run P w = .ok ⟨m, o + off, none⟩ w := by
      unfold fieldPlace
      rw [Sem.run_bind, hsz]
      simp only [Result.andThen, hne, if_false, Sem.run_pure, add_none, hoff]
    have hun : (underlying S).run P w = .ok (.struct fds) w := by simp [underlying, hu, go_sem]
    simp only [execOp, hv, Instr.fieldAt, Instr.sureAddr, Sem.run_bind, hun, hf, Result.andThen, Sem.run_pure, hpl]

theorem StepOK.loadField {T T' t m off : Nat} {x : Operand} {α β : Type} [Rep α] [Rep β] {proj : α → β} {y : α} {g : Option (Nat × Bool)} (hg : Guard ops g L G) (hT : Ty P T β)
    (hl : lookB B t = some (cont T' y)) (hp : look L t = some ⟨True, isPtr m 0⟩) (hx : Opd L G x (isPtr m off)) (hH : HasField α β off proj) (ht : [t] = xr) :
    StepOK P ops fs ⟨d, .load T x, ty, pos, after, g⟩ L B xr ⟨G, rep (proj y)⟩ none := by
  subst ht
  refine .of hg fun M a w _ hs hsB hG => ?_
  obtain ⟨v, hv, m', cs, hvm, hM, hh, hc⟩ := hsB t (by simp) _ hl
  obtain ⟨v', hv', he⟩ := hs t (by simp) _ hp
  obtain rfl : v = v' := by rw [hv] at hv'; simpa using hv'
  have hmm : m' = m := by
    have h1 : v = .pointer (some ⟨m, 0, none⟩) := he.1 trivial
    rw [h1] at hvm; simp at hvm; exact hvm.symm
  subst hmm
  have hat : a.eval x = .pointer (some ⟨m', off, none⟩) := hx.get hs (fun t ht => looksAt_op (by simp [Op.operands, ht])) hG
  obtain ⟨fcs, hf, hj⟩ := hH.2 M y cs w hc
  refine Does.value (v := mkv (Rep.agg β) fcs) (w' := w) ?_ ⟨Keeps.refl _ _, fcs, hf, rfl⟩
  have := run_loadAt (P := P) hT hf (b := m') (off := off) (fun j hjl => by rw [cell_of_heap hh, hj j hjl]; simp)
  simp only [execOp, hat, Sem.run_bind, this, Result.andThen, Sem.run_pure]

theorem Chain.alloc {n d T : Nat} {K : Slots → Owns → Prop} {rest : List Oper} {aux : List Aux} {α : Type} [Rep α] {z : α} (hz : ZeroOf P T z) (hd : Nat.blt d n = true) (hB : hasKey B d = false)
    (k : Chain P ops n rest aux ((d, ⟨True, anyV⟩) :: L) ((d, some (cont T z)) :: B) K) :
    Chain P ops n (⟨some d, .alloc T, ty, pos, after, none⟩ :: rest) (([], some d) :: aux) L B K :=
  ⟨_, some (d, cont T z), rfl, .alloc hz hd, by simpa [pushB, dropB, hB, pushD] using k⟩
theorem Chain.store {n T T' t : Nat} {x : Operand} {K : Slots → Owns → Prop} {rest : List Oper} {aux : List Aux} {α : Type} [Rep α] {y y0 : α} (hT : Ty P T α) (hl : lookB B t = some (cont T' y0)) (hx : Opd L True x (rep y))
    (k : Chain P ops n rest aux L ((t, some (cont T' y)) :: B) K) :
    Chain P ops n (⟨none, .store T (.tmp t) x, ty, pos, after, none⟩ :: rest) (([t], some t) :: aux) L B K :=
  ⟨_, some (t, cont T' y), rfl, .store hT hl hx rfl, by simpa [pushB, dropB, pushD] using k⟩

end

/-! What is one's own is opened, and given away. -/

section
variable {P : Program} {Q : Exit → Act → World → Prop} {n : Nat} {w0 : World} {Mf : MSet} {L : Slots} {B : Owns}

theorem Cod.openB {c : Code} {t T : Nat} {α : Type} [Rep α] {y : α} (hl : lookB B t = some (cont T y)) (k : ∀ m, Cod P c Q n w0 Mf ((t, ⟨True, isPtr m 0⟩) :: L) B) : Cod P c Q n w0 Mf L B := by
  intro a w hs
  obtain ⟨M, h⟩ := id hs
  obtain ⟨v, hv, m, cs, hvm, hM, hh, hc⟩ := h.hasB t _ hl
  refine k m a w ⟨M, h.size, h.defers, h.below, h.mf0, h.mlow, h.mhigh, h.msub, fun t' e he => ?_, h.hasB, h.own, h.apart⟩
  simp only [look] at he
  by_cases hne : t = t'
  · subst hne
    simp at he; subst he
    exact ⟨v, hv, fun _ => hvm, fun hf => (hf trivial).elim⟩
  · rw [beq_ne hne, cond_false] at he; exact h.has t' e he

/-- A variable that is written no more. -/
theorem Cod.freeze {c : Code} {t T : Nat} {α : Type} [Rep α] {y : α} {B' : Owns} (hl : lookB B t = some (cont T y)) (hB : SubB B B') (hn : hasKey B' t = false)
    (k : Cod P c Q n w0 Mf ((t, ⟨True, ref y⟩) :: L) B') : Cod P c Q n w0 Mf L B := by
  intro a w hs
  obtain ⟨M, h⟩ := id hs
  obtain ⟨v, hv, m, cs, hvm, hM, hh, hc⟩ := h.hasB t _ hl
  have hmlt := h.msub m hM
  have hlow : ∀ k, (M k ∧ k ≠ m) → M k ∨ w.heap.size ≤ k := fun k h => .inl h.1
  refine k a w ⟨fun k => M k ∧ k ≠ m, h.size, h.defers, h.below, h.mf0, fun k hk => ⟨h.mlow k hk, fun e => ?_⟩, fun k hk => h.mhigh k hk.1, fun k hk => h.msub k hk.1, fun t' e he => ?_, fun t' c' hc' => ?_,
    fun t' c' v' m' hc' => h.own t' c' v' m' (hB t' c' hc'), fun t1 t2 c1 c2 v1 v2 m' h1 h2 => h.apart t1 t2 c1 c2 v1 v2 m' (hB t1 c1 h1) (hB t2 c2 h2)⟩
  · -- a block of one's own is none of the caller's
    subst e
    exact absurd hk (fun hk => by
      have h1 := h.own t _ v k hl hv (by rw [hvm]; rfl)
      have h2 := h.mf0 k hk
      omega)
  · simp only [look] at he
    by_cases hne : t = t'
    · subst hne
      simp at he; subst he
      exact ⟨v, hv, fun _ => ⟨m, 0, cs, hvm, fun hf => hf.2 rfl, hmlt, Rep.law (Keeps.refl M w) hlow hc, fun j _ => by rw [cell_of_heap hh]; simp⟩, fun hf => (hf trivial).elim⟩
    · rw [beq_ne hne, cond_false] at he
      obtain ⟨v', h1, h2⟩ := h.has t' e he
      exact ⟨v', h1, Ent.holds_law (Keeps.refl M w) hlow h2⟩
  · have hne : t' ≠ t := fun e => by subst e; rw [lookB_none hn] at hc'; cases hc'
    obtain ⟨v', h1, h2⟩ := h.hasB t' c' (hB t' c' hc')
    refine ⟨v', h1, c'.law M _ v' w w (Keeps.refl M w) hlow (fun m' hm' => ⟨⟨c'.inM _ _ _ _ h2 hm', fun e => ?_⟩, rfl⟩) h2⟩
    subst e
    exact h.apart t t' _ c' v v' m' hl (hB t' c' hc') (Ne.symm hne) hv h1 (by rw [hvm]; rfl) hm'

end
end Go.DB
