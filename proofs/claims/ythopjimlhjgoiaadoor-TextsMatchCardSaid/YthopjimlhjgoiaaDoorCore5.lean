/-
  A function's beginning and end; variables of its own in memory.
-/
import Derived.Test.YthopjimlhjgoiaaDoorCore4
set_option linter.unusedSimpArgs false
set_option linter.unusedVariables false
namespace Go.DB
open Go Go.RowKit

/-! The beginning. -/

def args0 : Nat → List SPred → Slots
  | _, [] => []
  | k, S :: Ss => (k, ⟨True, S⟩) :: args0 (k + 1) Ss

theorem args0_look {M : MSet} {w : World} : ∀ (Ss : List SPred) (vs : List Value) (k t : Nat) (e : Ent), All2 M w Ss vs → look (args0 k Ss) t = some e →
    ∃ v, k ≤ t ∧ vs[t - k]? = some v ∧ e.holds M v w
  | [], _, _, _, _, _, h => by cases h
  | S :: Ss, [], _, _, _, ha, _ => ha.elim
  | S :: Ss, v :: vs, k, t, e, ha, h => by
    simp only [args0, look] at h
    by_cases hk : k = t
    · subst hk
      simp at h; subst h
      exact ⟨v, Nat.le_refl _, by simp, fun _ => ha.1, fun hf => (hf trivial).elim⟩
    · rw [beq_ne hk, cond_false] at h
      obtain ⟨u, h1, h2, h3⟩ := args0_look Ss vs (k + 1) t e ha.2 h
      refine ⟨u, by omega, ?_, h3⟩
      rw [show t - k = (t - (k + 1)) + 1 by omega]; simpa using h2

/-- What a body must come to: the caller's blocks are as they were, but those of M0; what the outs hold (the last one may be the result's own memory). -/
def PostO (F : Fr) (S : SPred) (an : List Value) (outs : List (Option CPred)) (e : Ending) (w' : World) : Prop :=
  ∃ (v : Value) (M' : MSet) (D' : Nat → MSet), e = .returned v ∧ Keeps F.M0 F.w0 w' ∧ (∀ k, F.Mf k → M' k ∨ F.M0 k) ∧ (∀ k, M' k → F.Mf k ∨ F.w0.heap.size ≤ k) ∧ (∀ k, M' k → k < w'.heap.size) ∧ S.p M' v w' ∧
    (∀ (i : Nat) (c : CPred), outs[i]? = some (some c) → c.p M' (D' i) (((an ++ [v])[i]?).getD undef) w' ∧ ∀ k, D' i k → F.M0 k ∨ F.w0.heap.size ≤ k) ∧
    (∀ (i j : Nat) (c c' : CPred), outs[i]? = some (some c) → outs[j]? = some (some c') → i ≠ j → ∀ k, D' i k → ¬ D' j k)

def Post (F : Fr) (S : SPred) : Ending → World → Prop := PostO F S [] []

/-- What is handed over: values, and what the memory behind them holds. -/
abbrev Given := List (Value × CPred)

structure OwnL (M : MSet) (D : Nat → MSet) (w : World) (Os : Given) : Prop where
  has : ∀ (i : Nat) (s : Value) (c : CPred), Os[i]? = some (s, c) → c.p M (D i) s w
  apart : ∀ (i j : Nat) (x y : Value × CPred), Os[i]? = some x → Os[j]? = some y → i ≠ j → ∀ k, D i k → ¬ D j k

def DU (D : Nat → MSet) (n : Nat) : MSet := fun k => ∃ i, i < n ∧ D i k

/-- The contract of a function that writes memory that is handed over. -/
structure FSpecO (P : Program) (f : Nat) (Ss : List SPred) (Os : Given) (S : SPred) (outs : List (Option CPred)) : Prop where
  ok : FnOK P f
  calls : ∀ (M : MSet) (D : Nat → MSet) (w : World) (vs : List Value), Low M w → All2 M w Ss vs → OwnL M D w Os →
    Calls P f vs.toArray w (PostO ⟨w, M, DU D Os.length⟩ S (Os.map (·.1)) outs)

/-- Memory that is held for a value that is told. -/
def CPred.at (s : Value) (C : CPred) : CPred where
  p := fun M D _ w => C.p M D s w
  inM := fun M D _ w h => C.inM M D s w h
  law := fun M M' D _ w w' hk hm hD h => C.law M M' D s w w' hk hm hD h

def owns0 : Nat → Given → Owns
  | _, [] => []
  | k, (s, c) :: Os => (k, some (CPred.at s c)) :: owns0 (k + 1) Os

theorem owns0_look : ∀ (Os : Given) (k t : Nat) (c : CPred), lookB (owns0 k Os) t = some c → k ≤ t ∧ ∃ s C, Os[t - k]? = some (s, C) ∧ c = CPred.at s C
  | [], _, _, _, h => by cases h
  | (s, C) :: Os, k, t, c, h => by
    simp only [owns0, lookB] at h
    by_cases hk : k = t
    · subst hk
      simp at h; subst h
      exact ⟨Nat.le_refl _, s, C, by simp, rfl⟩
    · rw [beq_ne hk, cond_false] at h
      obtain ⟨h1, s', C', h2, h3⟩ := owns0_look Os (k + 1) t c h
      refine ⟨by omega, s', C', ?_, h3⟩
      rw [show t - k = (t - (k + 1)) + 1 by omega]; simpa using h2

theorem FSpecO.intro {P : Program} {f n : Nat} {fn : Func} {c : Code} {Ss : List SPred} {Os : Given} {S : SPred} {outs : List (Option CPred)} (ok : FnOK P f) (hf : P.funcs[f]? = some fn) (hb : fn.body = some c) (hn : fn.ntmps = n)
    (hle : Nat.ble Ss.length n = true) (h : ∀ F, Cod P c (bodyPost P fn (PostO F S (Os.map (·.1)) outs)) n F (args0 0 Ss) (owns0 n Os)) : FSpecO P f Ss Os S outs := by
  refine ⟨ok, fun M D w vs hM ha hO => ?_⟩
  have hl := ha.length
  have hle' : Ss.length ≤ n := Nat.le_of_ble_eq_true hle
  have keys : ∀ t c, lookB (owns0 n Os) t = some c → n ≤ t ∧ ∃ s C, Os[t - n]? = some (s, C) ∧ c = CPred.at s C := fun t c h => owns0_look Os n t c h
  refine calls_of_wp hf hb (h ⟨w, M, DU D Os.length⟩ _ _ ⟨M, fun t => D (t - n), ?_, rfl, Keeps.refl _ _, hM, fun _ h => .inl h, fun _ h => .inl h, hM, ?_, ?_, ?_, ?_⟩)
  · simp [hn, hl]; omega
  · intro t e he
    obtain ⟨v, _, h2, h3⟩ := args0_look Ss vs 0 t e ha he
    refine ⟨v, ?_, h3⟩
    simp at h2
    have hlt : t < vs.length := (List.getElem?_eq_some_iff.1 h2).1
    rw [Array.getElem?_append_left (by simpa using hlt)]
    simpa using h2
  · intro t c hc
    obtain ⟨_, s, C, h1, rfl⟩ := keys t c hc
    have := hO.has _ _ _ h1
    exact this
  · intro t c hc k hk
    obtain ⟨_, s, C, h1, rfl⟩ := keys t c hc
    exact .inl ⟨_, (List.getElem?_eq_some_iff.1 h1).1, hk⟩
  · intro t t' c c' hc hc' hne
    obtain ⟨hge, s, C, h1, rfl⟩ := keys t c hc
    obtain ⟨hge', s', C', h1', rfl⟩ := keys t' c' hc'
    exact hO.apart _ _ _ _ h1 h1' (by omega)

theorem FSpecO.pure {P : Program} {f : Nat} {Ss : List SPred} {S : SPred} (h : FSpecO P f Ss [] S []) : FSpec P f Ss S :=
  ⟨h.ok, fun M w vs hM ha => Calls.mono (h.calls M (fun _ => NoM) w vs hM ha ⟨fun i s c h => by simp at h, fun i j x y h => by simp at h⟩) fun e w' ⟨v, M', D', he, hk, hml, hmh, hms, hS, _, _⟩ => by
    have no : ∀ k, ¬ DU (fun _ => NoM) ([] : Given).length k := fun k ⟨i, hi, _⟩ => by simp at hi
    refine ⟨⟨hk.os, hk.tape, hk.output, hk.size, fun k hlt _ => hk.block k hlt (no k)⟩, v, he, S.law M' M v w' w' (Keeps.refl _ _) (fun k h => .inl ((hml k h).resolve_right (no k))) hS⟩⟩

theorem FSpec.intro {P : Program} {f n : Nat} {fn : Func} {c : Code} {Ss : List SPred} {S : SPred} (ok : FnOK P f) (hf : P.funcs[f]? = some fn) (hb : fn.body = some c) (hn : fn.ntmps = n)
    (hle : Nat.ble Ss.length n = true) (h : ∀ F, Cod P c (bodyPost P fn (Post F S)) n F (args0 0 Ss) []) : FSpec P f Ss S :=
  (FSpecO.intro (Os := []) ok hf hb hn hle h).pure

/-! Memory of one's own: a variable. -/

/-- A box of one's own, in which y stands. -/
def cont (T : TypeId) {α : Type} [Rep α] (y : α) : CPred where
  p := fun M D v w => ∃ m cs, v = .pointer (some ⟨m, 0, none⟩) ∧ (∀ k, D k ↔ k = m) ∧ M m ∧ w.heap[m]? = some (.cells cs.toArray T (0, 0)) ∧ Rep.cells M y cs w
  inM := fun M D v w ⟨m, cs, hv, hD, hM, _⟩ k hk => (hD k).1 hk ▸ hM
  law := fun M M' D v w w' hk hm hown ⟨m, cs, hv, hD, hM, hh, hc⟩ => by
    obtain ⟨h1, h2⟩ := hown m ((hD m).2 rfl)
    exact ⟨m, cs, hv, hD, h1, by rw [h2]; exact hh, Rep.law hk hm hc⟩

/-- A value that is told. -/
structure Raw where
  v : Value

instance : Rep Raw where
  sz := 1
  agg := false
  cells := fun _ x cs _ => cs = [x.v] ∧ isOne x.v = true ∧ x.v.cells = #[x.v]
  len := fun h => by rw [h.1]; rfl
  pos := by decide
  flat := fun h => by rw [h.1]; exact h.2.2
  plain := fun h c hc => by rw [h.1] at hc; simp at hc; rw [hc]; exact h.2.1
  law := fun _ _ h => h

/-- The value is s. -/
abbrev isV (s : Value) : SPred := rep (⟨s⟩ : Raw)

theorem rep_raw {s : Value} {M : MSet} {v : Value} {w : World} : (isV s).p M v w ↔ v = s ∧ isOne s = true ∧ s.cells = #[s] := by
  constructor
  · rintro ⟨cs, ⟨h, hi⟩, hv⟩; subst h; exact ⟨hv, hi⟩
  · rintro ⟨h, hi⟩; exact ⟨[s], ⟨rfl, hi⟩, h⟩

/-- A pointer into block m, at off. -/
abbrev ptr (m off : Nat) : Value := .pointer (some ⟨m, off, none⟩)

theorem isV_ptr {m off : Nat} {M : MSet} {w : World} : (isV (ptr m off)).p M (ptr m off) w := rep_raw.2 ⟨rfl, rfl, rfl⟩

/-- A box at m. -/
abbrev boxAt (m : Nat) (T : TypeId) {α : Type} [Rep α] (y : α) : CPred := CPred.at (ptr m 0) (cont T y)

def anyV : SPred := ⟨fun _ _ _ => True, fun _ _ _ _ _ _ _ _ => trivial⟩

theorem cell_of_heap {w : World} {m j : Nat} {cs : Array Value} {T : TypeId} {fz : Nat × Nat} (h : w.heap[m]? = some (.cells cs T fz)) : w.cell? ⟨m, j, none⟩ = cs[j]? := by
  simp [World.cell?, h]

/-- The zero value of a type. -/
def ZeroOf (P : Program) (T : TypeId) {α : Type} [Rep α] (z : α) : Prop :=
  ∃ cs, (P.info? T).bind (·.zero) = some (mkv (Rep.agg α) cs) ∧ ∀ (M : MSet) (w : World), Rep.cells M z cs w

/-- A part of a struct is written. -/
def SetField (α β : Type) [Rep α] [Rep β] (off : Nat) (set : α → β → α) : Prop :=
  off + Rep.sz β ≤ Rep.sz α ∧ ∀ (M : MSet) (x : α) (z : β) (cs zs : List Value) (w : World), Rep.cells M x cs w → Rep.cells M z zs w → Rep.cells M (set x z) (cs.take off ++ zs ++ cs.drop (off + Rep.sz β)) w

theorem SetField.self {α : Type} [Rep α] : SetField α α 0 (fun _ z => z) := ⟨by simp, fun M x z cs zs w h1 h2 => by
  rw [List.take_zero, List.nil_append, List.drop_eq_nil_of_le (by rw [Rep.len h1]; omega), List.append_nil]; exact h2⟩
theorem SetField.fst {α β γ : Type} [Rep α] [Rep β] [Rep γ] {off : Nat} {f : α → γ → α} (h : SetField α γ off f) : SetField (α × β) γ off (fun x z => (f x.1 z, x.2)) := by
  refine ⟨Nat.le_trans h.1 (Nat.le_add_right _ _), ?_⟩
  rintro M x z cs zs w ⟨c1, c2, rfl, h1, h2⟩ hz
  refine ⟨c1.take off ++ zs ++ c1.drop (off + Rep.sz γ), c2, ?_, h.2 M x.1 z c1 zs w h1 hz, h2⟩
  have := h.1
  rw [List.take_append_of_le_length (by rw [Rep.len h1]; omega), List.drop_append_of_le_length (by rw [Rep.len h1]; omega)]
  simp
theorem SetField.snd {α β γ : Type} [Rep α] [Rep β] [Rep γ] {off : Nat} {f : β → γ → β} (h : SetField β γ off f) : SetField (α × β) γ (Rep.sz α + off) (fun x z => (x.1, f x.2 z)) := by
  refine ⟨by have := h.1; show _ ≤ Rep.sz α + Rep.sz β; omega, ?_⟩
  rintro M x z cs zs w ⟨c1, c2, rfl, h1, h2⟩ hz
  refine ⟨c1, c2.take off ++ zs ++ c2.drop (off + Rep.sz γ), ?_, h1, h.2 M x.2 z c2 zs w h2 hz⟩
  have hl := Rep.len h1
  rw [← hl, List.take_length_add_append, show c1.length + off + Rep.sz γ = c1.length + (off + Rep.sz γ) by omega, List.drop_length_add_append]
  simp

section
variable {P : Program} {ops : Array Oper} {fs : Nat} {L : Slots} {B : Owns} {G : Prop}
variable {d : Option Tmp} {ty : TypeId} {pos : String} {after : Array Edge} {xr : List Nat}

theorem ex_alloc {ρ : Operand → Value} {T : TypeId} {z : Value} {i : TypeInfo} {g : Option (Nat × Bool)} {w : World} (hi : P.info? T = some i) (hz : i.zero = some z) :
    (execOp ρ ⟨d, .alloc T, ty, pos, after, g⟩).run P w = .ok (.value (.pointer (some ⟨w.heap.size, 0, none⟩))) (w.alloc (.cells z.cells T)) := by
  have h1 : (zeroValue T).run P w = .ok z w := by simp [zeroValue, typeInfo, hi, hz, go_sem]
  simp only [execOp, Instr.alloc]
  rw [Sem.run_bind, Sem.run_bind, h1]
  rfl

theorem put_self {a : Act} {t : Nat} {v : Value} (h : t < a.tmps.size) : (a.put (some t) v).tmps[t]? = some v := by simp [Act.put, h]
theorem val_self {a : Act} {t : Nat} {v : Value} (h : t < a.tmps.size) : Act.val (a.put (some t) v) t = v := by unfold Act.val; rw [put_self h]; rfl
theorem val_none {a : Act} {t : Nat} {v : Value} : Act.val (a.put none v) t = Act.val a t := rfl
theorem val_ne {a : Act} {d t : Nat} {v : Value} (h : d ≠ t) : Act.val (a.put (some d) v) t = Act.val a t := by
  unfold Act.val; rw [put_other (by simpa using h)]

/-- A key that is new. -/
theorem Leaves.one {o : Oper} {D : Nat → MSet} {E : Ent} {M : MSet} {a : Act} {w : World} {v : Value} {w' : World} {t : Nat} {C : CPred} (M' Dt : MSet) (hx : Ext w w')
    (h1 : ∀ k, M k → M' k) (h2 : ∀ k, M' k → M k ∨ w.heap.size ≤ k) (h3 : ∀ k, M' k → k < w'.heap.size) (h4 : E.holds M' v w') (h5 : C.p M' Dt (Act.val (a.put o.dst v) t) w') (h6 : ∀ k, Dt k → w.heap.size ≤ k) :
    Leaves o B D [t] E [(t, some C)] M a w v w' := by
  refine ⟨M', fun _ => Dt, hx.keeps, fun k h => .inl (h1 k h), h2, h3, h4, fun t' c hc => ?_, fun t1 t2 c1 c2 hc1 hc2 hne => ?_⟩
  · simp only [lookB] at hc
    by_cases he : t = t'
    · subst he; simp at hc; subst hc
      exact ⟨h5, fun k hk => .inr (h6 k hk)⟩
    · rw [beq_ne he] at hc; cases hc
  · simp only [lookB] at hc1 hc2
    by_cases he : t = t1
    · by_cases he2 : t = t2
      · exact absurd (he.symm.trans he2) hne
      · rw [beq_ne he2] at hc2; cases hc2
    · rw [beq_ne he] at hc1; cases hc1

/-- One key whose content turns. -/
theorem Leaves.turn {o : Oper} {D : Nat → MSet} {E : Ent} {M : MSet} {a : Act} {w : World} {v : Value} {w' : World} {t : Nat} {C C0 : CPred} (hl : lookB B t = some C0)
    (hk : Keeps (D t) w w') (h3 : ∀ k, M k → k < w'.heap.size) (h4 : E.holds M v w') (h5 : C.p M (D t) (Act.val (a.put o.dst v) t) w') :
    Leaves o B D [t] E [(t, some C)] M a w v w' := by
  have hm : ∀ k, D t k → Mine [t] B D k := fun k hk => ⟨t, by simp, C0, hl, hk⟩
  refine ⟨M, D, hk.mono (fun k _ h => hm k h), fun k h => .inl h, fun k h => .inl h, h3, h4, fun t' c hc => ?_, fun t1 t2 c1 c2 hc1 hc2 hne => ?_⟩
  · simp only [lookB] at hc
    by_cases he : t = t'
    · subst he; simp at hc; subst hc
      exact ⟨h5, fun k hk => .inl (hm k hk)⟩
    · rw [beq_ne he] at hc; cases hc
  · simp only [lookB] at hc1 hc2
    by_cases he : t = t1
    · by_cases he2 : t = t2
      · exact absurd (he.symm.trans he2) hne
      · rw [beq_ne he2] at hc2; cases hc2
    · rw [beq_ne he] at hc1; cases hc1

theorem StepOK.alloc {T d : Nat} {α : Type} [Rep α] {z : α} (hz : ZeroOf P T z) (hd : Nat.blt d fs = true) :
    StepOK P ops fs ⟨some d, .alloc T, ty, pos, after, none⟩ L B ([], [d]) ⟨True, anyV⟩ [(d, some (cont T z))] := by
  intro M D a w hsz hm _ _
  obtain ⟨cs, hiz, hc⟩ := hz
  obtain ⟨i, hi, hzv⟩ := Option.bind_eq_some_iff.1 hiz
  have hw : Region.wanted (⟨some d, .alloc T, ty, pos, after, none⟩ : Oper) (yielded ops a.tmps) = true := rfl
  rw [if_pos hw]
  have hcs : (mkv (Rep.agg α) cs).cells = cs.toArray := Rep.flat (hc M w)
  refine Does.value (ex_alloc hi hzv) (.one (fun k => M k ∨ k = w.heap.size) (fun k => k = w.heap.size) (Ext.alloc _ _) (fun k h => .inl h) (fun k h => ?_) (fun k h => ?_) ⟨fun _ => trivial, fun hf => (hf trivial).elim⟩ ?_ ?_)
  · rcases h with h | h
    · exact .inl h
    · exact .inr (by omega)
  · rw [size_new]
    rcases h with h | h
    · have := hm k h; omega
    · omega
  · rw [val_self (by rw [hsz]; exact Nat.le_of_ble_eq_true hd)]
    refine ⟨w.heap.size, cs, rfl, fun k => Iff.rfl, .inr rfl, ?_, hc _ _⟩
    rw [hcs]
    show (w.heap.push _)[w.heap.size]? = _
    rw [Array.getElem?_push_size]
  · intro k hk
    omega

/-- Stores, cell by cell: into the middle of a block. -/
theorem run_storeCells {m off : Nat} {T : TypeId} : ∀ (vs pre mid rest : List Value) (w : World) (j : Nat), mid.length = vs.length → (∀ c ∈ vs, isOne c = true) → pre.length = off + j →
    w.heap[m]? = some (.cells (pre ++ mid ++ rest).toArray T (0, 0)) →
    ∃ w', (storeCells ⟨m, off, none⟩ vs j).run P w = .ok () w' ∧ w'.heap[m]? = some (.cells (pre ++ vs ++ rest).toArray T (0, 0)) ∧
      w'.os = w.os ∧ w'.tape = w.tape ∧ w'.output = w.output ∧ w'.heap.size = w.heap.size ∧ ∀ k, k ≠ m → w'.heap[k]? = w.heap[k]?
  | [], pre, mid, rest, w, j, hl, _, _, hh => by
    have : mid = [] := List.length_eq_zero_iff.1 hl
    subst this
    exact ⟨w, rfl, hh, rfl, rfl, rfl, rfl, fun _ _ => rfl⟩
  | v :: vs, pre, mid, rest, w, j, hl, hp, hj, hh => by
    match mid, hl with
    | r :: mid, hl =>
      have hcell : w.cell? ⟨m, off + j, none⟩ = some r := by rw [cell_of_heap hh, ← hj]; simp
      have hfz : w.frozen? ⟨m, off + j, none⟩ = false := by simp [World.frozen?, hh]
      have hv := hp v List.mem_cons_self
      have hst : (store ⟨m, off + j, none⟩ v).run P w = .ok () (w.setCell ⟨m, off + j, none⟩ v) := by
        unfold store
        cases v <;> first | (simp [isOne] at hv; done) | simp [Sem.run, hcell, hfz]
      have hheap : (w.setCell ⟨m, off + j, none⟩ v).heap[m]? = some (.cells ((pre ++ [v]) ++ mid ++ rest).toArray T (0, 0)) := by
        simp [World.setCell, Array.getElem?_modify, hh, ← hj]
      obtain ⟨w', h1, h2, h3, h4, h5, h6, h7⟩ := run_storeCells vs (pre ++ [v]) mid rest (w.setCell ⟨m, off + j, none⟩ v) (j + 1) (by simpa using hl) (fun c hc => hp c (List.mem_cons_of_mem _ hc)) (show (pre ++ [v]).length = off + (j + 1) by rw [List.length_append, hj]; rfl) hheap
      refine ⟨w', ?_, by simpa using h2, h3.trans rfl, h4.trans rfl, h5.trans rfl, h6.trans (by simp [World.setCell]), fun k hk => ?_⟩
      · simp only [storeCells, add_none]
        rw [Sem.run_bind, hst]
        simp only [Result.andThen]
        exact h1
      · rw [h7 k hk]
        simp only [World.setCell, Array.getElem?_modify]
        rw [if_neg (Ne.symm hk)]

theorem run_storeAt {T : TypeId} {α : Type} [Rep α] (hT : Ty P T α) {m off : Nat} {cs pre mid rest : List Value} {w : World} (hl : cs.length = Rep.sz α) (hold : mid.length = Rep.sz α) (hpre : pre.length = off)
    (hp : ∀ c ∈ cs, isOne c = true) (hf : (mkv (Rep.agg α) cs).cells = cs.toArray) {T' : TypeId} (hh : w.heap[m]? = some (.cells (pre ++ mid ++ rest).toArray T' (0, 0))) :
    ∃ w', (Instr.storeAt T (.pointer (some ⟨m, off, none⟩)) (mkv (Rep.agg α) cs)).run P w = .ok () w' ∧ w'.heap[m]? = some (.cells (pre ++ cs ++ rest).toArray T' (0, 0)) ∧
      w'.os = w.os ∧ w'.tape = w.tape ∧ w'.output = w.output ∧ w'.heap.size = w.heap.size ∧ ∀ k, k ≠ m → w'.heap[k]? = w.heap[k]? := by
  obtain ⟨w', h1, h2⟩ := run_storeCells (P := P) (m := m) (off := off) (T := T') cs pre mid rest w 0 (by rw [hl, hold]) hp (by omega) hh
  refine ⟨w', ?_, h2⟩
  obtain ⟨i, hi, hsize⟩ := Option.map_eq_some_iff.1 hT.size
  have hs : (sizeOf T).run P w = .ok (Rep.sz α) w := by simp [sizeOf, typeInfo, hi, hsize, go_sem]
  simp only [Instr.storeAt, Instr.sureAddr, storeVar, hf]
  rw [Sem.run_bind]
  simp only [Sem.run_pure, Result.andThen]
  rw [Sem.run_bind, hs]
  simp only [Result.andThen]
  rw [if_neg (by simp [hl])]
  exact h1

/-- A store as one writes it down. -/
theorem ex_store {T : Nat} {x y : Operand} {ρ : Operand → Value} {g : Option (Nat × Bool)} {w w' : World} (h : (Instr.storeAt T (ρ x) (ρ y)).run P w = .ok () w') :
    (execOp ρ ⟨none, .store T x y, ty, pos, after, g⟩).run P w = .ok .skip w' := by
  simp only [execOp]
  rw [Sem.run_bind, h]
  rfl
theorem Does.skip {o : Oper} {a : Act} {w w' : World} {R : Value → World → Prop} (hr : (execOp a.eval o).run P w = .ok .skip w') (hd : o.dst = none) (h : R undef w') : Does P o a w R := by
  unfold Does Oper.wp; rw [hr]; exact ⟨undef, by rw [hd], h⟩

/-- A store into a variable that was made in the same region. -/
theorem StepOK.store {T T' t : Nat} {x : Operand} {α : Type} [Rep α] {y y0 : α} (hT : Ty P T α) (hl : lookB B t = some (cont T' y0)) (ht : Nat.blt t fs = true) (hx : Opd L True x (rep y)) :
    StepOK P ops fs ⟨none, .store T (.tmp t) x, ty, pos, after, none⟩ L B ([t], [t]) ⟨True, anyV⟩ [(t, some (cont T' y))] := by
  intro M D a w hsz hm hs hsB
  have hw : Region.wanted (⟨none, .store T (.tmp t) x, ty, pos, after, none⟩ : Oper) (yielded ops a.tmps) = true := rfl
  rw [if_pos hw]
  obtain ⟨m, old, hvm, hD, hM, hh, hold⟩ := hsB.has t (by simp) _ hl
  obtain ⟨cs, hc, hxv⟩ := hx.get hs (fun t ht => looksAt_op (by simp [Op.operands, ht])) trivial
  have hat : a.eval (.tmp t) = .pointer (some ⟨m, 0, none⟩) := by
    have hlt : t < a.tmps.size := by rw [hsz]; exact Nat.le_of_ble_eq_true ht
    rw [Act.eval_tmp (v := Act.val a t) (by unfold Act.val; simp [hlt]), hvm]
  obtain ⟨w', h1, h2, h3, h4, h5, h6, h7⟩ := run_storeAt (w := w) (m := m) (pre := []) (rest := []) hT (Rep.len hc) (Rep.len hold) rfl (Rep.plain hc) (Rep.flat hc) (by simpa using hh)
  have hkeep : Keeps (D t) w w' := ⟨h3, h4, h5, by omega, fun k _ hn => h7 k (fun e => hn ((hD k).2 e))⟩
  have hkM : Keeps M w w' := ⟨h3, h4, h5, by omega, fun k _ hn => h7 k (fun e => hn (e ▸ hM))⟩
  refine Does.skip (w' := w') (ex_store (by rw [hat, hxv]; exact h1)) rfl (.turn hl hkeep (fun k h => by rw [h6]; exact hm k h) ⟨fun _ => trivial, fun hf => (hf trivial).elim⟩ ?_)
  rw [val_none]
  exact ⟨m, cs, hvm, hD, hM, by simpa using h2, Rep.law hkM (fun _ h => .inl h) hc⟩

/-- A store into a variable at m, or into a part of it. -/
theorem StepOK.storeAt {T T' m off g : Nat} {p x : Operand} {α β : Type} [Rep α] [Rep β] {y0 : α} {z : β} {set : α → β → α} (hT : Ty P T β) (hl : lookB B g = some (boxAt m T' y0)) (hp : Opd L True p (isV (ptr m off)))
    (hF : SetField α β off set) (hx : Opd L True x (rep z)) :
    StepOK P ops fs ⟨none, .store T p x, ty, pos, after, none⟩ L B ([g], [g]) ⟨True, anyV⟩ [(g, some (boxAt m T' (set y0 z)))] := by
  intro M D a w hsz hm hs hsB
  have hw : Region.wanted (⟨none, .store T p x, ty, pos, after, none⟩ : Oper) (yielded ops a.tmps) = true := rfl
  rw [if_pos hw]
  obtain ⟨m', old, hvm, hD, hM, hh, hold⟩ := hsB.has g (by simp) _ hl
  obtain rfl : m = m' := by simp [ptr] at hvm; exact hvm
  obtain ⟨zs, hz, hxv⟩ := hx.get hs (fun t ht => looksAt_op (by simp [Op.operands, ht])) trivial
  have hat : a.eval p = ptr m off := (rep_raw.1 (hp.get hs (fun t ht => looksAt_op (by simp [Op.operands, ht])) trivial)).1
  have hlo := Rep.len hold
  have hle := hF.1
  have hsplit : old = old.take off ++ (old.drop off).take (Rep.sz β) ++ old.drop (off + Rep.sz β) := by
    rw [← List.drop_drop, List.append_assoc, List.take_append_drop, List.take_append_drop]
  obtain ⟨w', h1, h2, h3, h4, h5, h6, h7⟩ := run_storeAt (w := w) (m := m) (off := off) (cs := zs) (pre := old.take off) (mid := (old.drop off).take (Rep.sz β)) (rest := old.drop (off + Rep.sz β)) hT (Rep.len hz)
    (by rw [List.length_take, List.length_drop]; omega) (by rw [List.length_take]; omega) (Rep.plain hz) (Rep.flat hz) (by rw [← hsplit]; exact hh)
  have hkeep : Keeps (D g) w w' := ⟨h3, h4, h5, by omega, fun k _ hn => h7 k (fun e => hn ((hD k).2 e))⟩
  have hkM : Keeps M w w' := ⟨h3, h4, h5, by omega, fun k _ hn => h7 k (fun e => hn (e ▸ hM))⟩
  refine Does.skip (w' := w') (ex_store (by rw [hat, hxv]; exact h1)) rfl (.turn hl hkeep (fun k h => by rw [h6]; exact hm k h) ⟨fun _ => trivial, fun hf => (hf trivial).elim⟩ ?_)
  exact ⟨m, _, rfl, hD, hM, h2, hF.2 M y0 z old zs w' (Rep.law hkM (fun _ h => .inl h) hold) (Rep.law hkM (fun _ h => .inl h) hz)⟩

/-- A load out of a variable that was made in the same region. -/
theorem StepOK.loadOwn {T T' t : Nat} {α : Type} [Rep α] {y : α} {g : Option (Nat × Bool)} (hg : Guard ops g L G) (hT : Ty P T α) (hl : lookB B t = some (cont T' y)) :
    StepOK P ops fs ⟨d, .load T (.tmp t), ty, pos, after, g⟩ L B ([t], []) ⟨G, rep y⟩ [] := by
  refine .of hg fun M D a w _ _ hsB _ => ?_
  obtain ⟨m, cs, hvm, hD, hM, hh, hc⟩ := hsB.has t (by simp) _ hl
  have hat : a.eval (.tmp t) = .pointer (some ⟨m, 0, none⟩) := by
    rw [← hvm]
    unfold Act.val at hvm
    cases hv : a.tmps[t]? with
    | none => rw [hv] at hvm; simp [undef] at hvm
    | some v => rw [Act.eval_tmp hv]; unfold Act.val; rw [hv]; rfl
  refine Does.value (v := mkv (Rep.agg α) cs) (w' := w) ?_ ⟨Keeps.refl _ _, cs, hc, rfl⟩
  have := run_loadAt (P := P) hT hc (b := m) (off := 0) (fun j _ => by rw [cell_of_heap hh]; simp)
  simp only [execOp, hat, Sem.run_bind, this, Result.andThen, Sem.run_pure]

/-- The place of a field. -/
theorem StepOK.fieldPtr {S f off m o : Nat} {x : Operand} {g : Option (Nat × Bool)} (hg : Guard ops g L G) (hF : FieldAt P S f off) (hx : Opd L G x (isV (ptr m o))) :
    StepOK P ops fs ⟨d, .fieldAddr S x f, ty, pos, after, g⟩ L B (xr, []) ⟨G, isV (ptr m (o + off))⟩ [] :=
  .pure hg fun M a w _ hs hG => by
    have hv : a.eval x = ptr m o := (rep_raw.1 (hx.get hs (fun t ht => looksAt_op (by simp [Op.operands, ht])) hG)).1
    obtain ⟨fds, fd, hu, hf, hoff, hsz0⟩ := hF
    obtain ⟨i, hi, hne⟩ := sizeNe hsz0
    refine ⟨.pointer (some ⟨m, o + off, none⟩), ?_, isV_ptr⟩
    have hsz : (sizeOf fd.type).run P w = .ok i.size w := by simp [sizeOf, typeInfo, hi, go_sem]
    have hpl : (fieldPlace ⟨m, o, none⟩ fd).run P w = .ok ⟨m, o + off, none⟩ w := by
      unfold fieldPlace
      rw [Sem.run_bind, hsz]
      simp only [Result.andThen, hne, if_false, Sem.run_pure, add_none, hoff]
    have hun : (underlying S).run P w = .ok (.struct fds) w := by simp [underlying, hu, go_sem]
    simp only [execOp, hv, ptr, Instr.fieldAt, Instr.sureAddr, Sem.run_bind, hun, hf, Result.andThen, Sem.run_pure, hpl]

/-- A load out of a variable at m, or out of a part of it. -/
theorem StepOK.loadAt {T T' m off k : Nat} {x : Operand} {α β : Type} [Rep α] [Rep β] {proj : α → β} {y : α} {g : Option (Nat × Bool)} (hg : Guard ops g L G) (hT : Ty P T β)
    (hl : lookB B k = some (boxAt m T' y)) (hx : Opd L G x (isV (ptr m off))) (hH : HasField α β off proj) :
    StepOK P ops fs ⟨d, .load T x, ty, pos, after, g⟩ L B ([k], []) ⟨G, rep (proj y)⟩ [] := by
  refine .of hg fun M D a w _ hs hsB hG => ?_
  obtain ⟨m', cs, hvm, hD, hM, hh, hc⟩ := hsB.has k (by simp) _ hl
  obtain rfl : m = m' := by simp [ptr] at hvm; exact hvm
  have hat : a.eval x = ptr m off := (rep_raw.1 (hx.get hs (fun t ht => looksAt_op (by simp [Op.operands, ht])) hG)).1
  obtain ⟨fcs, hf, hj⟩ := hH.2 M y cs w hc
  refine Does.value (v := mkv (Rep.agg β) fcs) (w' := w) ?_ ⟨Keeps.refl _ _, fcs, hf, rfl⟩
  have := run_loadAt (P := P) hT hf (b := m) (off := off) (fun j hjl => by rw [cell_of_heap hh, hj j hjl]; simp)
  simp only [execOp, hat, ptr, Sem.run_bind, this, Result.andThen, Sem.run_pure]

/-- The pointer is not nil. -/
theorem HasField.id {α : Type} [Rep α] : HasField α α 0 (fun x => x) := HasField.self

end

/-! What is one's own is named, and given away. -/

section
variable {P : Program} {Q : Exit → Act → World → Prop} {n : Nat} {F : Fr} {L : Slots} {B : Owns}

/-- A key's memory is told to be at another key. -/
theorem Sat1.rekey {M : MSet} {D : Nat → MSet} {a : Act} {w : World} {L' : Slots} {t g : Nat} {C C' : CPred} (h : Sat1 n F L B M D a w) (hl : lookB B t = some C) (hg : lookB B g = none)
    (hC : C'.p M (D t) (Act.val a g) w) (hL : ∀ t' e, look L' t' = some e → ∃ v, a.tmps[t']? = some v ∧ e.holds M v w) :
    Sat1 n F L' ((g, some C') :: (t, none) :: B) M (fun k => if k = g then D t else D k) a w := by
  have hgt : g ≠ t := fun e => by subst e; rw [hg] at hl; cases hl
  have cases' : ∀ t' c, lookB ((g, some C') :: (t, none) :: B) t' = some c → (t' = g ∧ c = C') ∨ (t' ≠ g ∧ t' ≠ t ∧ lookB B t' = some c) := by
    intro t' c hc
    simp only [lookB] at hc
    by_cases h1 : g = t'
    · subst h1; simp at hc; exact .inl ⟨rfl, hc.symm⟩
    · rw [beq_ne h1, cond_false] at hc
      by_cases h2 : t = t'
      · subst h2; simp at hc
      · rw [beq_ne h2, cond_false] at hc
        exact .inr ⟨Ne.symm h1, Ne.symm h2, hc⟩
  refine ⟨h.size, h.defers, h.keeps, h.mf0, h.mlow, h.mhigh, h.msub, hL, fun t' c hc => ?_, fun t' c hc => ?_, fun t1 t2 c1 c2 h1 h2 hne k hk1 hk2 => ?_⟩
  · rcases cases' t' c hc with ⟨rfl, rfl⟩ | ⟨h1, _, h3⟩
    · simp only [if_true]; exact hC
    · simp only [if_neg h1]; exact h.hasB t' c h3
  · rcases cases' t' c hc with ⟨rfl, rfl⟩ | ⟨h1, _, h3⟩
    · simp only [if_true]; exact h.own t _ hl
    · simp only [if_neg h1]; exact h.own t' c h3
  · rcases cases' t1 c1 h1 with ⟨rfl, rfl⟩ | ⟨a1, a2, a3⟩ <;> rcases cases' t2 c2 h2 with ⟨rfl, rfl⟩ | ⟨b1, b2, b3⟩
    · exact hne rfl
    · simp only [if_true, if_neg b1] at hk1 hk2
      exact h.apart t t2 _ _ hl b3 (Ne.symm b2) k hk1 hk2
    · simp only [if_true, if_neg a1] at hk1 hk2
      exact h.apart t1 t _ _ a3 hl a2 k hk1 hk2
    · simp only [if_neg a1, if_neg b1] at hk1 hk2
      exact h.apart t1 t2 _ _ a3 b3 hne k hk1 hk2

/-- A slot's box gets a name. -/
theorem Cod.nameBox {c : Code} {t g T : Nat} {α : Type} [Rep α] {y : α} (hl : lookB B t = some (cont T y)) (hg : lookB B g = none)
    (k : ∀ m, Cod P c Q n F ((t, ⟨True, isV (ptr m 0)⟩) :: L) ((g, some (boxAt m T y)) :: (t, none) :: B)) : Cod P c Q n F L B := by
  intro a w hs
  obtain ⟨M, D, h⟩ := id hs
  obtain ⟨m, cs, hvm, hD, hM, hh, hc⟩ := h.hasB t _ hl
  refine k m a w ⟨M, _, h.rekey hl hg ⟨m, cs, rfl, hD, hM, hh, hc⟩ fun t' e he => ?_⟩
  simp only [look] at he
  by_cases hne : t = t'
  · subst hne
    simp at he; subst he
    have hv : a.tmps[t]? = some (ptr m 0) := by
      unfold Act.val at hvm
      cases hv : a.tmps[t]? with
      | none => rw [hv] at hvm; simp [undef] at hvm
      | some v => rw [hv] at hvm; simpa using hvm
    exact ⟨_, hv, fun _ => isV_ptr, fun hf => (hf trivial).elim⟩
  · rw [beq_ne hne, cond_false] at he; exact h.has t' e he

/-- A key's memory is written no more: M without it. -/
theorem Sat1.free {M : MSet} {D : Nat → MSet} {a : Act} {w : World} {L' : Slots} {B' : Owns} {t : Nat} {C : CPred} (h : Sat1 n F L B M D a w) (hl : lookB B t = some C) (hB : SubB B B') (hn : hasKey B' t = false)
    (hL : ∀ t' e, look L' t' = some e → ∃ v, a.tmps[t']? = some v ∧ e.holds (fun k => M k ∧ ¬ D t k) v w) : Sat1 n F L' B' (fun k => M k ∧ ¬ D t k) D a w := by
  have hlow : ∀ k, (M k ∧ ¬ D t k) → M k ∨ w.heap.size ≤ k := fun k h => .inl h.1
  refine ⟨h.size, h.defers, h.keeps, h.mf0, fun k hk => ?_, fun k hk => h.mhigh k hk.1, h.msub.less (fun k hk => hk.1), hL, fun t' c' hc' => ?_, fun t' c' hc' => h.own t' c' (hB t' c' hc'),
    fun t1 t2 c1 c2 h1 h2 => h.apart t1 t2 c1 c2 (hB t1 c1 h1) (hB t2 c2 h2)⟩
  · rcases h.mlow k hk with h1 | h1
    · by_cases h2 : D t k
      · rcases h.own t _ hl k h2 with h3 | h3
        · exact .inr h3
        · have := h.mf0 k hk; omega
      · exact .inl ⟨h1, h2⟩
    · exact .inr h1
  · have hne : t' ≠ t := fun e => by subst e; rw [lookB_none hn] at hc'; cases hc'
    have h2 := h.hasB t' c' (hB t' c' hc')
    exact c'.law M _ _ _ w w (Keeps.refl M w) hlow (fun m' hm' => ⟨⟨c'.inM _ _ _ _ h2 m' hm', fun hd => h.apart t' t c' _ (hB t' c' hc') hl hne m' hm' hd⟩, rfl⟩) h2

theorem cont_ref {M : MSet} {D : MSet} {v : Value} {w : World} {T : TypeId} {α : Type} [Rep α] {y : α} (h : (cont T y).p M D v w) (hms : ∀ k, M k → k < w.heap.size) : (ref y).p (fun k => M k ∧ ¬ D k) v w := by
  obtain ⟨m, cs, hvm, hD, hM, hh, hc⟩ := h
  exact ⟨m, 0, cs, hvm, fun hf => hf.2 ((hD m).2 rfl), hms m hM, Rep.law (Keeps.refl M w) (fun k h => .inl h.1) hc, fun j _ => by rw [cell_of_heap hh]; simp⟩

/-- A variable that is written no more. -/
theorem Cod.freeze {c : Code} {t T : Nat} {α : Type} [Rep α] {y : α} {B' : Owns} (hl : lookB B t = some (cont T y)) (ht : Nat.blt t n = true) (hB : SubB B B') (hn : hasKey B' t = false)
    (k : Cod P c Q n F ((t, ⟨True, ref y⟩) :: L) B') : Cod P c Q n F L B := by
  intro a w hs
  obtain ⟨M, D, h⟩ := id hs
  have hC := h.hasB t _ hl
  refine k a w ⟨_, D, h.free hl hB hn fun t' e he => ?_⟩
  have hlow : ∀ k, (M k ∧ ¬ D t k) → M k ∨ w.heap.size ≤ k := fun k h => .inl h.1
  simp only [look] at he
  by_cases hne : t = t'
  · subst hne
    simp at he; subst he
    have hlt : t < a.tmps.size := by rw [h.size]; exact Nat.le_of_ble_eq_true ht
    exact ⟨Act.val a t, by unfold Act.val; simp [hlt], fun _ => cont_ref hC h.msub, fun hf => (hf trivial).elim⟩
  · rw [beq_ne hne, cond_false] at he
    obtain ⟨v', h1, h2⟩ := h.has t' e he
    exact ⟨v', h1, Ent.holds_law (Keeps.refl M w) hlow h2⟩

/-- Slots that hold one told value. -/
def AllAre (L : Slots) (s : Value) (ts : List Nat) : Prop := ∀ t ∈ ts, ∃ c, c ∧ look L t = some ⟨c, isV s⟩

theorem AllAre.nil {s : Value} : AllAre L s [] := fun _ h => by cases h
theorem AllAre.cons {s : Value} {t : Nat} {ts : List Nat} {c : Prop} (h : look L t = some ⟨c, isV s⟩) (hc : c) (h2 : AllAre L s ts) : AllAre L s (t :: ts) := fun t' h' => by
  rcases List.mem_cons.1 h' with rfl | h'
  · exact ⟨c, hc, h⟩
  · exact h2 t' h'

def fillS (S : SPred) : List Nat → Slots → Slots
  | [], L => L
  | t :: ts, L => (t, ⟨True, S⟩) :: fillS S ts L

theorem look_fillS {S : SPred} {t : Nat} {e : Ent} : ∀ {ts : List Nat}, look (fillS S ts L) t = some e → (t ∈ ts ∧ e = ⟨True, S⟩) ∨ look L t = some e
  | [], h => .inr h
  | t' :: ts, h => by
    simp only [fillS, look] at h
    by_cases he : t' = t
    · subst he; simp at h; exact .inl ⟨by simp, h.symm⟩
    · rw [beq_ne he, cond_false] at h
      rcases look_fillS h with ⟨h1, h2⟩ | h1
      · exact .inl ⟨List.mem_cons_of_mem _ h1, h2⟩
      · exact .inr h1

/-- Memory at a told value is written no more: the slots of ts then stand for S. -/
theorem Cod.freezeAt {c : Code} {g : Nat} {s : Value} {C : CPred} {S : SPred} {ts : List Nat} {B' : Owns} (hl : lookB B g = some (CPred.at s C)) (hts : AllAre L s ts) (hB : SubB B B') (hn : hasKey B' g = false)
    (hS : ∀ (M D : MSet) (w : World), C.p M D s w → (∀ k, M k → k < w.heap.size) → S.p (fun k => M k ∧ ¬ D k) s w) (k : Cod P c Q n F (fillS S ts L) B') : Cod P c Q n F L B := by
  intro a w hs
  obtain ⟨M, D, h⟩ := id hs
  have hC : C.p M (D g) s w := h.hasB g _ hl
  refine k a w ⟨_, D, h.free hl hB hn fun t' e he => ?_⟩
  have hlow : ∀ k, (M k ∧ ¬ D g k) → M k ∨ w.heap.size ≤ k := fun k h => .inl h.1
  rcases look_fillS he with ⟨h1, rfl⟩ | h1
  · obtain ⟨c, hc, hl'⟩ := hts t' h1
    obtain ⟨v, hv, he'⟩ := h.has t' _ hl'
    obtain ⟨rfl, _⟩ := rep_raw.1 (he'.1 hc)
    exact ⟨v, hv, fun _ => hS M (D g) w hC h.msub, fun hf => (hf trivial).elim⟩
  · obtain ⟨v', h1, h2⟩ := h.has t' e h1
    exact ⟨v', h1, Ent.holds_law (Keeps.refl M w) hlow h2⟩

theorem Chain.alloc {P : Program} {ops : Array Oper} {ty : TypeId} {pos : String} {after : Array Edge} {n d T : Nat} {K : Slots → Owns → Prop} {rest : List Oper} {aux : List Aux} {α : Type} [Rep α] {z : α} (hz : ZeroOf P T z) (hd : Nat.blt d n = true) (hB : hasKey B d = false)
    (k : Chain P ops n rest aux ((d, ⟨True, anyV⟩) :: L) ((d, some (cont T z)) :: B) K) :
    Chain P ops n (⟨some d, .alloc T, ty, pos, after, none⟩ :: rest) (([], [d]) :: aux) L B K :=
  Chain.consW (.alloc hz hd) rfl hB k

end
end Go.DB
