/-
  What values stand for, and one lemma an operation.
-/
import Derived.Test.YthopjimlhjgoiaaDoorCore2
import Derived.IntWalk
set_option linter.unusedSimpArgs false
set_option linter.unusedVariables false
namespace Go.DB
open Go Go.RowKit

/-! Values. -/

def mkv (agg : Bool) (cs : List Value) : Value :=
  match agg with
  | true => .agg cs.toArray
  | false => cs.headD undef

/-- A value of one cell. -/
def isOne : Value → Bool
  | .agg _ | .tuple _ => false
  | _ => true

class Rep (α : Type) where
  sz : Nat
  agg : Bool
  cells : MSet → α → List Value → World → Prop
  len : ∀ {M x cs w}, cells M x cs w → cs.length = sz
  pos : 0 < sz
  flat : ∀ {M x cs w}, cells M x cs w → (mkv agg cs).cells = cs.toArray
  plain : ∀ {M x cs w}, cells M x cs w → ∀ c ∈ cs, isOne c = true
  law : ∀ {M M' x cs w w'}, Keeps M w w' → (∀ k, M' k → M k ∨ w.heap.size ≤ k) → cells M x cs w → cells M' x cs w'

def rep {α : Type} [Rep α] (x : α) : SPred where
  p := fun M v w => ∃ cs, Rep.cells M x cs w ∧ v = mkv (Rep.agg α) cs
  law := fun _ _ _ _ _ hk hm ⟨cs, h, hv⟩ => ⟨cs, Rep.law hk hm h, hv⟩

def InI (n : Int) : Prop := -9223372036854775808 ≤ n ∧ n ≤ 9223372036854775807

instance (n : Int) : Decidable (InI n) := by unfold InI; infer_instance

instance : Rep Int where
  sz := 1
  agg := false
  cells := fun _ n cs _ => cs = [.int .i64 n] ∧ InI n
  len := fun h => by rw [h.1]; rfl
  pos := by decide
  flat := fun h => by rw [h.1]; rfl
  plain := fun h c hc => by rw [h.1] at hc; simp at hc; rw [hc]; rfl
  law := fun _ _ h => h

instance : Rep Bool where
  sz := 1
  agg := false
  cells := fun _ b cs _ => cs = [.bool b]
  len := fun h => by rw [h]; rfl
  pos := by decide
  flat := fun h => by rw [h]; rfl
  plain := fun h c hc => by rw [h] at hc; simp at hc; rw [hc]; rfl
  law := fun _ _ h => h

instance {α β : Type} [Rep α] [Rep β] : Rep (α × β) where
  sz := Rep.sz α + Rep.sz β
  agg := true
  cells := fun M x cs w => ∃ c1 c2, cs = c1 ++ c2 ∧ Rep.cells M x.1 c1 w ∧ Rep.cells M x.2 c2 w
  len := fun ⟨c1, c2, h, h1, h2⟩ => by rw [h, List.length_append, Rep.len h1, Rep.len h2]
  pos := Nat.lt_of_lt_of_le (Rep.pos (α := α)) (Nat.le_add_right _ _)
  flat := fun _ => rfl
  plain := fun ⟨c1, c2, h, h1, h2⟩ c hc => by
    rw [h] at hc
    rcases List.mem_append.1 hc with hc | hc
    · exact Rep.plain h1 c hc
    · exact Rep.plain h2 c hc
  law := fun hk hm ⟨c1, c2, h, h1, h2⟩ => ⟨c1, c2, h, Rep.law hk hm h1, Rep.law hk hm h2⟩

/-- A struct type by way of pairs. -/
@[reducible] def Rep.via {α β : Type} [Rep β] (f : α → β) : Rep α where
  sz := Rep.sz β
  agg := true
  cells := fun M x cs w => Rep.cells M (f x) cs w
  len := fun h => Rep.len h
  pos := Rep.pos (α := β)
  flat := fun _ => rfl
  plain := fun h => Rep.plain h
  law := fun hk hm h => Rep.law hk hm h

theorem rep_int {n : Int} {M : MSet} {v : Value} {w : World} : (rep n).p M v w ↔ v = .int .i64 n ∧ InI n := by
  constructor
  · rintro ⟨cs, ⟨h, hi⟩, hv⟩; subst h; exact ⟨hv, hi⟩
  · rintro ⟨h, hi⟩; exact ⟨[.int .i64 n], ⟨rfl, hi⟩, h⟩
theorem rep_bool {b : Bool} {M : MSet} {v : Value} {w : World} : (rep b).p M v w ↔ v = .bool b := by
  constructor
  · rintro ⟨cs, h, hv⟩; subst h; exact hv
  · intro h; exact ⟨[.bool b], rfl, h⟩

/-- A pointer to cells that stand for x, in a block that stays. -/
def ref {α : Type} [Rep α] (x : α) : SPred where
  p := fun M v w => ∃ b off cs, v = .pointer (some ⟨b, off, none⟩) ∧ ¬ M b ∧ b < w.heap.size ∧ Rep.cells M x cs w ∧
    ∀ j, j < Rep.sz α → w.cell? ⟨b, off + j, none⟩ = cs[j]?
  law := fun _ _ _ w w' hk hm ⟨b, off, cs, hv, hM, hb, hc, hr⟩ =>
    ⟨b, off, cs, hv, fun h => (hm b h).elim hM (by omega), Nat.lt_of_lt_of_le hb hk.size, Rep.law hk hm hc, fun j hj => by
      rw [← hr j hj]; exact World.cell?_of_block (w := w) (hk.block b hb hM)⟩

/-- Slices: where the elements lie. -/
def Lies {α : Type} [Rep α] (M : MSet) (l : List α) (a : Option Addr) (w : World) : Prop :=
  match a with
  | none => l = []
  | some ad => ∀ i (h : i < l.length), ad.spot = none ∧ ¬ M ad.block ∧ ad.block < w.heap.size ∧
      ∃ cs, Rep.cells M l[i] cs w ∧ ∀ j, j < Rep.sz α → w.cell? ⟨ad.block, ad.off + i * Rep.sz α + j, none⟩ = cs[j]?

theorem Lies.law {α : Type} [Rep α] {M M' : MSet} {l : List α} {a : Option Addr} {w w' : World} (hk : Keeps M w w') (hm : ∀ k, M' k → M k ∨ w.heap.size ≤ k)
    (h : Lies M l a w) : Lies M' l a w' := by
  cases a with
  | none => exact h
  | some ad =>
    intro i hi
    obtain ⟨h1, h2, h3, cs, hc, hr⟩ := h i hi
    exact ⟨h1, fun h => (hm _ h).elim h2 (by omega), Nat.lt_of_lt_of_le h3 hk.size, cs, Rep.law hk hm hc, fun j hj => by rw [← hr j hj]; exact World.cell?_of_block (w := w) (hk.block _ h3 h2)⟩

instance {α : Type} [Rep α] : Rep (List α) where
  sz := 1
  agg := false
  cells := fun M l cs w => ∃ a cap, cs = [.slice a l.length cap] ∧ l.length ≤ cap ∧ cap ≤ 9223372036854775807 ∧ Lies M l a w
  len := fun ⟨a, cap, h, _⟩ => by rw [h]; rfl
  pos := by decide
  flat := fun ⟨a, cap, h, _⟩ => by rw [h]; rfl
  plain := fun ⟨a, cap, h, _⟩ c hc => by rw [h] at hc; simp at hc; rw [hc]; rfl
  law := fun hk hm ⟨a, cap, h, h1, h2, h3⟩ => ⟨a, cap, h, h1, h2, h3.law hk hm⟩

theorem rep_list {α : Type} [Rep α] {l : List α} {M : MSet} {v : Value} {w : World} : (rep l).p M v w ↔
    ∃ a cap, v = .slice a l.length cap ∧ l.length ≤ cap ∧ cap ≤ 9223372036854775807 ∧ Lies M l a w := by
  constructor
  · rintro ⟨cs, ⟨a, cap, h, h1⟩, hv⟩; subst h; exact ⟨a, cap, hv, h1⟩
  · rintro ⟨a, cap, hv, h1⟩; exact ⟨[.slice a l.length cap], ⟨a, cap, rfl, h1⟩, hv⟩

/-- Two results. -/
def tup (Ss : List SPred) : SPred where
  p := fun M v w => ∃ vs : List Value, v = .tuple vs.toArray ∧ vs.length = Ss.length ∧ ∀ (i : Nat) (S : SPred) (u : Value), Ss[i]? = some S → vs[i]? = some u → S.p M u w
  law := fun M M' _ _ _ hk hm ⟨vs, hv, hl, h⟩ => ⟨vs, hv, hl, fun i S u h1 h2 => S.law M M' u _ _ hk hm (h i S u h1 h2)⟩

def All2 (M : MSet) (w : World) : List SPred → List Value → Prop
  | [], [] => True
  | S :: Ss, v :: vs => S.p M v w ∧ All2 M w Ss vs
  | _, _ => False

theorem All2.law {M M' : MSet} {w w' : World} (hk : Keeps M w w') (hm : ∀ k, M' k → M k ∨ w.heap.size ≤ k) : ∀ (Ss : List SPred) (vs : List Value), All2 M w Ss vs → All2 M' w' Ss vs
  | [], [], h => h
  | S :: Ss, v :: vs, h => ⟨S.law _ _ _ _ _ hk hm h.1, All2.law hk hm Ss vs h.2⟩
  | [], _ :: _, h => h.elim
  | _ :: _, [], h => h.elim

theorem All2.append {M : MSet} {w : World} : ∀ (Ss Cs : List SPred) (vs us : List Value), All2 M w Ss vs → All2 M w Cs us → All2 M w (Ss ++ Cs) (vs ++ us)
  | [], _, [], _, _, h => h
  | _ :: Ss, Cs, _ :: vs, us, h, k => ⟨h.1, All2.append Ss Cs vs us h.2 k⟩
  | [], _, _ :: _, _, h, _ => h.elim
  | _ :: _, _, [], _, h, _ => h.elim

theorem All2.length {M : MSet} {w : World} : ∀ (Ss : List SPred) (vs : List Value), All2 M w Ss vs → vs.length = Ss.length
  | [], [], _ => rfl
  | _ :: Ss, _ :: vs, h => by simp [All2.length Ss vs h.2]
  | [], _ :: _, h => h.elim
  | _ :: _, [], h => h.elim

/-! Contracts. -/

def FnOK (P : Program) (f : Nat) : Prop := ∃ fn, P.funcs[f]? = some fn ∧ (fn.name == "runtime.NumGoroutine") = false ∧ fn.body.isNone = false

/-- What a call comes to: nothing that was there has changed; the result stands for S. -/
def Gives (P : Program) (f : Nat) (vs : List Value) (M : MSet) (w : World) (S : SPred) : Prop :=
  Calls P f vs.toArray w fun e w' => Ext w w' ∧ ∃ v, e = .returned v ∧ S.p M v w'

structure FSpec (P : Program) (f : Nat) (Ss : List SPred) (S : SPred) : Prop where
  ok : FnOK P f
  calls : ∀ (M : MSet) (w : World) (vs : List Value), Low M w → All2 M w Ss vs → Gives P f vs M w S

/-- A function value: called with what the Ss i stand for it gives what S i stands for, where pre i holds. -/
def fnv (P : Program) {ι : Type} (pre : ι → Prop) (Ss : ι → List SPred) (S : ι → SPred) : SPred where
  p := fun M v w => ∃ (f : Nat) (caps : List Value), v = .func (.func f) #[] caps.toArray ∧ FnOK P f ∧
    ∀ i, pre i → ∀ (M' : MSet) (w' : World) (vs : List Value), Keeps M w w' → (∀ k, M' k → M k ∨ w.heap.size ≤ k) → Low M' w' →
      All2 M' w' (Ss i) vs → Gives P f (vs ++ caps) M' w' (S i)
  law := fun _ _ _ _ _ hk hm ⟨f, caps, hv, hf, h⟩ => ⟨f, caps, hv, hf, fun i hi M2 w2 vs hk2 hm2 hs ha => by
    refine h i hi M2 w2 vs ?_ ?_ hs ha
    · refine ⟨hk2.os.trans hk.os, hk2.tape.trans hk.tape, hk2.output.trans hk.output, Nat.le_trans hk.size hk2.size, fun k hlt hn => ?_⟩
      rw [hk2.block k (Nat.lt_of_lt_of_le hlt hk.size) (fun h => (hm k h).elim hn (by omega)), hk.block k hlt hn]
    · intro k h
      rcases hm2 k h with h1 | h1
      · exact hm k h1
      · exact .inr (Nat.le_trans hk.size h1)⟩

/-! Operands. -/

theorem Act.eval_tmp {a : Act} {t : Nat} {v : Value} (h : a.tmps[t]? = some v) : a.eval (.tmp t) = v := by
  simp [Act.eval, h]

/-- The condition under which an operation is done. -/
def Guard (ops : Array Oper) (g : Option (Nat × Bool)) (L : Slots) (G : Prop) : Prop :=
  (g = none ∧ G = True) ∨ ∃ j want t c, ∃ b : Bool, g = some (j, want) ∧ (ops[j]?).bind (·.dst) = some t ∧ look L t = some ⟨c, rep b⟩ ∧ G = (c ∧ b = want)

theorem Guard.none {ops : Array Oper} {L : Slots} : Guard ops Option.none L True := .inl ⟨rfl, rfl⟩
theorem Guard.at {ops : Array Oper} {L : Slots} {j : Nat} {want : Bool} {t : Nat} {c : Prop} {b : Bool} (h1 : (ops[j]?).bind (·.dst) = some t)
    (h2 : look L t = some ⟨c, rep b⟩) : Guard ops (some (j, want)) L (c ∧ b = want) := .inr ⟨j, want, t, c, b, rfl, h1, h2, rfl⟩

/-- What an operand stands for, where G holds. -/
def Opd (L : Slots) (G : Prop) (x : Operand) (S : SPred) : Prop :=
  match x with
  | .tmp t => ∃ c, look L t = some ⟨c, S⟩ ∧ (G → c)
  | .const v => ∀ M w, S.p M v w
  | .func f => ∀ M w, S.p M (.func (.func f) #[] #[]) w
  | _ => False

theorem Opd.tmp {L : Slots} {G c : Prop} {t : Nat} {S : SPred} (h : look L t = some ⟨c, S⟩) (hc : G → c) : Opd L G (.tmp t) S := ⟨c, h, hc⟩
theorem Opd.int {L : Slots} {G : Prop} {n : Int} (h : InI n) : Opd L G (.const (.int .i64 n)) (rep n) := fun _ _ => rep_int.2 ⟨rfl, h⟩
theorem Opd.bool {L : Slots} {G : Prop} {b : Bool} : Opd L G (.const (.bool b)) (rep b) := fun _ _ => rep_bool.2 rfl

theorem Opd.get {L : Slots} {G : Prop} {x : Operand} {S : SPred} (h : Opd L G x S) {ts : List Nat} {M : MSet} {a : Act} {w : World}
    (hs : SatOn ts M L a w) (hx : ∀ t, x = .tmp t → t ∈ ts) (hG : G) : S.p M (a.eval x) w := by
  cases x with
  | tmp t =>
    obtain ⟨c, hl, hc⟩ := h
    obtain ⟨v, hv, he⟩ := hs t (hx t rfl) _ hl
    rw [Act.eval_tmp hv]; exact he.1 (hc hG)
  | const v => exact h M w
  | global g => exact h.elim
  | func f => exact h M w

inductive OpdL (L : Slots) (G : Prop) : List Operand → List SPred → Prop
  | nil : OpdL L G [] []
  | cons {x S xs Ss} : Opd L G x S → OpdL L G xs Ss → OpdL L G (x :: xs) (S :: Ss)

theorem OpdL.get {L : Slots} {G : Prop} {xs : List Operand} {Ss : List SPred} (h : OpdL L G xs Ss) {ts : List Nat} {M : MSet} {a : Act} {w : World}
    (hs : SatOn ts M L a w) (hx : ∀ x ∈ xs, ∀ t, x = .tmp t → t ∈ ts) (hG : G) : All2 M w Ss (xs.map a.eval) := by
  induction h with
  | nil => trivial
  | cons h1 _ ih => exact ⟨h1.get hs (hx _ List.mem_cons_self) hG, ih (fun x hm => hx x (List.mem_cons_of_mem _ hm))⟩

/-! From what an operation does under its condition to a step. -/

section
variable {P : Program} {ops : Array Oper} {fs : Nat} {L : Slots} {B : Owns} {G : Prop}

theorem looksAt_op {o : Oper} {xr : List Nat} {t : Nat} (h : (.tmp t : Operand) ∈ o.op.operands) : t ∈ o.looksAt ops ++ xr :=
  List.mem_append_left _ (List.mem_append_left _ (List.mem_filterMap.2 ⟨.tmp t, by simpa using h, rfl⟩))

theorem StepOK.of {o : Oper} {S : SPred} {xr : List Nat} (hg : Guard ops o.guard L G)
    (h : ∀ (M : MSet) (D : Nat → MSet) (a : Act) (w : World), Low M w → SatOn (o.looksAt ops ++ xr) M L a w → SatB xr M D B a w → G → Does P o a w (fun v w' => Ext w w' ∧ S.p M v w')) :
    StepOK P ops fs o L B (xr, []) ⟨G, S⟩ [] := by
  intro M D a w _ hm hs hsB
  simp only [List.append_nil] at hsB
  rcases hg with ⟨hn, rfl⟩ | ⟨j, want, t, c, b, hgd, ht, hl, rfl⟩
  · have hw : Region.wanted o (yielded ops a.tmps) = true := by simp [Region.wanted, hn]
    rw [if_pos hw]
    exact (h M D a w hm hs hsB trivial).mono fun v w' ⟨h1, h2⟩ => ⟨h1, fun _ => h2, fun hf => (hf trivial).elim⟩
  · have htl : t ∈ o.looksAt ops ++ xr := by
      unfold Oper.looksAt
      exact List.mem_append_left _ (List.mem_append_right _ (by simp [hgd, ht]))
    obtain ⟨v, hv, he⟩ := hs t htl _ hl
    by_cases hc : c
    · have hvb : v = .bool b := rep_bool.1 (he.1 hc)
      have hw : Region.wanted o (yielded ops a.tmps) = (b == want) := by
        simp [Region.wanted, hgd, yielded, ht, hv, hvb]
      rw [hw]
      by_cases hb : b = want
      · rw [if_pos (by simp [hb])]
        exact (h M D a w hm hs hsB ⟨hc, hb⟩).mono fun v w' ⟨h1, h2⟩ => ⟨h1, fun _ => h2, fun hf => (hf ⟨hc, hb⟩).elim⟩
      · rw [if_neg (by simpa using hb)]
        exact ⟨rfl, fun hf => absurd hf.2 hb, fun _ => rfl⟩
    · have hvu : v = undef := he.2 hc
      have hw : Region.wanted o (yielded ops a.tmps) = false := by
        simp [Region.wanted, hgd, yielded, ht, hv, hvu, undef]
      rw [hw, if_neg (by simp)]
      exact ⟨rfl, fun hf => absurd hf.1 hc, fun _ => rfl⟩

theorem Does.value {o : Oper} {a : Act} {w w' : World} {v : Value} {R : Value → World → Prop} (hr : (execOp a.eval o).run P w = .ok (.value v) w') (h : R v w') : Does P o a w R := by
  unfold Does Oper.wp; rw [hr]; exact ⟨v, rfl, h⟩

/-- An operation that only computes. -/
theorem StepOK.pure {o : Oper} {S : SPred} {xr : List Nat} (hg : Guard ops o.guard L G)
    (h : ∀ (M : MSet) (a : Act) (w : World), Low M w → SatOn (o.looksAt ops ++ xr) M L a w → G → ∃ v, (execOp a.eval o).run P w = .ok (.value v) w ∧ S.p M v w) :
    StepOK P ops fs o L B (xr, []) ⟨G, S⟩ [] :=
  .of hg fun M D a w hm hs _ hG => let ⟨_, hr, hv⟩ := h M a w hm hs hG; Does.value hr ⟨Keeps.refl _ _, hv⟩

variable {d : Option Tmp} {ty : TypeId} {pos : String} {after : Array Edge} {g : Option (Nat × Bool)} {xr : List Nat}

theorem StepOK.move {x : Operand} {S : SPred} (hg : Guard ops g L G) (hx : Opd L G x S) : StepOK P ops fs ⟨d, .move x, ty, pos, after, g⟩ L B (xr, []) ⟨G, S⟩ [] :=
  .pure hg fun M a w _ hs hG => ⟨a.eval x, rfl, hx.get hs (fun t ht => looksAt_op (by simp [Op.operands, ht])) hG⟩
theorem StepOK.assign {x : Operand} {S : SPred} (hg : Guard ops g L G) (hx : Opd L G x S) : StepOK P ops fs ⟨d, .assign x, ty, pos, after, g⟩ L B (xr, []) ⟨G, S⟩ [] :=
  .pure hg fun M a w _ hs hG => ⟨a.eval x, rfl, hx.get hs (fun t ht => looksAt_op (by simp [Op.operands, ht])) hG⟩

theorem ex_pick {ρ : Operand → Value} {c x y : Operand} {b : Bool} {w : World} (hc : ρ c = .bool b) :
    (execOp ρ ⟨d, .pick c x y, ty, pos, after, g⟩).run P w = .ok (.value (if b then ρ x else ρ y)) w := by
  simp only [execOp, hc]; rfl

theorem StepOK.pickAnd {c x : Operand} {b1 b2 : Bool} (hg : Guard ops g L G) (hc : Opd L G c (rep b1)) (hx : Opd L (G ∧ b1 = true) x (rep b2)) :
    StepOK P ops fs ⟨d, .pick c x (.const (.bool false)), ty, pos, after, g⟩ L B (xr, []) ⟨G, rep (b1 && b2)⟩ [] :=
  .pure hg fun M a w _ hs hG => by
    have h1 := rep_bool.1 (hc.get hs (fun t ht => looksAt_op (by simp [Op.operands, ht])) hG)
    refine ⟨_, ex_pick h1, rep_bool.2 ?_⟩
    cases b1 with
    | true => simpa using rep_bool.1 (hx.get hs (fun t ht => looksAt_op (by simp [Op.operands, ht])) ⟨hG, rfl⟩)
    | false => rfl
theorem StepOK.pickOr {c x : Operand} {b1 b2 : Bool} (hg : Guard ops g L G) (hc : Opd L G c (rep b1)) (hx : Opd L (G ∧ b1 = false) x (rep b2)) :
    StepOK P ops fs ⟨d, .pick c (.const (.bool true)) x, ty, pos, after, g⟩ L B (xr, []) ⟨G, rep (b1 || b2)⟩ [] :=
  .pure hg fun M a w _ hs hG => by
    have h1 := rep_bool.1 (hc.get hs (fun t ht => looksAt_op (by simp [Op.operands, ht])) hG)
    refine ⟨_, ex_pick h1, rep_bool.2 ?_⟩
    cases b1 with
    | false => simpa using rep_bool.1 (hx.get hs (fun t ht => looksAt_op (by simp [Op.operands, ht])) ⟨hG, rfl⟩)
    | true => rfl

theorem ex_not {ρ : Operand → Value} {x : Operand} {T : TypeId} {b : Bool} {w : World} (hx : ρ x = .bool b) :
    (execOp ρ ⟨d, .unOp .not T x, ty, pos, after, g⟩).run P w = .ok (.value (.bool !b)) w := by
  simp only [execOp, hx]; rfl
theorem StepOK.not {x : Operand} {T : TypeId} {b : Bool} (hg : Guard ops g L G) (hx : Opd L G x (rep b)) : StepOK P ops fs ⟨d, .unOp .not T x, ty, pos, after, g⟩ L B (xr, []) ⟨G, rep (!b)⟩ [] :=
  .pure hg fun M a w _ hs hG => ⟨_, ex_not (rep_bool.1 (hx.get hs (fun t ht => looksAt_op (by simp [Op.operands, ht])) hG)), rep_bool.2 rfl⟩

/-! Integers. -/

def W (n : Int) : Int := IntKind.i64.wrap n
theorem W_eq {n : Int} (h : InI n) : W n = n := IntWalk.i64_in n h
theorem W_in (n : Int) : InI (W n) := by
  unfold W InI; rw [IntKind.wrap_i64]; omega

theorem ex_bin {ρ : Operand → Value} {op : BinOp} {x y : Operand} {T T' : TypeId} {m n : Int} {v : Value} {w : World} (hx : ρ x = .int .i64 m) (hy : ρ y = .int .i64 n)
    (hv : (binOp op T (.int .i64 m) (.int .i64 n)).run P w = .ok v w) :
    (execOp ρ ⟨d, .binOp op T x y T', ty, pos, after, g⟩).run P w = .ok (.value v) w := by
  have hgd : eqGuard op T x y (.int .i64 m) (.int .i64 n) = Pure.pure () := by
    unfold eqGuard; cases op <;> rfl
  simp only [execOp, hx, hy, hgd]
  generalize binOp op T (.int .i64 m) (.int .i64 n) = s at *
  simp [go_sem, hv]

theorem StepOK.bin {op : BinOp} {x y : Operand} {T T' : TypeId} {m n : Int} {S : SPred} (hg : Guard ops g L G) (hx : Opd L G x (rep m)) (hy : Opd L G y (rep n))
    (h : G → InI m → InI n → ∃ v, (∀ w, (binOp op T (.int .i64 m) (.int .i64 n)).run P w = .ok v w) ∧ ∀ M w, S.p M v w) :
    StepOK P ops fs ⟨d, .binOp op T x y T', ty, pos, after, g⟩ L B (xr, []) ⟨G, S⟩ [] :=
  .pure hg fun M a w _ hs hG => by
    obtain ⟨h1, i1⟩ := rep_int.1 (hx.get hs (fun t ht => looksAt_op (by simp [Op.operands, ht])) hG)
    obtain ⟨h2, i2⟩ := rep_int.1 (hy.get hs (fun t ht => looksAt_op (by simp [Op.operands, ht])) hG)
    obtain ⟨v, hv, hS⟩ := h hG i1 i2
    exact ⟨v, ex_bin h1 h2 (hv w), hS M w⟩

theorem StepOK.addW {x y : Operand} {T T' : TypeId} {m n : Int} (hg : Guard ops g L G) (hx : Opd L G x (rep m)) (hy : Opd L G y (rep n)) :
    StepOK P ops fs ⟨d, .binOp .add T x y T', ty, pos, after, g⟩ L B (xr, []) ⟨G, rep (W (m + n))⟩ [] :=
  .bin hg hx hy fun _ _ _ => ⟨_, fun _ => rfl, fun _ _ => rep_int.2 ⟨rfl, W_in _⟩⟩
theorem StepOK.subW {x y : Operand} {T T' : TypeId} {m n : Int} (hg : Guard ops g L G) (hx : Opd L G x (rep m)) (hy : Opd L G y (rep n)) :
    StepOK P ops fs ⟨d, .binOp .sub T x y T', ty, pos, after, g⟩ L B (xr, []) ⟨G, rep (W (m - n))⟩ [] :=
  .bin hg hx hy fun _ _ _ => ⟨_, fun _ => rfl, fun _ _ => rep_int.2 ⟨rfl, W_in _⟩⟩
theorem StepOK.mulW {x y : Operand} {T T' : TypeId} {m n : Int} (hg : Guard ops g L G) (hx : Opd L G x (rep m)) (hy : Opd L G y (rep n)) :
    StepOK P ops fs ⟨d, .binOp .mul T x y T', ty, pos, after, g⟩ L B (xr, []) ⟨G, rep (W (m * n))⟩ [] :=
  .bin hg hx hy fun _ _ _ => ⟨_, fun _ => rfl, fun _ _ => rep_int.2 ⟨rfl, W_in _⟩⟩
theorem StepOK.add {x y : Operand} {T T' : TypeId} {m n : Int} (hg : Guard ops g L G) (hx : Opd L G x (rep m)) (hy : Opd L G y (rep n)) (hb : G → InI m → InI n → InI (m + n)) :
    StepOK P ops fs ⟨d, .binOp .add T x y T', ty, pos, after, g⟩ L B (xr, []) ⟨G, rep (m + n)⟩ [] :=
  .bin hg hx hy fun hG h1 h2 => ⟨_, fun _ => rfl, fun _ _ => rep_int.2 ⟨by rw [show IntKind.i64.wrap (m + n) = m + n from W_eq (hb hG h1 h2)], hb hG h1 h2⟩⟩
theorem StepOK.sub {x y : Operand} {T T' : TypeId} {m n : Int} (hg : Guard ops g L G) (hx : Opd L G x (rep m)) (hy : Opd L G y (rep n)) (hb : G → InI m → InI n → InI (m - n)) :
    StepOK P ops fs ⟨d, .binOp .sub T x y T', ty, pos, after, g⟩ L B (xr, []) ⟨G, rep (m - n)⟩ [] :=
  .bin hg hx hy fun hG h1 h2 => ⟨_, fun _ => rfl, fun _ _ => rep_int.2 ⟨by rw [show IntKind.i64.wrap (m - n) = m - n from W_eq (hb hG h1 h2)], hb hG h1 h2⟩⟩
theorem StepOK.mul {x y : Operand} {T T' : TypeId} {m n : Int} (hg : Guard ops g L G) (hx : Opd L G x (rep m)) (hy : Opd L G y (rep n)) (hb : G → InI m → InI n → InI (m * n)) :
    StepOK P ops fs ⟨d, .binOp .mul T x y T', ty, pos, after, g⟩ L B (xr, []) ⟨G, rep (m * n)⟩ [] :=
  .bin hg hx hy fun hG h1 h2 => ⟨_, fun _ => rfl, fun _ _ => rep_int.2 ⟨by rw [show IntKind.i64.wrap (m * n) = m * n from W_eq (hb hG h1 h2)], hb hG h1 h2⟩⟩

theorem tdiv_in {m n : Int} (h1 : InI m) (h0 : 0 < n) : InI (m.tdiv n) := by
  unfold InI at *
  rcases Int.le_total 0 m with h | h
  · have a := Int.tdiv_nonneg h (Int.le_of_lt h0)
    have b := Int.natAbs_tdiv_le_natAbs m n
    omega
  · obtain ⟨k, rfl⟩ : ∃ k, m = -k := ⟨-m, by omega⟩
    rw [Int.neg_tdiv]
    have a := Int.tdiv_nonneg (show 0 ≤ k by omega) (Int.le_of_lt h0)
    have b := Int.natAbs_tdiv_le_natAbs k n
    omega
theorem tmod_in {m n : Int} (h1 : InI m) : InI (m.tmod n) := by
  unfold InI at *
  rcases Int.le_total 0 m with h | h
  · have a := Int.tmod_nonneg n h
    have b := Int.natAbs_tmod m n
    have c := Nat.mod_le m.natAbs n.natAbs
    omega
  · obtain ⟨k, rfl⟩ : ∃ k, m = -k := ⟨-m, by omega⟩
    rw [Int.neg_tmod]
    have a := Int.tmod_nonneg n (show 0 ≤ k by omega)
    have b := Int.natAbs_tmod k n
    have c := Nat.mod_le k.natAbs n.natAbs
    omega
/-- x / y, y above 0. -/
theorem StepOK.quo {x y : Operand} {T T' : TypeId} {m n : Int} (hg : Guard ops g L G) (hx : Opd L G x (rep m)) (hy : Opd L G y (rep n)) (hb : G → 0 < n) :
    StepOK P ops fs ⟨d, .binOp .quo T x y T', ty, pos, after, g⟩ L B (xr, []) ⟨G, rep (m.tdiv n)⟩ [] :=
  .bin hg hx hy fun hG h1 h2 => ⟨.int .i64 (m.tdiv n), fun w => by
    have hn : ¬ n = 0 := by have := hb hG; omega
    simp only [binOp, Op.intDiv, hn, ne_eq, not_true_eq_false, if_false]
    rw [show IntKind.i64.wrap (m.tdiv n) = m.tdiv n from W_eq (tdiv_in h1 (hb hG))]; rfl, fun _ _ => rep_int.2 ⟨rfl, tdiv_in h1 (hb hG)⟩⟩
theorem StepOK.rem {x y : Operand} {T T' : TypeId} {m n : Int} (hg : Guard ops g L G) (hx : Opd L G x (rep m)) (hy : Opd L G y (rep n)) (hb : G → 0 < n) :
    StepOK P ops fs ⟨d, .binOp .rem T x y T', ty, pos, after, g⟩ L B (xr, []) ⟨G, rep (m.tmod n)⟩ [] :=
  .bin hg hx hy fun hG h1 h2 => ⟨.int .i64 (m.tmod n), fun w => by
    have hn : ¬ n = 0 := by have := hb hG; omega
    simp only [binOp, Op.intDiv, hn, ne_eq, not_true_eq_false, if_false]; rfl, fun _ _ => rep_int.2 ⟨rfl, tmod_in h1⟩⟩

theorem StepOK.eqI {x y : Operand} {T T' : TypeId} {m n : Int} (hg : Guard ops g L G) (hx : Opd L G x (rep m)) (hy : Opd L G y (rep n)) :
    StepOK P ops fs ⟨d, .binOp .eql T x y T', ty, pos, after, g⟩ L B (xr, []) ⟨G, rep (decide (m = n))⟩ [] :=
  .bin hg hx hy fun _ _ _ => ⟨_, fun _ => rfl, fun _ _ => rep_bool.2 rfl⟩
theorem StepOK.neI {x y : Operand} {T T' : TypeId} {m n : Int} (hg : Guard ops g L G) (hx : Opd L G x (rep m)) (hy : Opd L G y (rep n)) :
    StepOK P ops fs ⟨d, .binOp .neq T x y T', ty, pos, after, g⟩ L B (xr, []) ⟨G, rep (!decide (m = n))⟩ [] :=
  .bin hg hx hy fun _ _ _ => ⟨_, fun _ => rfl, fun _ _ => rep_bool.2 rfl⟩
theorem StepOK.lt {x y : Operand} {T T' : TypeId} {m n : Int} (hg : Guard ops g L G) (hx : Opd L G x (rep m)) (hy : Opd L G y (rep n)) :
    StepOK P ops fs ⟨d, .binOp .lss T x y T', ty, pos, after, g⟩ L B (xr, []) ⟨G, rep (decide (m < n))⟩ [] :=
  .bin hg hx hy fun _ _ _ => ⟨_, fun _ => rfl, fun _ _ => rep_bool.2 rfl⟩
theorem StepOK.le {x y : Operand} {T T' : TypeId} {m n : Int} (hg : Guard ops g L G) (hx : Opd L G x (rep m)) (hy : Opd L G y (rep n)) :
    StepOK P ops fs ⟨d, .binOp .leq T x y T', ty, pos, after, g⟩ L B (xr, []) ⟨G, rep (decide (m ≤ n))⟩ [] :=
  .bin hg hx hy fun _ _ _ => ⟨_, fun _ => rfl, fun _ _ => rep_bool.2 rfl⟩
theorem StepOK.gt {x y : Operand} {T T' : TypeId} {m n : Int} (hg : Guard ops g L G) (hx : Opd L G x (rep m)) (hy : Opd L G y (rep n)) :
    StepOK P ops fs ⟨d, .binOp .gtr T x y T', ty, pos, after, g⟩ L B (xr, []) ⟨G, rep (decide (n < m))⟩ [] :=
  .bin hg hx hy fun _ _ _ => ⟨_, fun _ => rfl, fun _ _ => rep_bool.2 rfl⟩
theorem StepOK.ge {x y : Operand} {T T' : TypeId} {m n : Int} (hg : Guard ops g L G) (hx : Opd L G x (rep m)) (hy : Opd L G y (rep n)) :
    StepOK P ops fs ⟨d, .binOp .geq T x y T', ty, pos, after, g⟩ L B (xr, []) ⟨G, rep (decide (n ≤ m))⟩ [] :=
  .bin hg hx hy fun _ _ _ => ⟨_, fun _ => rfl, fun _ _ => rep_bool.2 rfl⟩

theorem ex_neg {ρ : Operand → Value} {x : Operand} {T : TypeId} {n : Int} {w : World} (hx : ρ x = .int .i64 n) :
    (execOp ρ ⟨d, .unOp .neg T x, ty, pos, after, g⟩).run P w = .ok (.value (.int .i64 (W (0 - n)))) w := by
  simp only [execOp, hx]; rfl
theorem StepOK.neg {x : Operand} {T : TypeId} {n : Int} (hg : Guard ops g L G) (hx : Opd L G x (rep n)) (hb : G → InI n → InI (-n)) :
    StepOK P ops fs ⟨d, .unOp .neg T x, ty, pos, after, g⟩ L B (xr, []) ⟨G, rep (-n)⟩ [] :=
  .pure hg fun M a w _ hs hG => by
    obtain ⟨h1, i1⟩ := rep_int.1 (hx.get hs (fun t ht => looksAt_op (by simp [Op.operands, ht])) hG)
    exact ⟨_, ex_neg h1, rep_int.2 ⟨by rw [Int.zero_sub, W_eq (hb hG i1)], hb hG i1⟩⟩
theorem StepOK.negW {x : Operand} {T : TypeId} {n : Int} (hg : Guard ops g L G) (hx : Opd L G x (rep n)) :
    StepOK P ops fs ⟨d, .unOp .neg T x, ty, pos, after, g⟩ L B (xr, []) ⟨G, rep (W (-n))⟩ [] :=
  .pure hg fun M a w _ hs hG => by
    obtain ⟨h1, i1⟩ := rep_int.1 (hx.get hs (fun t ht => looksAt_op (by simp [Op.operands, ht])) hG)
    exact ⟨_, ex_neg h1, rep_int.2 ⟨by rw [Int.zero_sub], W_in _⟩⟩

/-! min, max. -/

theorem ex_min {ρ : Operand → Value} {x y : Operand} {ts : Array TypeId} {m n : Int} {w : World} (hx : ρ x = .int .i64 m) (hy : ρ y = .int .i64 n) :
    (execOp ρ ⟨d, .call { callee := .builtin .min, args := #[x, y], argTypes := ts }, ty, pos, after, g⟩).run P w = .ok (.value (.int .i64 (min m n))) w := by
  have h : (if n < m then n else m) = min m n := by rw [Int.min_def]; split <;> split <;> omega
  rw [← h]
  simp [execOp, resolve, invoke, builtin, Builtin.min_, Builtin.min2, hx, hy, go_sem]
theorem ex_max {ρ : Operand → Value} {x y : Operand} {ts : Array TypeId} {m n : Int} {w : World} (hx : ρ x = .int .i64 m) (hy : ρ y = .int .i64 n) :
    (execOp ρ ⟨d, .call { callee := .builtin .max, args := #[x, y], argTypes := ts }, ty, pos, after, g⟩).run P w = .ok (.value (.int .i64 (max m n))) w := by
  have h : (if m < n then n else m) = max m n := by rw [Int.max_def]; split <;> split <;> omega
  rw [← h]
  simp [execOp, resolve, invoke, builtin, Builtin.max_, Builtin.max2, hx, hy, go_sem]
theorem min_in {m n : Int} (h1 : InI m) (h2 : InI n) : InI (min m n) := by unfold InI at *; omega
theorem max_in {m n : Int} (h1 : InI m) (h2 : InI n) : InI (max m n) := by unfold InI at *; omega
theorem call_ops {c : Call} {x : Operand} (h : x ∈ c.args) : x ∈ (Op.call c).operands := by
  simp only [Op.operands, Call.operands]
  exact Array.mem_append.2 (.inr h)
theorem StepOK.min2 {x y : Operand} {ts : Array TypeId} {m n : Int} (hg : Guard ops g L G) (hx : Opd L G x (rep m)) (hy : Opd L G y (rep n)) :
    StepOK P ops fs ⟨d, .call { callee := .builtin .min, args := #[x, y], argTypes := ts }, ty, pos, after, g⟩ L B (xr, []) ⟨G, rep (min m n)⟩ [] :=
  .pure hg fun M a w _ hs hG => by
    obtain ⟨h1, i1⟩ := rep_int.1 (hx.get hs (fun t ht => looksAt_op (call_ops (by simp [ht]))) hG)
    obtain ⟨h2, i2⟩ := rep_int.1 (hy.get hs (fun t ht => looksAt_op (call_ops (by simp [ht]))) hG)
    exact ⟨_, ex_min h1 h2, rep_int.2 ⟨rfl, min_in i1 i2⟩⟩
theorem StepOK.max2 {x y : Operand} {ts : Array TypeId} {m n : Int} (hg : Guard ops g L G) (hx : Opd L G x (rep m)) (hy : Opd L G y (rep n)) :
    StepOK P ops fs ⟨d, .call { callee := .builtin .max, args := #[x, y], argTypes := ts }, ty, pos, after, g⟩ L B (xr, []) ⟨G, rep (max m n)⟩ [] :=
  .pure hg fun M a w _ hs hG => by
    obtain ⟨h1, i1⟩ := rep_int.1 (hx.get hs (fun t ht => looksAt_op (call_ops (by simp [ht]))) hG)
    obtain ⟨h2, i2⟩ := rep_int.1 (hy.get hs (fun t ht => looksAt_op (call_ops (by simp [ht]))) hG)
    exact ⟨_, ex_max h1 h2, rep_int.2 ⟨rfl, max_in i1 i2⟩⟩

end
attribute [irreducible] W
end Go.DB
