/-
  A region of operations in whatever order it is drawn: slots and what they stand for, worlds that only grow. Over any program.
-/
import Derived.Test.YthopjimlhjgoiaaDoorCore0
set_option linter.unusedSimpArgs false
set_option linter.unusedVariables false
namespace Go.DB
open Go Go.RowKit

def NoM : MSet := fun _ => False
abbrev Ext (w w' : World) : Prop := Keeps NoM w w'

theorem Keeps.refl (M : MSet) (w : World) : Keeps M w w := ⟨rfl, rfl, rfl, Nat.le_refl _, fun _ _ _ => rfl⟩
theorem Keeps.trans {M : MSet} {a b c : World} (h : Keeps M a b) (k : Keeps M b c) : Keeps M a c :=
  ⟨k.os.trans h.os, k.tape.trans h.tape, k.output.trans h.output, Nat.le_trans h.size k.size,
    fun i hi hm => (k.block i (Nat.lt_of_lt_of_le hi h.size) hm).trans (h.block i hi hm)⟩
theorem Ext.keeps {M : MSet} {a b : World} (h : Ext a b) : Keeps M a b := ⟨h.os, h.tape, h.output, h.size, fun k hk _ => h.block k hk (fun f => f)⟩
theorem Keeps.mono {M M' : MSet} {a b : World} (h : Keeps M a b) (hm : ∀ k, k < a.heap.size → M k → M' k) : Keeps M' a b :=
  ⟨h.os, h.tape, h.output, h.size, fun k hk hn => h.block k hk (fun x => hn (hm k hk x))⟩
theorem Ext.below {w w' : World} (h : Ext w w') {B : Nat} (hB : B ≤ w.heap.size) : Below B w w' :=
  ⟨h.os, h.tape, h.output, h.size, fun k hk => h.block k (by omega) (fun f => f)⟩
theorem Ext.of_below {w w' : World} (h : Below w.heap.size w w') : Ext w w' :=
  ⟨h.os, h.tape, h.output, h.size, fun k hk _ => h.block k hk⟩
theorem Ext.drew (w : World) : Ext w { w with drawn := w.drawn + 1 } := ⟨rfl, rfl, rfl, Nat.le_refl _, fun _ _ _ => rfl⟩
theorem Ext.alloc (w : World) (o : Obj) : Ext w (w.alloc o) := Ext.of_below ((Below.refl _ w).alloc (Nat.le_refl _) o)

/-- What a value stands for, in a world, where the blocks of M may be written. -/
structure SPred where
  p : MSet → Value → World → Prop
  law : ∀ M M' v w w', Keeps M w w' → (∀ k, M' k → M k ∨ w.heap.size ≤ k) → p M v w → p M' v w'

theorem SPred.ext (S : SPred) {M : MSet} {v : Value} {w w' : World} (h : Ext w w') (hp : S.p M v w) : S.p M v w' :=
  S.law M M v w w' h.keeps (fun _ h => .inl h) hp

/-- An entry of a slot: where c holds, the value stands for s; else the slot was passed by. -/
structure Ent where
  c : Prop
  s : SPred

def Ent.holds (e : Ent) (M : MSet) (v : Value) (w : World) : Prop := (e.c → e.s.p M v w) ∧ (¬ e.c → v = undef)

theorem Ent.holds_ext {e : Ent} {M : MSet} {v : Value} {w w' : World} (h : Ext w w') (hp : e.holds M v w) : e.holds M v w' :=
  ⟨fun hc => e.s.ext h (hp.1 hc), hp.2⟩
theorem Ent.holds_law {e : Ent} {M M' : MSet} {v : Value} {w w' : World} (h : Keeps M w w') (hm : ∀ k, M' k → M k ∨ w.heap.size ≤ k) (hp : e.holds M v w) : e.holds M' v w' :=
  ⟨fun hc => e.s.law _ _ _ _ _ h hm (hp.1 hc), hp.2⟩

abbrev Slots := List (Nat × Ent)

def look : Slots → Nat → Option Ent
  | [], _ => none
  | (k, e) :: r, t => bif Nat.beq k t then some e else look r t

/-- What a key's own memory holds: v is the slot's value (where the key is a slot), D the blocks that are its own. -/
structure CPred where
  p : MSet → MSet → Value → World → Prop
  inM : ∀ M D v w, p M D v w → ∀ k, D k → M k
  law : ∀ M M' D v w w', Keeps M w w' → (∀ k, M' k → M k ∨ w.heap.size ≤ k) → (∀ k, D k → M' k ∧ w'.heap[k]? = w.heap[k]?) → p M D v w → p M' D v w'

abbrev Owns := List (Nat × Option CPred)

def lookB : Owns → Nat → Option CPred
  | [], _ => none
  | (k, c) :: r, t => bif Nat.beq k t then c else lookB r t

def hasKey : Owns → Nat → Bool
  | [], _ => false
  | (k, _) :: r, t => Nat.beq k t || hasKey r t

/-- The value of a slot; a key that is no slot has none. -/
def Act.val (a : Act) (t : Nat) : Value := (a.tmps[t]?).getD undef

/-- The slots of a hold what L says. -/
def SatOn (ts : List Nat) (M : MSet) (L : Slots) (a : Act) (w : World) : Prop :=
  ∀ t ∈ ts, ∀ e, look L t = some e → ∃ v, a.tmps[t]? = some v ∧ e.holds M v w

/-- No two keys own one block. -/
def Apart (f : Nat → Option CPred) (D : Nat → MSet) : Prop :=
  ∀ t t' c c', f t = some c → f t' = some c' → t ≠ t' → ∀ k, D t k → ¬ D t' k

structure SatB (ts : List Nat) (M : MSet) (D : Nat → MSet) (B : Owns) (a : Act) (w : World) : Prop where
  has : ∀ t ∈ ts, ∀ c, lookB B t = some c → c.p M (D t) (Act.val a t) w
  apart : ∀ t ∈ ts, ∀ t' ∈ ts, ∀ c c', lookB B t = some c → lookB B t' = some c' → t ≠ t' → ∀ k, D t k → ¬ D t' k

/-- A call's frame: its first world, the blocks that its caller may write, and those that it may write itself. -/
structure Fr where
  w0 : World
  Mf : MSet
  M0 : MSet

structure Sat1 (n : Nat) (F : Fr) (L : Slots) (B : Owns) (M : MSet) (D : Nat → MSet) (a : Act) (w : World) : Prop where
  size : a.tmps.size = n
  defers : a.defers = []
  keeps : Keeps F.M0 F.w0 w
  mf0 : ∀ k, F.Mf k → k < F.w0.heap.size
  mlow : ∀ k, F.Mf k → M k ∨ F.M0 k
  mhigh : ∀ k, M k → F.Mf k ∨ F.w0.heap.size ≤ k
  msub : Low M w
  has : ∀ t e, look L t = some e → ∃ v, a.tmps[t]? = some v ∧ e.holds M v w
  hasB : ∀ t c, lookB B t = some c → c.p M (D t) (Act.val a t) w
  own : ∀ t c, lookB B t = some c → ∀ k, D t k → F.M0 k ∨ F.w0.heap.size ≤ k
  apart : Apart (lookB B) D

def Sat (n : Nat) (F : Fr) (L : Slots) (B : Owns) (a : Act) (w : World) : Prop := ∃ M D, Sat1 n F L B M D a w

/-- The operation runs through, and R holds of what it gives and of the world. -/
def Does (P : Program) (o : Oper) (a : Act) (w : World) (R : Value → World → Prop) : Prop :=
  o.wp P a w (fun a' w' => ∃ v, a' = a.put o.dst v ∧ R v w') (fun _ _ _ => False)

theorem Does.wp {P : Program} {o : Oper} {a : Act} {w : World} {R : Value → World → Prop} {K : Act → World → Prop} {Q : Exit → Act → World → Prop}
    (h : Does P o a w R) (hk : ∀ v w', R v w' → K (a.put o.dst v) w') : o.wp P a w K Q := by
  have h1 : o.wp P a w (fun a' w' => ∃ v, a' = a.put o.dst v ∧ R v w') Q := by
    unfold Does Oper.wp at *
    generalize (execOp a.eval o).run P w = r at *
    cases r with
    | ok n w' =>
      cases n <;> simp only [Oper.upon] at h ⊢ <;> first
        | exact h
        | exact Calls.mono h (fun e w'' he => by
            cases e with
            | returned v => exact he
            | panicked c => exact he.elim
            | outgrown => obtain ⟨_, _, hf⟩ := he; exact hf.elim)
    | halt x w' => cases x <;> simp only [Oper.upon] at h ⊢ <;> first | exact h | exact h.elim
  exact Oper.wp_mono (fun a' w' ⟨v, ha, hr⟩ => ha ▸ hk v w' hr) h1

theorem Does.mono {P : Program} {o : Oper} {a : Act} {w : World} {R R' : Value → World → Prop} (h : Does P o a w R) (hr : ∀ v w', R v w' → R' v w') :
    Does P o a w R' := Oper.wp_mono (fun _ _ ⟨v, ha, hv⟩ => ⟨v, ha, hr _ _ hv⟩) h

/-- Which keys' own memory an operation looks at, and whose it writes. -/
abbrev Aux := List Nat × List Nat

abbrev Writes := List (Nat × Option CPred)

/-- The blocks that an operation may write: those of the keys that it writes, as they were. -/
def Mine (xs : List Nat) (B : Owns) (D : Nat → MSet) : MSet := fun k => ∃ t ∈ xs, ∃ c, lookB B t = some c ∧ D t k

/-- What an operation leaves: the slot that it fills, and what the keys that it writes then hold. -/
def Leaves (o : Oper) (B : Owns) (D : Nat → MSet) (xs : List Nat) (E : Ent) (Ws : Writes) (M : MSet) (a : Act) (w : World) (v : Value) (w' : World) : Prop :=
  match Ws with
  | [] => Ext w w' ∧ E.holds M v w'
  | W :: Ws => ∃ M' D', Keeps (Mine xs B D) w w' ∧ (∀ k, M k → M' k ∨ Mine xs B D k) ∧ (∀ k, M' k → M k ∨ w.heap.size ≤ k) ∧ (∀ k, M' k → k < w'.heap.size) ∧ E.holds M' v w' ∧
      (∀ t c, lookB (W :: Ws) t = some c → c.p M' (D' t) (Act.val (a.put o.dst v) t) w' ∧ ∀ k, D' t k → Mine xs B D k ∨ w.heap.size ≤ k) ∧ Apart (lookB (W :: Ws)) D'

/-- One operation, in whatever world at whatever time: it leaves what E (and Ws) say. -/
def StepOK (P : Program) (ops : Array Oper) (n : Nat) (o : Oper) (L : Slots) (B : Owns) (x : Aux) (E : Ent) (Ws : Writes) : Prop :=
  ∀ (M : MSet) (D : Nat → MSet) (a : Act) (w : World), a.tmps.size = n → Low M w → SatOn (o.looksAt ops ++ x.1) M L a w → SatB (x.1 ++ x.2) M D B a w →
    if Region.wanted o (yielded ops a.tmps) then Does P o a w (Leaves o B D x.2 E Ws M a w) else Ws = [] ∧ E.holds M undef w

def pushD (d : Option Tmp) (e : Ent) (L : Slots) : Slots :=
  match d with
  | some t => (t, e) :: L
  | none => L

def dropB (d : Option Tmp) (B : Owns) : Owns :=
  match d with
  | some t => bif hasKey B t then (t, none) :: B else B
  | none => B

def pushB (d : Option Tmp) (Ws : Writes) (B : Owns) : Owns :=
  match Ws with
  | [] => dropB d B
  | W :: Ws => (W :: Ws) ++ dropB d B

def aux0 : Aux := ([], [])

def Chain (P : Program) (ops : Array Oper) (n : Nat) : List Oper → List Aux → Slots → Owns → (Slots → Owns → Prop) → Prop
  | [], _, L, B, K => K L B
  | o :: rest, aux, L, B, K => ∃ E Ws, Ws.map (·.1) = (aux.headD aux0).2 ∧ StepOK P ops n o L B (aux.headD aux0) E Ws ∧ Chain P ops n rest aux.tail (pushD o.dst E L) (pushB o.dst Ws B) K

/-! The order. -/

def maskOf (ms : List Nat) (o : Oper) : Nat :=
  o.after.toList.foldl (fun s e => bif Region.binds .any e then s ||| 2 ^ e.on ||| ms.getD e.on 0 else s) 0

def masksFrom : List Nat → List Oper → List Nat
  | ms, [] => ms
  | ms, o :: os => masksFrom (ms ++ [maskOf ms o]) os

def masks (ops : List Oper) : List Nat := masksFrom [] ops

def edgesOk : Nat → List Oper → Bool
  | _, [] => true
  | i, o :: os => o.after.toList.all (fun e => !Region.binds .any e || Nat.blt e.on i) && edgesOk (i + 1) os

/-- The names that an operation reads and writes: 2 t for slot t, 2 t + 1 for its own memory. -/
def readsN (ops : Array Oper) (o : Oper) (x : Aux) : List Nat :=
  (o.looksAt ops).map (2 * ·) ++ x.1.map (2 * ·) ++ x.1.map (2 * · + 1) ++ x.2.map (2 * ·)
def writesN (o : Oper) (x : Aux) : List Nat :=
  o.dst.toList.map (2 * ·) ++ o.dst.toList.map (2 * · + 1) ++ x.2.map (2 * · + 1)

def meets (xs ys : List Nat) : Bool := xs.any fun x => ys.any (Nat.beq x)

def pairOk (ops : Array Oper) (ms : List Nat) (i j : Nat) (x y : Oper) (ax ay : Aux) : Bool :=
  !(meets (writesN x ax) (writesN y ay) || meets (writesN x ax) (readsN ops y ay) || meets (writesN y ay) (readsN ops x ax)) || (ms.getD j 0).testBit i

def pairsWith (ops : Array Oper) (ms : List Nat) (i : Nat) (x : Oper) (ax : Aux) : Nat → List Oper → List Aux → Bool
  | _, [], _ => true
  | j, y :: ys, aux => pairOk ops ms i j x y ax (aux.headD aux0) && pairsWith ops ms i x ax (j + 1) ys aux.tail

def pairsOk (ops : Array Oper) (ms : List Nat) : Nat → List Oper → List Aux → Bool
  | _, [], _ => true
  | i, x :: xs, aux => pairsWith ops ms i x (aux.headD aux0) (i + 1) xs aux.tail && pairsOk ops ms (i + 1) xs aux.tail

def wfR (ops : Array Oper) (aux : List Aux) : Bool := edgesOk 0 ops.toList && pairsOk ops (masks ops.toList) 0 ops.toList aux

theorem maskOf_spec_aux (ms : List Nat) : ∀ (es : List Edge) (s k : Nat),
    (es.foldl (fun s e => bif Region.binds .any e then s ||| 2 ^ e.on ||| ms.getD e.on 0 else s) s).testBit k = true →
    s.testBit k = true ∨ ∃ e ∈ es, Region.binds .any e = true ∧ (e.on = k ∨ (ms.getD e.on 0).testBit k = true)
  | [], s, k, h => .inl h
  | e :: es, s, k, h => by
    simp only [List.foldl_cons] at h
    rcases maskOf_spec_aux ms es _ k h with h1 | ⟨e', he', h2⟩
    · cases hb : Region.binds .any e with
      | false => rw [hb] at h1; exact .inl h1
      | true =>
        rw [hb] at h1
        simp only [cond_true, Nat.testBit_or, Bool.or_eq_true] at h1
        rcases h1 with (h1 | h1) | h1
        · exact .inl h1
        · rw [Nat.testBit_two_pow] at h1
          exact .inr ⟨e, List.mem_cons_self, hb, .inl (by simpa using h1)⟩
        · exact .inr ⟨e, List.mem_cons_self, hb, .inr h1⟩
    · exact .inr ⟨e', List.mem_cons_of_mem _ he', h2⟩

theorem maskOf_spec {ms : List Nat} {o : Oper} {k : Nat} (h : (maskOf ms o).testBit k = true) :
    ∃ e ∈ o.after, Region.binds .any e = true ∧ (e.on = k ∨ (ms.getD e.on 0).testBit k = true) := by
  rcases maskOf_spec_aux ms _ 0 k h with h1 | ⟨e, he, h2⟩
  · simp at h1
  · exact ⟨e, Array.mem_toList_iff.1 he, h2⟩

theorem masksFrom_pre (ms : List Nat) (os : List Oper) : ∃ r, masksFrom ms os = ms ++ r := by
  induction os generalizing ms with
  | nil => exact ⟨[], by simp [masksFrom]⟩
  | cons o os ih =>
    obtain ⟨r, hr⟩ := ih (ms ++ [maskOf ms o])
    exact ⟨maskOf ms o :: r, by rw [masksFrom, hr]; simp⟩

theorem masksFrom_at : ∀ (os : List Oper) (ms : List Nat) (i : Nat) (o : Oper), os[i]? = some o →
    ∃ pre, (∃ r, masksFrom ms os = pre ++ r) ∧ pre.length = ms.length + i ∧ (masksFrom ms os).getD (ms.length + i) 0 = maskOf pre o
  | [], _, _, _, h => by simp at h
  | x :: os, ms, 0, o, h => by
    simp at h; subst h
    refine ⟨ms, masksFrom_pre _ _, rfl, ?_⟩
    obtain ⟨r, hr⟩ := masksFrom_pre (ms ++ [maskOf ms x]) os
    rw [masksFrom, hr]
    simp
  | x :: os, ms, i + 1, o, h => by
    obtain ⟨pre, hp, hl, he⟩ := masksFrom_at os (ms ++ [maskOf ms x]) i o (by simpa using h)
    refine ⟨pre, hp, by simp at hl; omega, ?_⟩
    simp only [List.length_append, List.length_singleton] at he
    rw [masksFrom, ← he]
    congr 1
    omega

theorem masks_spec {ops : List Oper} {i k : Nat} {o : Oper} (ho : ops[i]? = some o) (h : ((masks ops).getD i 0).testBit k = true) :
    ∃ e ∈ o.after, Region.binds .any e = true ∧ (e.on = k ∨ ((masks ops).getD e.on 0).testBit k = true) := by
  obtain ⟨pre, ⟨r, hr⟩, hl, he⟩ := masksFrom_at ops [] i o ho
  simp only [List.length_nil, Nat.zero_add] at he hl
  rw [masks, he] at h
  obtain ⟨e, hm, hb, h1⟩ := maskOf_spec h
  refine ⟨e, hm, hb, h1.imp id (fun h2 => ?_)⟩
  rw [masks, hr]
  by_cases hlt : e.on < pre.length
  · rw [List.getD_eq_getElem?_getD, List.getElem?_append_left hlt, ← List.getD_eq_getElem?_getD]; exact h2
  · rw [List.getD_eq_getElem?_getD, List.getElem?_eq_none (by omega)] at h2; simp at h2

theorem edgesOk_spec : ∀ (os : List Oper) (b i : Nat) (o : Oper), edgesOk b os = true → os[i]? = some o → ∀ e ∈ o.after, Region.binds .any e = true → e.on < b + i
  | [], _, _, _, _, h => by simp at h
  | x :: os, b, 0, o, hk, h => by
    simp at h; subst h
    simp only [edgesOk, Bool.and_eq_true, List.all_eq_true] at hk
    intro e he hb
    have h1 := hk.1 e (Array.mem_toList_iff.2 he)
    rw [hb, Bool.not_true, Bool.false_or, Nat.blt_eq] at h1
    exact h1
  | x :: os, b, i + 1, o, hk, h => by
    simp only [edgesOk, Bool.and_eq_true] at hk
    intro e he hb
    have h1 := edgesOk_spec os (b + 1) i o hk.2 (by simpa using h) e he hb
    omega

theorem headD_at (aux : List Aux) : aux.headD aux0 = (aux[0]?).getD aux0 := by cases aux <;> rfl
theorem tail_at (aux : List Aux) (i : Nat) : aux.tail[i]? = aux[i + 1]? := by cases aux <;> simp

theorem pairsWith_spec {ops : Array Oper} {ms : List Nat} {i : Nat} {x : Oper} {ax : Aux} (ys : List Oper) : ∀ (aux : List Aux) (b j : Nat) (y : Oper),
    pairsWith ops ms i x ax b ys aux = true → ys[j]? = some y → pairOk ops ms i (b + j) x y ax ((aux[j]?).getD aux0) = true := by
  induction ys with
  | nil => intro aux b j y _ h; simp at h
  | cons z ys ih =>
    intro aux b j y hk h
    simp only [pairsWith, Bool.and_eq_true] at hk
    cases j with
    | zero =>
      simp at h; subst h
      rw [← headD_at]; exact hk.1
    | succ j =>
      have := ih aux.tail (b + 1) j y hk.2 (by simpa using h)
      rw [tail_at] at this
      rwa [show b + (j + 1) = b + 1 + j by omega]

theorem pairsOk_spec {ops : Array Oper} {ms : List Nat} (os : List Oper) : ∀ (aux : List Aux) (b i j : Nat) (x y : Oper),
    pairsOk ops ms b os aux = true → os[i]? = some x → os[j]? = some y → i < j → pairOk ops ms (b + i) (b + j) x y ((aux[i]?).getD aux0) ((aux[j]?).getD aux0) = true := by
  induction os with
  | nil => intro aux b i j x y _ h; simp at h
  | cons z os ih =>
    intro aux b i j x y hk hx hy h
    simp only [pairsOk, Bool.and_eq_true] at hk
    obtain ⟨j, rfl⟩ : ∃ j', j = j' + 1 := ⟨j - 1, by omega⟩
    have hy' : os[j]? = some y := by simpa using hy
    cases i with
    | zero =>
      have hx' : z = x := by simpa using hx
      subst hx'
      have := pairsWith_spec os aux.tail (b + 1) j y hk.1 hy'
      rw [tail_at, headD_at] at this
      rwa [show b + (j + 1) = b + 1 + j by omega]
    | succ i =>
      have := ih aux.tail (b + 1) i j x y hk.2 (by simpa using hx) hy' (by omega)
      rw [tail_at, tail_at] at this
      rwa [show b + (i + 1) = b + 1 + i by omega, show b + (j + 1) = b + 1 + j by omega]

theorem meets_of {xs ys : List Nat} {t : Nat} (h1 : t ∈ xs) (h2 : t ∈ ys) : meets xs ys = true := by
  simp only [meets, List.any_eq_true]
  exact ⟨t, h1, t, h2, by simp⟩

/-- i stands ahead of j where both name something that one of them writes. -/
theorem wfR_spec {ops : Array Oper} {aux : List Aux} (h : wfR ops aux = true) {i j : Nat} {x y : Oper} (hx : ops[i]? = some x) (hy : ops[j]? = some y) (hij : i < j)
    (t : Nat) (ht : (t ∈ writesN x ((aux[i]?).getD aux0) ∧ (t ∈ writesN y ((aux[j]?).getD aux0) ∨ t ∈ readsN ops y ((aux[j]?).getD aux0))) ∨
      (t ∈ writesN y ((aux[j]?).getD aux0) ∧ (t ∈ writesN x ((aux[i]?).getD aux0) ∨ t ∈ readsN ops x ((aux[i]?).getD aux0)))) :
    ((masks ops.toList).getD j 0).testBit i = true := by
  simp only [wfR, Bool.and_eq_true] at h
  have hp := pairsOk_spec ops.toList aux 0 i j x y h.2 (by simpa using hx) (by simpa using hy) hij
  simp only [Nat.zero_add, pairOk, Bool.or_eq_true, Bool.not_eq_true', Bool.or_eq_false_iff] at hp
  rcases hp with ⟨⟨h1, h2⟩, h3⟩ | hp
  · rcases ht with ⟨ha, hb | hb⟩ | ⟨ha, hb | hb⟩
    · rw [meets_of ha hb] at h1; cases h1
    · rw [meets_of ha hb] at h2; cases h2
    · rw [meets_of hb ha] at h1; cases h1
    · rw [meets_of ha hb] at h3; cases h3
  · exact hp

/-! The entries that an order has written so far. -/

def lookP (ops : Array Oper) (Es : List Ent) (L : Slots) (p : Nat → Bool) : Nat → Nat → Option Ent
  | 0, t => look L t
  | i + 1, t => if p i = true ∧ (ops[i]?).bind (·.dst) = some t then Es[i]? else lookP ops Es L p i t

/-- Whether operation i writes slot t's own memory, or fills t anew. -/
def touchB (ops : Array Oper) (Ws : List Writes) (i t : Nat) : Prop :=
  (ops[i]?).bind (·.dst) = some t ∨ ∃ W, Ws[i]? = some W ∧ t ∈ W.map (·.1)

def newB (Ws : List Writes) (i t : Nat) : Option CPred :=
  match Ws[i]? with
  | some W => lookB W t
  | none => none

open Classical in
noncomputable def lookBP (ops : Array Oper) (Ws : List Writes) (B : Owns) (p : Nat → Bool) : Nat → Nat → Option CPred
  | 0, t => lookB B t
  | i + 1, t => if p i = true ∧ touchB ops Ws i t then newB Ws i t else lookBP ops Ws B p i t

theorem lookP_congr {ops : Array Oper} {Es : List Ent} {L : Slots} {p q : Nat → Bool} {t : Nat} : ∀ n,
    (∀ j, j < n → (ops[j]?).bind (·.dst) = some t → p j = q j) → lookP ops Es L p n t = lookP ops Es L q n t
  | 0, _ => rfl
  | n + 1, h => by
    simp only [lookP]
    rw [lookP_congr n (fun j hj => h j (by omega))]
    by_cases hd : (ops[n]?).bind (·.dst) = some t
    · rw [h n (by omega) hd]
    · simp [hd]

theorem lookP_skip {ops : Array Oper} {Es : List Ent} {L : Slots} {p : Nat → Bool} {t i : Nat} : ∀ n, i ≤ n →
    (∀ j, i ≤ j → j < n → (ops[j]?).bind (·.dst) = some t → p j = false) → lookP ops Es L p n t = lookP ops Es L p i t
  | 0, h, _ => by rw [show i = 0 by omega]
  | n + 1, h, hj => by
    by_cases he : i = n + 1
    · rw [he]
    · simp only [lookP]
      rw [if_neg, lookP_skip n (by omega) (fun j h1 h2 => hj j h1 (by omega))]
      rintro ⟨h1, h2⟩
      rw [hj n (by omega) (by omega) h2] at h1
      cases h1

theorem lookBP_congr {ops : Array Oper} {Ws : List Writes} {B : Owns} {p q : Nat → Bool} {t : Nat} : ∀ n,
    (∀ j, j < n → touchB ops Ws j t → p j = q j) → lookBP ops Ws B p n t = lookBP ops Ws B q n t
  | 0, _ => rfl
  | n + 1, h => by
    simp only [lookBP]
    rw [lookBP_congr n (fun j hj => h j (by omega))]
    by_cases hd : touchB ops Ws n t
    · rw [h n (by omega) hd]
    · simp [hd]

theorem lookBP_skip {ops : Array Oper} {Ws : List Writes} {B : Owns} {p : Nat → Bool} {t i : Nat} : ∀ n, i ≤ n →
    (∀ j, i ≤ j → j < n → touchB ops Ws j t → p j = false) → lookBP ops Ws B p n t = lookBP ops Ws B p i t
  | 0, h, _ => by rw [show i = 0 by omega]
  | n + 1, h, hj => by
    by_cases he : i = n + 1
    · rw [he]
    · simp only [lookBP]
      rw [if_neg, lookBP_skip n (by omega) (fun j h1 h2 => hj j h1 (by omega))]
      rintro ⟨h1, h2⟩
      rw [hj n (by omega) (by omega) h2] at h1
      cases h1

/-- The slots behind the first i operations of the text. -/
def Lat (ops : Array Oper) (Es : List Ent) (L : Slots) : Nat → Slots
  | 0 => L
  | i + 1 => match ops[i]?, Es[i]? with
    | some o, some e => pushD o.dst e (Lat ops Es L i)
    | _, _ => Lat ops Es L i

def BAt (ops : Array Oper) (Ws : List Writes) (B : Owns) : Nat → Owns
  | 0 => B
  | i + 1 => match ops[i]?, Ws[i]? with
    | some o, some W => pushB o.dst W (BAt ops Ws B i)
    | _, _ => BAt ops Ws B i

theorem beq_ne {d t : Nat} (h : d ≠ t) : Nat.beq d t = false := by
  cases hx : Nat.beq d t with
  | false => rfl
  | true => exact absurd (Nat.eq_of_beq_eq_true hx) h

theorem look_Lat {ops : Array Oper} {Es : List Ent} {L : Slots} (hl : Es.length = ops.size) : ∀ i t, i ≤ ops.size →
    look (Lat ops Es L i) t = lookP ops Es L (fun _ => true) i t
  | 0, _, _ => rfl
  | i + 1, t, hi => by
    have hlt : i < ops.size := by omega
    have hlt' : i < Es.length := by omega
    simp only [Lat, lookP, Array.getElem?_eq_getElem hlt, List.getElem?_eq_getElem hlt', Option.bind_some, true_and]
    rw [← look_Lat hl i t (by omega)]
    cases hd : ops[i].dst with
    | none => simp [pushD]
    | some d =>
      by_cases he : d = t
      · subst he; simp [pushD, look]
      · simp [pushD, look, he, beq_ne he]

theorem lookB_none {B : Owns} {t : Nat} (h : hasKey B t = false) : lookB B t = none := by
  induction B with
  | nil => rfl
  | cons x B ih =>
    simp only [hasKey, Bool.or_eq_false_iff] at h
    simp only [lookB, h.1, cond_false]
    exact ih h.2

theorem lookB_drop {B : Owns} {d : Option Nat} {t : Nat} : lookB (dropB d B) t = if d = some t then none else lookB B t := by
  cases d with
  | none => simp [dropB]
  | some d =>
    simp only [dropB]
    by_cases he : d = t
    · subst he
      cases hk : hasKey B d with
      | true => simp [lookB]
      | false => rw [cond_false, lookB_none hk]; simp
    · cases hk : hasKey B d with
      | true => simp [lookB, beq_ne he, he]
      | false => simp [he]

theorem lookB_append' {B B' : Owns} {t : Nat} : lookB (B ++ B') t = if t ∈ B.map (·.1) then lookB B t else lookB B' t := by
  induction B with
  | nil => rfl
  | cons x B ih =>
    obtain ⟨k, c⟩ := x
    simp only [List.cons_append, lookB, List.map_cons, List.mem_cons]
    by_cases he : k = t
    · subst he; simp
    · rw [beq_ne he, cond_false, ih]
      simp only [show ¬ t = k from fun e => he e.symm, false_or, cond_false]
theorem lookB_notin {B : Owns} {t : Nat} (h : t ∉ B.map (·.1)) : lookB B t = none := by
  induction B with
  | nil => rfl
  | cons x B ih =>
    obtain ⟨k, c⟩ := x
    simp only [List.map_cons, List.mem_cons, not_or] at h
    simp only [lookB, beq_ne (Ne.symm h.1), cond_false]
    exact ih h.2

theorem lookB_push {B : Owns} {d : Option Nat} {W : Writes} {t : Nat} :
    lookB (pushB d W B) t = if t ∈ W.map (·.1) then lookB W t else if d = some t then none else lookB B t := by
  cases W with
  | nil => exact lookB_drop
  | cons x W => rw [pushB, lookB_append', lookB_drop]

theorem lookB_BAt {ops : Array Oper} {Ws : List Writes} {B : Owns} (hl : Ws.length = ops.size) : ∀ i t, i ≤ ops.size →
    lookB (BAt ops Ws B i) t = lookBP ops Ws B (fun _ => true) i t
  | 0, _, _ => rfl
  | i + 1, t, hi => by
    have hlt : i < ops.size := by omega
    have hlt' : i < Ws.length := by omega
    have ih := lookB_BAt (B := B) hl i t (by omega)
    have ho : ops[i]? = some ops[i] := Array.getElem?_eq_getElem hlt
    have hw : Ws[i]? = some Ws[i] := List.getElem?_eq_getElem hlt'
    simp only [BAt, ho, hw, lookBP]
    rw [← ih, lookB_push]
    generalize BAt ops Ws B i = B'
    have key : touchB ops Ws i t ↔ (ops[i].dst = some t ∨ t ∈ Ws[i].map (·.1)) := by simp only [touchB, ho, hw, Option.bind_some, Option.some.injEq, exists_eq_left']
    by_cases hm : t ∈ Ws[i].map (·.1)
    · rw [if_pos hm, if_pos ⟨rfl, key.2 (.inr hm)⟩]; simp [newB, hw]
    · rw [if_neg hm]
      by_cases hd : ops[i].dst = some t
      · rw [if_pos hd, if_pos ⟨rfl, key.2 (.inl hd)⟩]; simp [newB, hw, lookB_notin hm]
      · rw [if_neg hd, if_neg (fun h => (key.1 h.2).elim hd hm)]

theorem chain_ents {P : Program} {ops : Array Oper} {n : Nat} {K : Slots → Owns → Prop} : ∀ (rest : List Oper) (aux : List Aux) (L : Slots) (B : Owns), Chain P ops n rest aux L B K →
    ∃ (Es : List Ent) (Ws : List Writes), Es.length = rest.length ∧ Ws.length = rest.length ∧ K (Lat rest.toArray Es L rest.length) (BAt rest.toArray Ws B rest.length) ∧
      ∀ i o, rest[i]? = some o → ∃ E W, Es[i]? = some E ∧ Ws[i]? = some W ∧ W.map (·.1) = ((aux[i]?).getD aux0).2 ∧
        StepOK P ops n o (Lat rest.toArray Es L i) (BAt rest.toArray Ws B i) ((aux[i]?).getD aux0) E W := by
  intro rest
  induction rest with
  | nil => intro aux L B h; exact ⟨[], [], rfl, rfl, h, fun i o h => by simp at h⟩
  | cons o rest ih =>
    intro aux L B h
    obtain ⟨E, W, hw, hs, hc⟩ := h
    obtain ⟨Es, Ws, hl, hl', hk, hall⟩ := ih _ _ _ hc
    have shift : ∀ i, i ≤ rest.length → Lat (o :: rest).toArray (E :: Es) L (i + 1) = Lat rest.toArray Es (pushD o.dst E L) i := by
      intro i
      induction i with
      | zero => intro _; simp [Lat]
      | succ i ih2 =>
        intro hi
        rw [Lat, ih2 (by omega), Lat]
        simp
    have shiftB : ∀ i, i ≤ rest.length → BAt (o :: rest).toArray (W :: Ws) B (i + 1) = BAt rest.toArray Ws (pushB o.dst W B) i := by
      intro i
      induction i with
      | zero => intro _; simp [BAt]
      | succ i ih2 =>
        intro hi
        rw [BAt, ih2 (by omega), BAt]
        simp
    refine ⟨E :: Es, W :: Ws, by simp [hl], by simp [hl'], ?_, ?_⟩
    · rw [List.length_cons, shift _ (Nat.le_refl _), shiftB _ (Nat.le_refl _)]; exact hk
    · intro i o' ho
      cases i with
      | zero =>
        simp at ho; subst ho
        exact ⟨E, W, rfl, rfl, by rw [hw, headD_at], by rw [← headD_at]; exact hs⟩
      | succ i =>
        have ho' : rest[i]? = some o' := by simpa using ho
        obtain ⟨E', W', h1, h1', h2, h3⟩ := hall i o' ho'
        have hi : i ≤ rest.length := by have := (List.getElem?_eq_some_iff.1 ho').1; omega
        refine ⟨E', W', by simpa using h1, by simpa using h1', by rw [← tail_at]; exact h2, ?_⟩
        rw [shift i hi, shiftB i hi, ← tail_at]
        exact h3

end Go.DB
