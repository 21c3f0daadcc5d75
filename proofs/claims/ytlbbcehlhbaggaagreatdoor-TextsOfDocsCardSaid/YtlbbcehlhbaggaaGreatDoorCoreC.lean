/-
  Plain rules on the program's operations, code and memory (texts laid together).
-/
import Derived.Test.YtlbbcehlhbaggaaGreatDoorCoreB
/-
  Integers of every kind; bits; what is nil; boxes of one's own made of values.
-/
set_option linter.unusedSimpArgs false
set_option linter.unusedVariables false
namespace Go.DB
open Go Go.RowKit

/-- An integer of kind k. -/
structure KI (k : IntKind) where
  n : Int
  deriving DecidableEq, Inhabited

instance {k : IntKind} : Rep (KI k) where
  sz := 1
  agg := false
  cells := fun _ x cs _ => cs = [.int k x.n]
  len := fun h => by rw [h]; rfl
  pos := by decide
  flat := fun h => by rw [h]; rfl
  plain := fun h c hc => by rw [h] at hc; simp at hc; rw [hc]; rfl
  law := fun _ _ h => h
instance {k : IntKind} : Flat (KI k) := ⟨fun h => h⟩
instance {k : IntKind} : Fits (KI k) := ⟨fun _ => True⟩
instance {k : IntKind} : FitsRep (KI k) := ⟨fun _ => trivial⟩

theorem rep_ki {k : IntKind} {x : KI k} {M : MSet} {v : Value} {w : World} : (rep x).p M v w ↔ v = .int k x.n := by
  constructor
  · rintro ⟨cs, h, hv⟩; subst h; exact hv
  · intro h; exact ⟨[.int k x.n], rfl, h⟩
theorem Opd.ki {L : Slots} {G : Prop} {k : IntKind} {n : Int} : Opd L G (.const (.int k n)) (rep (⟨n⟩ : KI k)) := fun _ _ => rep_ki.2 rfl

def iand (a b : Int) : Int := W ((BitVec.ofInt 64 a &&& BitVec.ofInt 64 b).toNat : Int)
def ior (a b : Int) : Int := W ((BitVec.ofInt 64 a ||| BitVec.ofInt 64 b).toNat : Int)
def ixor (a b : Int) : Int := W ((BitVec.ofInt 64 a ^^^ BitVec.ofInt 64 b).toNat : Int)
def iandn (a b : Int) : Int := W ((BitVec.ofInt 64 a &&& ~~~ BitVec.ofInt 64 b).toNat : Int)
def ishl (a b : Int) : Int := W (a * 2 ^ min b.toNat 64)
def ishr (a b : Int) : Int := a.fdiv (2 ^ min b.toNat 64)
def KI.and {k : IntKind} (a b : KI k) : KI k := ⟨k.wrap ((BitVec.ofInt k.bits a.n &&& BitVec.ofInt k.bits b.n).toNat : Int)⟩
def KI.or {k : IntKind} (a b : KI k) : KI k := ⟨k.wrap ((BitVec.ofInt k.bits a.n ||| BitVec.ofInt k.bits b.n).toNat : Int)⟩
def KI.xor {k : IntKind} (a b : KI k) : KI k := ⟨k.wrap ((BitVec.ofInt k.bits a.n ^^^ BitVec.ofInt k.bits b.n).toNat : Int)⟩
def KI.andn {k : IntKind} (a b : KI k) : KI k := ⟨k.wrap ((BitVec.ofInt k.bits a.n &&& ~~~ BitVec.ofInt k.bits b.n).toNat : Int)⟩
def KI.add {k : IntKind} (a b : KI k) : KI k := ⟨k.wrap (a.n + b.n)⟩
def KI.sub {k : IntKind} (a b : KI k) : KI k := ⟨k.wrap (a.n - b.n)⟩
def KI.mul {k : IntKind} (a b : KI k) : KI k := ⟨k.wrap (a.n * b.n)⟩
def KI.quo {k : IntKind} (a b : KI k) : KI k := ⟨k.wrap (a.n.tdiv b.n)⟩
def KI.rem {k : IntKind} (a b : KI k) : KI k := ⟨a.n.tmod b.n⟩
def KI.shl {k : IntKind} (a : KI k) (b : Int) : KI k := ⟨k.wrap (a.n * 2 ^ min b.toNat k.bits)⟩
def KI.shr {k : IntKind} (a : KI k) (b : Int) : KI k := ⟨a.n.fdiv (2 ^ min b.toNat k.bits)⟩
def KI.neg {k : IntKind} (a : KI k) : KI k := ⟨k.wrap (0 - a.n)⟩
/-- To another kind. -/
def KI.of (k : IntKind) (n : Int) : KI k := ⟨k.wrap n⟩

section
variable {P : Program} {ops : Array Oper} {fs : Nat} {L : Slots} {B : Owns} {G : Prop}
variable {d : Option Tmp} {ty : TypeId} {pos : String} {after : Array Edge} {g : Option (Nat × Bool)} {xr : List Nat}

theorem ex_bin2 {ρ : Operand → Value} {op : BinOp} {x y : Operand} {T T' : TypeId} {j k : IntKind} {m n : Int} {v : Value} {w : World} (hx : ρ x = .int j m) (hy : ρ y = .int k n)
    (hv : (binOp op T (.int j m) (.int k n)).run P w = .ok v w) :
    (execOp ρ ⟨d, .binOp op T x y T', ty, pos, after, g⟩).run P w = .ok (.value v) w := by
  have hgd : eqGuard op T x y (.int j m) (.int k n) = Pure.pure () := by
    unfold eqGuard; cases op <;> rfl
  simp only [execOp, hx, hy, hgd]
  generalize binOp op T (.int j m) (.int k n) = s at *
  simp [go_sem, hv]

theorem StepOK.kbin {op : BinOp} {x y : Operand} {T T' : TypeId} {k : IntKind} {m n : KI k} {S : SPred} (hg : Guard ops g L G) (hx : Opd L G x (rep m)) (hy : Opd L G y (rep n))
    (h : G → ∃ v, (∀ w, (binOp op T (.int k m.n) (.int k n.n)).run P w = .ok v w) ∧ ∀ M w, S.p M v w) :
    StepOK P ops fs ⟨d, .binOp op T x y T', ty, pos, after, g⟩ L B (xr, []) ⟨G, S⟩ [] :=
  .pure hg fun M a w _ hs hG => by
    have h1 := rep_ki.1 (hx.get hs (fun t ht => looksAt_op (by simp [Op.operands, ht])) hG)
    have h2 := rep_ki.1 (hy.get hs (fun t ht => looksAt_op (by simp [Op.operands, ht])) hG)
    obtain ⟨v, hv, hS⟩ := h hG
    exact ⟨v, ex_bin2 h1 h2 (hv w), hS M w⟩

theorem run_kk {op : BinOp} {T : TypeId} {k : IntKind} {a b : Int} (h1 : op ≠ .shl) (h2 : op ≠ .shr) {s : Sem Value}
    (h : (match op with
    | .add | .sub | .mul => Op.intArith op k a b
    | .quo | .rem => Op.intDiv op k a b
    | .and | .or | .xor | .andNot => Op.intBits op k a b
    | _ => Op.intCmp op a b) = s) : binOp op T (.int k a) (.int k b) = s := by
  cases op <;> first | exact absurd rfl h1 | exact absurd rfl h2 | (simp only [binOp, ne_eq, not_true_eq_false, if_false]; exact h)

variable {x y : Operand} {T T' : TypeId} {k : IntKind} {m n : KI k}
theorem StepOK.keql (hg : Guard ops g L G) (hx : Opd L G x (rep m)) (hy : Opd L G y (rep n)) : StepOK P ops fs ⟨d, .binOp .eql T x y T', ty, pos, after, g⟩ L B (xr, []) ⟨G, rep (decide (m.n = n.n))⟩ [] :=
  .kbin hg hx hy fun _ => ⟨_, fun _ => by rw [run_kk (by decide) (by decide) rfl]; rfl, fun _ _ => rep_bool.2 rfl⟩
theorem StepOK.kneq (hg : Guard ops g L G) (hx : Opd L G x (rep m)) (hy : Opd L G y (rep n)) : StepOK P ops fs ⟨d, .binOp .neq T x y T', ty, pos, after, g⟩ L B (xr, []) ⟨G, rep (!decide (m.n = n.n))⟩ [] :=
  .kbin hg hx hy fun _ => ⟨_, fun _ => by rw [run_kk (by decide) (by decide) rfl]; rfl, fun _ _ => rep_bool.2 rfl⟩
theorem StepOK.klss (hg : Guard ops g L G) (hx : Opd L G x (rep m)) (hy : Opd L G y (rep n)) : StepOK P ops fs ⟨d, .binOp .lss T x y T', ty, pos, after, g⟩ L B (xr, []) ⟨G, rep (decide (m.n < n.n))⟩ [] :=
  .kbin hg hx hy fun _ => ⟨_, fun _ => by rw [run_kk (by decide) (by decide) rfl]; rfl, fun _ _ => rep_bool.2 rfl⟩
theorem StepOK.kleq (hg : Guard ops g L G) (hx : Opd L G x (rep m)) (hy : Opd L G y (rep n)) : StepOK P ops fs ⟨d, .binOp .leq T x y T', ty, pos, after, g⟩ L B (xr, []) ⟨G, rep (decide (m.n ≤ n.n))⟩ [] :=
  .kbin hg hx hy fun _ => ⟨_, fun _ => by rw [run_kk (by decide) (by decide) rfl]; rfl, fun _ _ => rep_bool.2 rfl⟩
theorem StepOK.kgtr (hg : Guard ops g L G) (hx : Opd L G x (rep m)) (hy : Opd L G y (rep n)) : StepOK P ops fs ⟨d, .binOp .gtr T x y T', ty, pos, after, g⟩ L B (xr, []) ⟨G, rep (decide (n.n < m.n))⟩ [] :=
  .kbin hg hx hy fun _ => ⟨_, fun _ => by rw [run_kk (by decide) (by decide) rfl]; rfl, fun _ _ => rep_bool.2 rfl⟩
theorem StepOK.kgeq (hg : Guard ops g L G) (hx : Opd L G x (rep m)) (hy : Opd L G y (rep n)) : StepOK P ops fs ⟨d, .binOp .geq T x y T', ty, pos, after, g⟩ L B (xr, []) ⟨G, rep (decide (n.n ≤ m.n))⟩ [] :=
  .kbin hg hx hy fun _ => ⟨_, fun _ => by rw [run_kk (by decide) (by decide) rfl]; rfl, fun _ _ => rep_bool.2 rfl⟩

/-! Bits of ints. -/

/-- How far one shifts: an integer of any kind. -/
class IsInt (α : Type) [Rep α] where
  kind : IntKind
  val : α → Int
  spec : ∀ {x : α} {M : MSet} {v : Value} {w : World}, (rep x).p M v w → v = .int kind (val x)
instance : IsInt Int := ⟨.i64, fun n => n, fun h => (rep_int.1 h).1⟩
instance {k : IntKind} : IsInt (KI k) := ⟨k, fun x => x.n, fun h => rep_ki.1 h⟩

/-! From kind to kind. -/

/-! Is it nil? -/

/-- A bool that may be true only of an empty list. -/
def nilB {α : Type} (l : List α) : SPred := ⟨fun _ v _ => ∃ b, v = .bool b ∧ (b = true → l = []), fun _ _ _ _ _ _ _ h => h⟩
open Classical in
/-- What both ways come to, where it can't be told whether a list is nil. -/
noncomputable def nilc {α β : Type} (l : List α) (x y : Option β) : Option β := if l = [] then (if x = y then y else none) else y
/-! A box of one's own, made of a value. -/

theorem StepOK.boxO {d T : Nat} {α : Type} [Rep α] {z : α} (hd : Nat.blt d fs = true) (hx : Opd L True x (rep z)) :
    StepOK P ops fs ⟨some d, .box T x, ty, pos, after, none⟩ L B ([], [d]) ⟨True, anyV⟩ [(d, some (cont T z))] := by
  refine .doing fun M D a w hsz hm hs _ => ?_
  obtain ⟨cs, hc, hv⟩ := hx.get hs (fun t ht => looksAt_op (by simp [Op.operands, ht])) trivial
  have hcs : (a.eval x).cells = cs.toArray := by rw [hv]; exact Rep.flat hc
  refine Does.value (ex_box hcs) (.one (fun k => M k ∨ k = w.heap.size) (fun k => k = w.heap.size) (Ext.alloc _ _) (fun k h => .inl h) (fun k h => h.imp id (by omega)) (fun k h => ?_) ⟨fun _ => trivial, fun hf => (hf trivial).elim⟩ ?_ (fun k h => by omega))
  · rw [size_new]
    rcases h with h | h
    · have := hm k h; omega
    · omega
  · rw [val_self (by rw [hsz]; exact Nat.le_of_ble_eq_true hd)]
    refine ⟨w.heap.size, cs, rfl, fun k => Iff.rfl, .inr rfl, ?_, Rep.law (Ext.alloc w _).keeps (fun k h => h.imp id (by omega)) hc⟩
    show (w.heap.push _)[w.heap.size]? = _
    rw [Array.getElem?_push_size]

end
end Go.DB

/-
  Boxes that hold rows of one's own; closures that write.
-/
set_option linter.unusedSimpArgs false
set_option linter.unusedVariables false
namespace Go.DB
open Go Go.RowKit

/-- Memory of which something is not told. -/
def CPred.ex {ι : Type} (C : ι → CPred) : CPred where
  p := fun M D v w => ∃ i, (C i).p M D v w
  inM := fun M D v w ⟨i, h⟩ => (C i).inM M D v w h
  law := fun M M' D v w w' hk hm hD ⟨i, h⟩ => ⟨i, (C i).law M M' D v w w' hk hm hD h⟩

/-- Memory, and other memory behind the value s. -/
def CPred.star (C : CPred) (s : Value) (C' : CPred) : CPred where
  p := fun M D v w => ∃ D1 D2, C.p M D1 v w ∧ C'.p M D2 s w ∧ (∀ k, D k ↔ D1 k ∨ D2 k) ∧ ∀ k, D1 k → ¬ D2 k
  inM := fun M D v w ⟨D1, D2, h1, h2, h3, _⟩ k hk => ((h3 k).1 hk).elim (C.inM M D1 v w h1 k) (C'.inM M D2 s w h2 k)
  law := fun M M' D v w w' hk hm hD ⟨D1, D2, h1, h2, h3, h4⟩ => ⟨D1, D2, C.law M M' D1 v w w' hk hm (fun k h => hD k ((h3 k).2 (.inl h))) h1, C'.law M M' D2 s w w' hk hm (fun k h => hD k ((h3 k).2 (.inr h))) h2, h3, h4⟩

/-- Memory under C s, and a row of its own behind s. -/
abbrev deep (C : Value → CPred) (R : CPred) : CPred := CPred.ex fun s => CPred.star (C s) s R

section
variable {n : Nat} {F : Fr} {L : Slots} {B : Owns}

theorem Sat.open {k g : Nat} {v : Value} {C : Value → CPred} {R : CPred} (hl : lookB B k = some (CPred.at v (deep C R))) (hg : lookB B g = none) {a : Act} {w : World} (h : Sat n F L B a w) :
    ∃ s, Sat n F L ((g, some (CPred.at s R)) :: (k, some (CPred.at v (C s))) :: B) a w := by
  obtain ⟨M, D, h⟩ := h
  have hC : (deep C R).p M (D k) v w := h.hasB k _ hl
  obtain ⟨s, D1, D2, h1, h2, h3, h4⟩ := hC
  have hgk : g ≠ k := fun e => by subst e; rw [hg] at hl; cases hl
  refine ⟨s, M, fun t => if t = g then D2 else if t = k then D1 else D t, ?_⟩
  have cs : ∀ t c, lookB ((g, some (CPred.at s R)) :: (k, some (CPred.at v (C s))) :: B) t = some c → (t = g ∧ c = CPred.at s R) ∨ (t = k ∧ c = CPred.at v (C s)) ∨ (t ≠ g ∧ t ≠ k ∧ lookB B t = some c) := by
    intro t c hc
    simp only [lookB] at hc
    by_cases e1 : g = t
    · subst e1; simp at hc; exact .inl ⟨rfl, hc.symm⟩
    · rw [beq_ne e1, cond_false] at hc
      by_cases e2 : k = t
      · subst e2; simp at hc; exact .inr (.inl ⟨rfl, hc.symm⟩)
      · rw [beq_ne e2, cond_false] at hc; exact .inr (.inr ⟨Ne.symm e1, Ne.symm e2, hc⟩)
  have sub : ∀ t, t ≠ g → ∀ j, (if t = g then D2 else if t = k then D1 else D t) j → D t j := by
    intro t ht j hj
    rw [if_neg ht] at hj
    by_cases e : t = k
    · subst e; rw [if_pos rfl] at hj; exact (h3 j).2 (.inl hj)
    · rw [if_neg e] at hj; exact hj
  refine ⟨h.size, h.defers, h.keeps, h.mf0, h.mlow, h.mhigh, h.msub, h.has, fun t c hc => ?_, fun t c hc j hj => ?_, fun t1 t2 c1 c2 q1 q2 hne j j1 j2 => ?_⟩
  · rcases cs t c hc with ⟨rfl, rfl⟩ | ⟨rfl, rfl⟩ | ⟨e1, e2, h5⟩
    · rw [if_pos rfl]; exact h2
    · rw [if_neg (Ne.symm hgk), if_pos rfl]; exact h1
    · rw [if_neg e1, if_neg e2]; exact h.hasB t c h5
  · rcases cs t c hc with ⟨rfl, rfl⟩ | ⟨rfl, rfl⟩ | ⟨e1, e2, h5⟩
    · rw [if_pos rfl] at hj; exact h.own k _ hl j ((h3 j).2 (.inr hj))
    · exact h.own _ _ hl j (sub _ (Ne.symm hgk) j hj)
    · exact h.own t c h5 j (sub _ e1 j hj)
  · rcases cs t1 c1 q1 with ⟨rfl, rfl⟩ | ⟨rfl, rfl⟩ | ⟨e1, e2, h5⟩ <;> rcases cs t2 c2 q2 with ⟨rfl, rfl⟩ | ⟨rfl, rfl⟩ | ⟨f1, f2, h6⟩
    · exact hne rfl
    · rw [if_pos rfl] at j1; rw [if_neg (Ne.symm hgk), if_pos rfl] at j2; exact h4 j j2 j1
    · rw [if_pos rfl] at j1; exact h.apart k t2 _ _ hl h6 (Ne.symm f2) j ((h3 j).2 (.inr j1)) (sub _ f1 j j2)
    · rw [if_pos rfl] at j2; rw [if_neg (Ne.symm hgk), if_pos rfl] at j1; exact h4 j j1 j2
    · exact hne rfl
    · exact h.apart _ t2 _ _ hl h6 hne j (sub _ (Ne.symm hgk) j j1) (sub _ f1 j j2)
    · rw [if_pos rfl] at j2; exact h.apart t1 k _ _ h5 hl e2 j (sub _ e1 j j1) ((h3 j).2 (.inr j2))
    · exact h.apart t1 _ _ _ h5 hl hne j (sub _ e1 j j1) (sub _ (Ne.symm hgk) j j2)
    · exact h.apart t1 t2 _ _ h5 h6 hne j (sub _ e1 j j1) (sub _ f1 j j2)

theorem Sat.close {k g : Nat} {v s : Value} (C : Value → CPred) {R : CPred} (hl : lookB B k = some (CPred.at v (C s))) (hg : lookB B g = some (CPred.at s R)) (hgk : (g == k) = false) {a : Act} {w : World} (h : Sat n F L B a w) :
    Sat n F L ((g, none) :: (k, some (CPred.at v (deep C R))) :: B) a w := by
  obtain ⟨M, D, h⟩ := h
  have hgk : g ≠ k := by simpa using hgk
  have h1 : (C s).p M (D k) v w := h.hasB k _ hl
  have h2 : R.p M (D g) s w := h.hasB g _ hg
  have h4 := h.apart k g _ _ hl hg (Ne.symm hgk)
  refine ⟨M, fun t => if t = k then fun j => D k j ∨ D g j else D t, ?_⟩
  have cs : ∀ t c, lookB ((g, none) :: (k, some (CPred.at v (deep C R))) :: B) t = some c → (t = k ∧ c = CPred.at v (deep C R)) ∨ (t ≠ g ∧ t ≠ k ∧ lookB B t = some c) := by
    intro t c hc
    simp only [lookB] at hc
    by_cases e1 : g = t
    · subst e1; simp at hc
    · rw [beq_ne e1, cond_false] at hc
      by_cases e2 : k = t
      · subst e2; simp at hc; exact .inl ⟨rfl, hc.symm⟩
      · rw [beq_ne e2, cond_false] at hc; exact .inr ⟨Ne.symm e1, Ne.symm e2, hc⟩
  refine ⟨h.size, h.defers, h.keeps, h.mf0, h.mlow, h.mhigh, h.msub, h.has, fun t c hc => ?_, fun t c hc j hj => ?_, fun t1 t2 c1 c2 q1 q2 hne j j1 j2 => ?_⟩
  · rcases cs t c hc with ⟨rfl, rfl⟩ | ⟨e1, e2, h5⟩
    · rw [if_pos rfl]; exact ⟨s, D t, D g, h1, h2, fun _ => Iff.rfl, h4⟩
    · rw [if_neg e2]; exact h.hasB t c h5
  · rcases cs t c hc with ⟨rfl, rfl⟩ | ⟨e1, e2, h5⟩
    · rw [if_pos rfl] at hj; exact hj.elim (h.own t _ hl j) (h.own g _ hg j)
    · rw [if_neg e2] at hj; exact h.own t c h5 j hj
  · rcases cs t1 c1 q1 with ⟨rfl, rfl⟩ | ⟨e1, e2, h5⟩ <;> rcases cs t2 c2 q2 with ⟨rfl, rfl⟩ | ⟨f1, f2, h6⟩
    · exact hne rfl
    · rw [if_pos rfl] at j1; rw [if_neg f2] at j2
      exact j1.elim (fun x => h.apart _ t2 _ _ hl h6 hne j x j2) (fun x => h.apart g t2 _ _ hg h6 (Ne.symm f1) j x j2)
    · rw [if_pos rfl] at j2; rw [if_neg e2] at j1
      exact j2.elim (fun x => h.apart t1 _ _ _ h5 hl hne j j1 x) (fun x => h.apart t1 g _ _ h5 hg e1 j j1 x)
    · rw [if_neg e2] at j1; rw [if_neg f2] at j2; exact h.apart t1 t2 _ _ h5 h6 hne j j1 j2

variable {P : Program} {Q : Exit → Act → World → Prop}

theorem Cod.open {c : Code} {k g : Nat} {v : Value} {C : Value → CPred} {R : CPred} (hl : lookB B k = some (CPred.at v (deep C R))) (hg : lookB B g = none) (h : ∀ s, Cod P c Q n F L ((g, some (CPred.at s R)) :: (k, some (CPred.at v (C s))) :: B)) : Cod P c Q n F L B :=
  fun a w hs => let ⟨s, h1⟩ := hs.open hl hg; h s a w h1
theorem Cod.close {c : Code} {k g : Nat} {v s : Value} (C : Value → CPred) {R : CPred} (hl : lookB B k = some (CPred.at v (C s))) (hg : lookB B g = some (CPred.at s R)) (hgk : (g == k) = false) (h : Cod P c Q n F L ((g, none) :: (k, some (CPred.at v (deep C R))) :: B)) : Cod P c Q n F L B :=
  fun a w hs => h a w (hs.close C hl hg hgk)
theorem Ends.open {e : Exit} {k g : Nat} {v : Value} {C : Value → CPred} {R : CPred} (hl : lookB B k = some (CPred.at v (deep C R))) (hg : lookB B g = none) (h : ∀ s, Ends Q e n F L ((g, some (CPred.at s R)) :: (k, some (CPred.at v (C s))) :: B)) : Ends Q e n F L B :=
  fun a w hs => let ⟨s, h1⟩ := hs.open hl hg; h s a w h1
theorem Ends.close {e : Exit} {k g : Nat} {v s : Value} (C : Value → CPred) {R : CPred} (hl : lookB B k = some (CPred.at v (C s))) (hg : lookB B g = some (CPred.at s R)) (hgk : (g == k) = false) (h : Ends Q e n F L ((g, none) :: (k, some (CPred.at v (deep C R))) :: B)) : Ends Q e n F L B :=
  fun a w hs => h a w (hs.close C hl hg hgk)

/-- A row that is nil may stand behind any box. -/
theorem Sat.nilKey {g T : Nat} {α : Type} [Rep α] (hg : lookB B g = none) {a : Act} {w : World} (h : Sat n F L B a w) : Sat n F L ((g, some (CPred.at (.slice none 0 0) (rowV T ([] : List α)))) :: B) a w := by
  obtain ⟨M, D, h⟩ := h
  have cs : ∀ t c, lookB ((g, some (CPred.at (.slice none 0 0) (rowV T ([] : List α)))) :: B) t = some c → (t = g ∧ c = CPred.at (.slice none 0 0) (rowV T ([] : List α))) ∨ (t ≠ g ∧ lookB B t = some c) := by
    intro t c hc
    simp only [lookB] at hc
    by_cases h1 : g = t
    · subst h1; simp at hc; exact .inl ⟨rfl, hc.symm⟩
    · rw [beq_ne h1, cond_false] at hc; exact .inr ⟨Ne.symm h1, hc⟩
  refine ⟨M, fun t => if t = g then NoM else D t, h.size, h.defers, h.keeps, h.mf0, h.mlow, h.mhigh, h.msub, h.has, fun t c hc => ?_, fun t c hc j hj => ?_, fun t1 t2 c1 c2 h1 h2 hne j j1 j2 => ?_⟩
  · rcases cs t c hc with ⟨rfl, rfl⟩ | ⟨e, h2⟩
    · rw [if_pos rfl]; exact ⟨none, 0, rfl, Nat.le_refl _, by omega, rfl, rfl, fun k h => h⟩
    · rw [if_neg e]; exact h.hasB t c h2
  · rcases cs t c hc with ⟨rfl, rfl⟩ | ⟨e, h2⟩
    · rw [if_pos rfl] at hj; exact hj.elim
    · rw [if_neg e] at hj; exact h.own t c h2 j hj
  · rcases cs t1 c1 h1 with ⟨rfl, rfl⟩ | ⟨e1, a2⟩
    · rw [if_pos rfl] at j1; exact j1
    · rcases cs t2 c2 h2 with ⟨rfl, rfl⟩ | ⟨e2, b2⟩
      · rw [if_pos rfl] at j2; exact j2
      · rw [if_neg e1] at j1; rw [if_neg e2] at j2; exact h.apart t1 t2 _ _ a2 b2 hne j j1 j2
theorem Cod.nilKey {c : Code} {g T : Nat} {α : Type} [Rep α] (hg : lookB B g = none) (h : Cod P c Q n F L ((g, some (CPred.at (.slice none 0 0) (rowV T ([] : List α)))) :: B)) : Cod P c Q n F L B := fun a w hs => h a w (hs.nilKey hg)
theorem Ends.nilKey {e : Exit} {g T : Nat} {α : Type} [Rep α] (hg : lookB B g = none) (h : Ends Q e n F L ((g, some (CPred.at (.slice none 0 0) (rowV T ([] : List α)))) :: B)) : Ends Q e n F L B := fun a w hs => h a w (hs.nilKey hg)
end

/-- A box in which a value of a kind stands. -/
def contS (T : TypeId) (S : SPred) : CPred where
  p := fun M D v w => ∃ m u, v = .pointer (some ⟨m, 0, none⟩) ∧ (∀ k, D k ↔ k = m) ∧ M m ∧ w.heap[m]? = some (.cells #[u] T (0, 0)) ∧ S.p M u w
  inM := fun M D v w ⟨m, u, hv, hD, hM, _⟩ k hk => (hD k).1 hk ▸ hM
  law := fun M M' D v w w' hk hm hown ⟨m, u, hv, hD, hM, hh, hS⟩ => by
    obtain ⟨h1, h2⟩ := hown m ((hD m).2 rfl)
    exact ⟨m, u, hv, hD, h1, by rw [h2]; exact hh, S.law M M' u w w' hk hm hS⟩

/-- A closure of f: what it has captured stands for the Cs. -/
def cloV (f : Nat) (Cs : List SPred) : SPred where
  p := fun M v w => ∃ caps : List Value, v = .func (.func f) #[] caps.toArray ∧ All2 M w Cs caps
  law := fun M M' v w w' hk hm ⟨caps, h, ha⟩ => ⟨caps, h, All2.law hk hm Cs caps ha⟩

/-- A function whose result nobody else writes. -/
theorem FSpecO.frz {P : Program} {f T : Nat} {Ss : List SPred} {α : Type} [Rep α] {l : List α} (h : FSpecO P f Ss [] anyV [some (rowV T l)]) : FSpec P f Ss (rep l) :=
  ⟨h.ok, fun M w vs hM ha => Calls.mono (h.calls M (fun _ => NoM) w vs hM ha ⟨fun i s c h => by simp at h, fun i j x y h => by simp at h⟩) fun e w' ⟨v, M', D', he, hk, hml, hmh, hms, hS, hO, _⟩ => by
    have no : ∀ k, ¬ DU (fun _ => NoM) ([] : Given).length k := fun k ⟨i, hi, _⟩ => by simp at hi
    obtain ⟨h1, h2⟩ := hO 0 _ rfl
    have h3 := rowV_rep M' (D' 0) w' _ h1 hms
    refine ⟨⟨hk.os, hk.tape, hk.output, hk.size, fun k hlt _ => hk.block k hlt (no k)⟩, v, he, (rep l).law _ M v w' w' (Keeps.refl _ _) (fun k hk2 => .inl ⟨(hml k hk2).resolve_right (no k), fun hd => ?_⟩) h3⟩
    rcases h2 k hd with h4 | h4
    · exact no k h4
    · have := hM k hk2; simp only at h4; omega⟩

end Go.DB

/-
  Operations on boxes that hold rows of one's own; closures that write.
-/
set_option linter.unusedSimpArgs false
set_option linter.unusedVariables false
namespace Go.DB
open Go Go.RowKit

section
variable {P : Program} {ops : Array Oper} {fs : Nat} {L : Slots} {B : Owns} {G : Prop}
variable {d : Option Tmp} {ty : TypeId} {pos : String} {after : Array Edge} {g : Option (Nat × Bool)} {xr : List Nat}

/-- Two keys' memory becomes one's. -/
theorem Leaves.merge {o : Oper} {D : Nat → MSet} {E : Ent} {M : MSet} {a : Act} {w : World} {v : Value} {w' : World} {k t : Nat} {C Ck Ct : CPred} (hlk : lookB B k = some Ck) (hlt : lookB B t = some Ct)
    (hk : Keeps (D k) w w') (h3 : ∀ j, M j → j < w'.heap.size) (h4 : E.holds M v w') (h5 : C.p M (fun j => D k j ∨ D t j) (Act.val (a.put o.dst v) k) w') :
    Leaves o B D [k, t] E [(k, some C), (t, none)] M a w v w' := by
  have m1 : ∀ j, D k j → Mine [k, t] B D j := fun j hj => ⟨k, by simp, Ck, hlk, hj⟩
  have m2 : ∀ j, D t j → Mine [k, t] B D j := fun j hj => ⟨t, by simp, Ct, hlt, hj⟩
  refine ⟨M, fun _ => fun j => D k j ∨ D t j, hk.mono (fun j _ h => m1 j h), fun j h => .inl h, fun j h => .inl h, h3, h4, fun t' c hc => ?_, fun t1 t2 c1 c2 hc1 hc2 hne => ?_⟩
  · obtain ⟨rfl, hc'⟩ := lookB2 (C := some C) hc
    obtain rfl : C = c := Option.some.inj hc'
    exact ⟨h5, fun j hj => .inl (hj.elim (m1 j) (m2 j))⟩
  · exact absurd ((lookB2 hc1).1.trans (lookB2 hc2).1.symm) hne

/-- A row goes into a box. -/
theorem StepOK.storeRow {T T' m off k t E : Nat} {p : Operand} {α γ : Type} [Rep α] [Rep γ] {y0 : γ} {l : List α} {set : γ → Raw → γ} (hT : Ty P T (List α)) (hl : lookB B k = some (boxAt m T' y0)) (hp : Opd L True p (isV (ptr m off)))
    (hF : SetField γ Raw off set) (ht : lookB B t = some (rowV E l)) (hkt : (k == t) = false) :
    StepOK P ops fs ⟨none, .store T p (.tmp t), ty, pos, after, none⟩ L B ([k, t], [k, t]) ⟨True, anyV⟩ [(k, some (CPred.at (ptr m 0) (deep (fun s => cont T' (set y0 ⟨s⟩)) (rowV E l)))), (t, none)] := by
  have hkt : k ≠ t := by simpa using hkt
  refine .doing fun M D a w hsz hm hs hsB => ?_
  obtain ⟨m', old, hvm, hD, hM, hh, hold⟩ := hsB.has k (by simp) _ hl
  obtain rfl : m = m' := by simp [ptr] at hvm; exact hvm
  have hR := hsB.has t (by simp) _ ht
  have hap := hsB.apart k (by simp) t (by simp) _ _ hl ht hkt
  have hxv : a.eval (.tmp t) = Act.val a t := eval_val
  obtain ⟨ad, cap, hsl, _⟩ := id hR
  have hz : Rep.cells M (⟨Act.val a t⟩ : Raw) [Act.val a t] w := ⟨rfl, by rw [hsl]; rfl, by rw [hsl]; rfl⟩
  have hat : a.eval p = ptr m off := (rep_raw.1 (hp.get hs (fun t ht => looksAt_op (by simp [Op.operands, ht])) trivial)).1
  have hlo := Rep.len hold
  have hle := hF.1
  have hs1 : Rep.sz Raw = 1 := rfl
  have hsplit : old = old.take off ++ (old.drop off).take 1 ++ old.drop (off + 1) := by
    rw [← List.drop_drop, List.append_assoc, List.take_append_drop, List.take_append_drop]
  obtain ⟨w', h1, h2, h3, h4, h5, h6, h7⟩ := run_storeAt (w := w) (m := m) (off := off) (cs := [Act.val a t]) (pre := old.take off) (mid := (old.drop off).take 1) (rest := old.drop (off + 1)) hT rfl
    (by rw [List.length_take, List.length_drop]; show _ = 1; omega) (by rw [List.length_take]; omega) (Rep.plain hz) (show (Act.val a t).cells = #[Act.val a t] by rw [hsl]; rfl) (by rw [← hsplit]; exact hh)
  have hkeep : Keeps (D k) w w' := ⟨h3, h4, h5, by omega, fun j _ hn => h7 j (fun e => hn ((hD j).2 e))⟩
  have hkM : Keeps M w w' := ⟨h3, h4, h5, by omega, fun j _ hn => h7 j (fun e => hn (e ▸ hM))⟩
  refine Does.skip (w' := w') (ex_store (by rw [hat, hxv]; exact h1)) rfl (.merge hl ht hkeep (fun j h => by rw [h6]; exact hm j h) ⟨fun _ => trivial, fun hf => (hf trivial).elim⟩ ?_)
  refine ⟨Act.val a t, D k, D t, ⟨m, _, rfl, hD, hM, h2, hF.2 M y0 ⟨Act.val a t⟩ old [Act.val a t] w' (Rep.law hkM (fun _ h => .inl h) hold) (Rep.law hkM (fun _ h => .inl h) hz)⟩, ?_, fun _ => Iff.rfl, fun j h1 h2 => hap j h1 h2⟩
  exact (rowV E l).law M M (D t) _ w w' hkM (fun _ h => .inl h) (fun j hj => ⟨(rowV E l).inM _ _ _ _ hR j hj, h7 j (fun e => hap j ((hD j).2 e) hj)⟩) hR

/-- A value that owns nothing itself. -/
def valV {α : Type} [Rep α] (y : α) : CPred where
  p := fun M D v w => (∀ k, ¬ D k) ∧ (rep y).p M v w
  inM := fun M D v w h k hk => absurd hk (h.1 k)
  law := fun M M' D v w w' hk hm _ h => ⟨h.1, (rep y).law M M' v w w' hk hm h.2⟩

theorem SatOn.extend {ts : List Nat} {M : MSet} {a : Act} {w : World} {t : Nat} (h : SatOn ts M L a w) (ht : t < a.tmps.size) (h1 : isOne (Act.val a t) = true) (h2 : (Act.val a t).cells = #[Act.val a t]) :
    SatOn ts M ((t, ⟨True, isV (Act.val a t)⟩) :: L) a w := by
  intro t' ht' e he
  simp only [look] at he
  by_cases hne : t = t'
  · subst hne
    simp at he; subst he
    exact ⟨Act.val a t, by unfold Act.val; simp [ht], fun _ => rep_raw.2 ⟨rfl, h1, h2⟩, fun hf => (hf trivial).elim⟩
  · rw [beq_ne hne, cond_false] at he; exact h t' ht' e he
theorem row_one {α : Type} [Rep α] {E : Nat} {l : List α} {M D : MSet} {v : Value} {w : World} (h : (rowV E l).p M D v w) : isOne v = true ∧ v.cells = #[v] := by
  obtain ⟨ad, cap, rfl, _⟩ := h; exact ⟨rfl, rfl⟩

theorem ex_buildF {T : Nat} {α : Type} [Rep α] {parts : Array (Nat × Operand)} {x0 y : α} {zero : List Value} {places : List (Nat × Nat)} {Ss : List SPred} {M : MSet} {w : World} {a : Act} (hb : BuildAt P T zero places) (hz : ∀ M w, Rep.cells M x0 zero w) (hagg : Rep.agg α = true)
    (ha : All2 M w Ss ((parts.toList.map (·.2)).map a.eval)) (hf : Fills places x0 (parts.toList.map (·.1)) Ss y) :
    ∃ v, (execOp a.eval ⟨d, .build T parts, ty, pos, after, g⟩).run P w = .ok (.value v) w ∧ (rep y).p M v w := by
  obtain ⟨cs, h1, h2⟩ := hf.run (hz M w) ha
  refine ⟨.agg cs.toArray, ex_build hb ?_, cs, h2, by rw [hagg]; rfl⟩
  rw [← h1, List.map_map, List.zip_map']
  rfl

end

section
variable {P : Program} {Q : Exit → Act → World → Prop} {n : Nat} {F : Fr} {L : Slots} {B : Owns}

/-- What stands behind a pointer. -/
def IsBox (C : CPred) : Prop := ∀ M D v w, C.p M D v w → ∃ m, v = ptr m 0
theorem isBox_cont {T : Nat} {α : Type} [Rep α] {y : α} : IsBox (cont T y) := fun M D v w ⟨m, cs, hv, _⟩ => ⟨m, hv⟩
theorem isBox_deep {C : Value → CPred} {R : CPred} (h : ∀ s, IsBox (C s)) : IsBox (deep C R) := fun M D v w ⟨s, D1, D2, h1, _⟩ => h s M D1 v w h1

theorem Cod.nameAt {c : Code} {t g : Nat} {C : CPred} (hl : lookB B t = some C) (ht : Nat.blt t n = true) (hC : IsBox C) (hg : lookB B g = none)
    (k : ∀ m, Cod P c Q n F ((t, ⟨True, isV (ptr m 0)⟩) :: L) ((g, some (CPred.at (ptr m 0) C)) :: (t, none) :: B)) : Cod P c Q n F L B := by
  intro a w hs
  obtain ⟨M, D, h⟩ := id hs
  have h1 := h.hasB t _ hl
  obtain ⟨m, hv⟩ := hC _ _ _ _ h1
  refine k m a w ⟨M, _, h.rekey hl hg (C' := CPred.at (ptr m 0) C) (by rw [← hv]; exact h1) fun t' e he => ?_⟩
  simp only [look] at he
  by_cases hne : t = t'
  · subst hne
    simp at he; subst he
    have hlt : t < a.tmps.size := by rw [h.size]; exact Nat.le_of_ble_eq_true ht
    refine ⟨Act.val a t, by unfold Act.val; simp [hlt], fun _ => ?_, fun hf => (hf trivial).elim⟩
    rw [hv]; exact rep_raw.2 ⟨rfl, rfl, rfl⟩
  · rw [beq_ne hne, cond_false] at he; exact h.has t' e he

end

end Go.DB

/-
  Arrays as values.
-/
set_option linter.unusedSimpArgs false
set_option linter.unusedVariables false
namespace Go.DB
open Go Go.RowKit

/-- An array of n + 1 elements. -/
structure Arr (n : Nat) (α : Type) where
  l : List α
  deriving Inhabited, DecidableEq

theorem Elems.plainA {α : Type} [Rep α] {M : MSet} {w : World} : ∀ (xs : List α) (cs : List Value), Elems M w xs cs → ∀ c ∈ cs, isOne c = true
  | [], _, h, c, hc => by rw [h] at hc; cases hc
  | x :: xs, _, ⟨c1, r, h, h1, h2⟩, c, hc => by
    rw [h] at hc
    rcases List.mem_append.1 hc with hc | hc
    · exact Rep.plain h1 c hc
    · exact Elems.plainA xs r h2 c hc

instance {n : Nat} {α : Type} [Rep α] : Rep (Arr n α) where
  sz := (n + 1) * Rep.sz α
  agg := true
  cells := fun M x cs w => x.l.length = n + 1 ∧ Elems M w x.l cs
  len := fun h => by rw [Elems.len _ _ h.2, h.1]
  pos := Nat.mul_pos (Nat.succ_pos n) Rep.pos
  flat := fun _ => rfl
  plain := fun h => Elems.plainA _ _ h.2
  law := fun hk hm h => ⟨h.1, Elems.law hk hm _ _ h.2⟩

theorem Elems.flat {α : Type} [Rep α] [Flat α] {M M' : MSet} {w : World} : ∀ (xs : List α) (cs : List Value), Elems M w xs cs → Elems M' w xs cs
  | [], _, h => h
  | x :: xs, _, ⟨c1, r, h, h1, h2⟩ => ⟨c1, r, h, Flat.cells h1, Elems.flat xs r h2⟩
instance {n : Nat} {α : Type} [Rep α] [Flat α] : Flat (Arr n α) := ⟨fun h => ⟨h.1, Elems.flat _ _ h.2⟩⟩
instance {n : Nat} {α : Type} [Fits α] : Fits (Arr n α) := ⟨fun x => x.l.length = n + 1 ∧ ∀ y ∈ x.l, fits y⟩
theorem Elems.fit {α : Type} [Rep α] [Fits α] [FitsRep α] {M : MSet} {w : World} : ∀ (xs : List α) (cs : List Value), Elems M w xs cs → ∀ y ∈ xs, fits y
  | [], _, _, y, hy => by cases hy
  | x :: xs, _, ⟨c1, r, h, h1, h2⟩, y, hy => by
    rcases List.mem_cons.1 hy with rfl | hy
    · exact FitsRep.of h1
    · exact Elems.fit xs r h2 y hy
instance {n : Nat} {α : Type} [Rep α] [Fits α] [FitsRep α] : FitsRep (Arr n α) := ⟨fun h => ⟨h.1, Elems.fit _ _ h.2⟩⟩

/-- An array type of n + 1 elements of type E, whose zero value has so many cells. -/
def ArrOf (P : Program) (T n E : Nat) : Prop := P.underlying T = some (.array (n + 1) E)
def ArrZero (P : Program) (T k : Nat) : Prop := ((P.info? T).bind (·.zero)).map (fun z => z.cells.size) = some k

section
variable {P : Program} {ops : Array Oper} {fs : Nat} {L : Slots} {B : Owns} {G : Prop}
variable {d : Option Tmp} {ty : TypeId} {pos : String} {after : Array Edge} {g : Option (Nat × Bool)} {xr : List Nat}

end
end Go.DB

/-
  Boxes of function values that nobody writes any more; rows that go into boxes without a name; closures over memory of one's own that are lent.
-/
set_option linter.unusedSimpArgs false
set_option linter.unusedVariables false
namespace Go.DB
open Go Go.RowKit

theorem notT {b : Bool} (h : b = false) : (!b) = true := by rw [h]; rfl

/-- A pointer to one cell that holds what S stands for, in a block that stays. -/
def refS (S : SPred) : SPred where
  p := fun M v w => ∃ b u, v = .pointer (some ⟨b, 0, none⟩) ∧ ¬ M b ∧ b < w.heap.size ∧ S.p M u w ∧ isOne u = true ∧ u.cells = #[u] ∧ w.cell? ⟨b, 0, none⟩ = some u
  law := fun _ _ _ w w' hk hm ⟨b, u, hv, hM, hb, hS, h1, h2, hc⟩ =>
    ⟨b, u, hv, fun h => (hm b h).elim hM (by omega), Nat.lt_of_lt_of_le hb hk.size, S.law _ _ _ _ _ hk hm hS, h1, h2, by rw [← hc]; exact World.cell?_of_block (w := w) (hk.block b hb hM)⟩

/-- Values of a kind are of one cell. -/
def OneS (S : SPred) : Prop := ∀ M v w, S.p M v w → isOne v = true ∧ v.cells = #[v]
section
variable {P : Program} {ops : Array Oper} {fs : Nat} {L : Slots} {B : Owns} {G : Prop}
variable {d : Option Tmp} {ty : TypeId} {pos : String} {after : Array Edge} {g : Option (Nat × Bool)} {xr : List Nat}

/-! What is lent. -/

/-- With the memory of the keys ks lent, x stands for S. -/
def LentTo (L : Slots) (B : Owns) (G : Prop) (x : Operand) (S : SPred) (ks : List Nat) : Prop :=
  ∀ {ts kz : List Nat} {M : MSet} {D : Nat → MSet} {a : Act} {w : World}, SatOn ts M L a w → (∀ t, x = .tmp t → t ∈ ts) → SatB kz M D B a w → (∀ k ∈ ks, k ∈ kz) → G → (∀ k, M k → k < w.heap.size) →
    ∀ (M' : MSet), (∀ k, M' k → M k) → (∀ k ∈ ks, ∀ j, D k j → ¬ M' j) → S.p M' (a.eval x) w

/-- What captured pointers stand for, if memory is lent. -/
inductive CapsTo (B : Owns) : List SPred → List SPred → List Nat → Prop
  | nil : CapsTo B [] [] []
  | same {C Cs Cs' ks} : CapsTo B Cs Cs' ks → CapsTo B (C :: Cs) (C :: Cs') ks
  | own {k m : Nat} {C : CPred} {S' : SPred} {Cs Cs' ks} : lookB B k = some (CPred.at (ptr m 0) C) → (∀ M D w, C.p M D (ptr m 0) w → (∀ k, M k → k < w.heap.size) → S'.p (fun k => M k ∧ ¬ D k) (ptr m 0) w) → CapsTo B Cs Cs' ks →
      CapsTo B (isV (ptr m 0) :: Cs) (S' :: Cs') (k :: ks)
  | deep1 {k q m T E : Nat} {s : Value} {α β γ : Type} [Rep α] [Rep β] [Rep γ] {l : List β} {x : α} {y : γ} {Cs Cs' ks} : lookB B k = some (boxAt m T x) → lookB B q = some (CPred.at s (rowV E l)) → Rep.sz γ = Rep.sz α →
      (∀ M cs w, Rep.cells M x cs w → (rep l).p M s w → Rep.cells M y cs w) → CapsTo B Cs Cs' ks → CapsTo B (isV (ptr m 0) :: Cs) (ref y :: Cs') (k :: q :: ks)
  | deepR {k q m T : Nat} {s : Value} {α β γ : Type} [Rep α] [Rep β] [Rep γ] {R : CPred} {l : β} {x : α} {y : γ} {Cs Cs' ks} : lookB B k = some (boxAt m T x) → lookB B q = some (CPred.at s R) → Rep.sz γ = Rep.sz α →
      (∀ M D w, R.p M D s w → (∀ k, M k → k < w.heap.size) → (rep l).p (fun k => M k ∧ ¬ D k) s w) → (∀ M cs w, Rep.cells M x cs w → (rep l).p M s w → Rep.cells M y cs w) → CapsTo B Cs Cs' ks → CapsTo B (isV (ptr m 0) :: Cs) (ref y :: Cs') (k :: q :: ks)
  | deep2 {k q1 q2 m T E1 E2 : Nat} {s1 s2 : Value} {α β1 β2 γ : Type} [Rep α] [Rep β1] [Rep β2] [Rep γ] {l1 : List β1} {l2 : List β2} {x : α} {y : γ} {Cs Cs' ks} : lookB B k = some (boxAt m T x) → lookB B q1 = some (CPred.at s1 (rowV E1 l1)) → lookB B q2 = some (CPred.at s2 (rowV E2 l2)) → Rep.sz γ = Rep.sz α →
      (∀ M cs w, Rep.cells M x cs w → (rep l1).p M s1 w → (rep l2).p M s2 w → Rep.cells M y cs w) → CapsTo B Cs Cs' ks → CapsTo B (isV (ptr m 0) :: Cs) (ref y :: Cs') (k :: q1 :: q2 :: ks)

theorem CapsTo.get {Cs Cs' : List SPred} {ks : List Nat} (h : CapsTo B Cs Cs' ks) {kz : List Nat} {M : MSet} {D : Nat → MSet} {a : Act} {w : World} (hB : SatB kz M D B a w) (hk : ∀ k ∈ ks, k ∈ kz) (hm : ∀ k, M k → k < w.heap.size)
    (M' : MSet) (hM : ∀ k, M' k → M k) (hD : ∀ k ∈ ks, ∀ j, D k j → ¬ M' j) : ∀ vs, All2 M w Cs vs → All2 M' w Cs' vs := by
  induction h with
  | nil => intro vs h; cases vs with
    | nil => trivial
    | cons _ _ => exact h.elim
  | same _ ih => intro vs h; cases vs with
    | nil => exact h.elim
    | cons v vs => exact ⟨rep_less h.1 hM, ih hk hD vs h.2⟩
  | own hl hS _ ih => intro vs h; cases vs with
    | nil => exact h.elim
    | cons v vs =>
      refine ⟨?_, ih (fun k h => hk k (List.mem_cons_of_mem _ h)) (fun k h => hD k (List.mem_cons_of_mem _ h)) vs h.2⟩
      have hC := hB.has _ (hk _ List.mem_cons_self) _ hl
      rw [(rep_raw.1 h.1).1]
      exact rep_less (hS M _ w hC hm) (fun k h => ⟨hM k h, fun hd => hD _ List.mem_cons_self k hd h⟩)
  | deep1 hl hq hsz hy _ ih => intro vs h; cases vs with
    | nil => exact h.elim
    | cons v vs =>
      refine ⟨?_, ih (fun k h => hk k (List.mem_cons_of_mem _ (List.mem_cons_of_mem _ h))) (fun k h => hD k (List.mem_cons_of_mem _ (List.mem_cons_of_mem _ h))) vs h.2⟩
      obtain ⟨m', cs, hv, hDk, hMk, hh, hc⟩ := hB.has _ (hk _ List.mem_cons_self) _ hl
      have hR := hB.has _ (hk _ (List.mem_cons_of_mem _ List.mem_cons_self)) _ hq
      rw [(rep_raw.1 h.1).1, hv]
      have hR' := rep_less (rowV_rep M _ w _ hR hm) (M' := M') (fun k h => ⟨hM k h, fun hd => hD _ (List.mem_cons_of_mem _ List.mem_cons_self) k hd h⟩)
      exact ⟨m', 0, cs, rfl, fun hk => hD _ List.mem_cons_self m' ((hDk m').2 rfl) hk, hm _ hMk, hy M' cs w (Rep.law (Keeps.refl M w) (fun k h => .inl (hM k h)) hc) hR', fun j _ => by rw [cell_of_heap hh]; simp⟩
  | deepR hl hq hsz hF hy _ ih => intro vs h; cases vs with
    | nil => exact h.elim
    | cons v vs =>
      refine ⟨?_, ih (fun k h => hk k (List.mem_cons_of_mem _ (List.mem_cons_of_mem _ h))) (fun k h => hD k (List.mem_cons_of_mem _ (List.mem_cons_of_mem _ h))) vs h.2⟩
      obtain ⟨m', cs, hv, hDk, hMk, hh, hc⟩ := hB.has _ (hk _ List.mem_cons_self) _ hl
      have hR := hB.has _ (hk _ (List.mem_cons_of_mem _ List.mem_cons_self)) _ hq
      rw [(rep_raw.1 h.1).1, hv]
      have hR' := rep_less (hF M _ w hR hm) (M' := M') (fun k h => ⟨hM k h, fun hd => hD _ (List.mem_cons_of_mem _ List.mem_cons_self) k hd h⟩)
      exact ⟨m', 0, cs, rfl, fun hk => hD _ List.mem_cons_self m' ((hDk m').2 rfl) hk, hm _ hMk, hy M' cs w (Rep.law (Keeps.refl M w) (fun k h => .inl (hM k h)) hc) hR', fun j _ => by rw [cell_of_heap hh]; simp⟩
  | deep2 hl hq1 hq2 hsz hy _ ih => intro vs h; cases vs with
    | nil => exact h.elim
    | cons v vs =>
      refine ⟨?_, ih (fun k h => hk k (List.mem_cons_of_mem _ (List.mem_cons_of_mem _ (List.mem_cons_of_mem _ h)))) (fun k h => hD k (List.mem_cons_of_mem _ (List.mem_cons_of_mem _ (List.mem_cons_of_mem _ h)))) vs h.2⟩
      obtain ⟨m', cs, hv, hDk, hMk, hh, hc⟩ := hB.has _ (hk _ List.mem_cons_self) _ hl
      have hR1 := hB.has _ (hk _ (List.mem_cons_of_mem _ List.mem_cons_self)) _ hq1
      have hR2 := hB.has _ (hk _ (List.mem_cons_of_mem _ (List.mem_cons_of_mem _ List.mem_cons_self))) _ hq2
      rw [(rep_raw.1 h.1).1, hv]
      have hR1' := rep_less (rowV_rep M _ w _ hR1 hm) (M' := M') (fun k h => ⟨hM k h, fun hd => hD _ (List.mem_cons_of_mem _ List.mem_cons_self) k hd h⟩)
      have hR2' := rep_less (rowV_rep M _ w _ hR2 hm) (M' := M') (fun k h => ⟨hM k h, fun hd => hD _ (List.mem_cons_of_mem _ (List.mem_cons_of_mem _ List.mem_cons_self)) k hd h⟩)
      exact ⟨m', 0, cs, rfl, fun hk => hD _ List.mem_cons_self m' ((hDk m').2 rfl) hk, hm _ hMk, hy M' cs w (Rep.law (Keeps.refl M w) (fun k h => .inl (hM k h)) hc) hR1' hR2', fun j _ => by rw [cell_of_heap hh]; simp⟩

/-- Operands, some of which are lent. -/
inductive OpdB4 (L : Slots) (B : Owns) (G : Prop) : List Operand → List SPred → List Nat → Prop
  | nil : OpdB4 L B G [] [] []
  | cons {x S xs Ss ks} : Opd L G x S → OpdB4 L B G xs Ss ks → OpdB4 L B G (x :: xs) (S :: Ss) ks
  | lend {x xs Ss ks k T} {α : Type} [Rep α] {l : List α} : RowArg L B x k (rowV T l) → OpdB4 L B G xs Ss ks → OpdB4 L B G (x :: xs) (rep l :: Ss) (k :: ks)
  | lendG {x xs Ss ks k T s} {α : Type} [Rep α] {l : List α} : Opd L G x (isV s) → lookB B k = some (CPred.at s (rowV T l)) → OpdB4 L B G xs Ss ks → OpdB4 L B G (x :: xs) (rep l :: Ss) (k :: ks)
  | lendP {x xs Ss ks k T s i j} {α : Type} [Rep α] {l : List α} : Opd L G x (isV (partV s i j (Rep.sz α))) → lookB B k = some (CPred.at s (rowV T l)) → segR l.length i j → OpdB4 L B G xs Ss ks → OpdB4 L B G (x :: xs) (rep (seg l i j) :: Ss) (k :: ks)
  | gen {x S xs Ss ks' ks} : LentTo L B G x S ks' → OpdB4 L B G xs Ss ks → OpdB4 L B G (x :: xs) (S :: Ss) (ks' ++ ks)

theorem OpdB4.get {xs : List Operand} {Ss : List SPred} {ks : List Nat} (h : OpdB4 L B G xs Ss ks) {ts kz : List Nat} {M : MSet} {D : Nat → MSet} {a : Act} {w : World}
    (hs : SatOn ts M L a w) (hx : ∀ x ∈ xs, ∀ t, x = .tmp t → t ∈ ts) (hB : SatB kz M D B a w) (hk : ∀ k ∈ ks, k ∈ kz) (hG : G) (hm : ∀ k, M k → k < w.heap.size)
    (M' : MSet) (hM : ∀ k, M' k → M k) (hD : ∀ k ∈ ks, ∀ j, D k j → ¬ M' j) : All2 M' w Ss (xs.map a.eval) := by
  induction h with
  | nil => trivial
  | cons h1 _ ih => exact ⟨rep_less (h1.get hs (hx _ List.mem_cons_self) hG) hM, ih (fun x hm => hx x (List.mem_cons_of_mem _ hm)) hk hD⟩
  | lend h1 _ ih =>
    refine ⟨?_, ih (fun x hm => hx x (List.mem_cons_of_mem _ hm)) (fun k h => hk k (List.mem_cons_of_mem _ h)) (fun k h => hD k (List.mem_cons_of_mem _ h))⟩
    obtain ⟨hC, _⟩ := h1.get hs (hx _ List.mem_cons_self) hB (hk _ List.mem_cons_self)
    exact rep_less (rowV_rep M (D _) w _ hC hm) (fun k h => ⟨hM k h, fun hd => hD _ List.mem_cons_self k hd h⟩)
  | lendG h1 h2 _ ih =>
    refine ⟨?_, ih (fun x hm => hx x (List.mem_cons_of_mem _ hm)) (fun k h => hk k (List.mem_cons_of_mem _ h)) (fun k h => hD k (List.mem_cons_of_mem _ h))⟩
    have hv := (rep_raw.1 (h1.get hs (hx _ List.mem_cons_self) hG)).1
    have hC := hB.has _ (hk _ List.mem_cons_self) _ h2
    rw [hv]
    exact rep_less (rowV_rep M (D _) w _ hC hm) (fun k h => ⟨hM k h, fun hd => hD _ List.mem_cons_self k hd h⟩)
  | lendP h1 h2 h3 _ ih =>
    refine ⟨?_, ih (fun x hm => hx x (List.mem_cons_of_mem _ hm)) (fun k h => hk k (List.mem_cons_of_mem _ h)) (fun k h => hD k (List.mem_cons_of_mem _ h))⟩
    have hv := (rep_raw.1 (h1.get hs (hx _ List.mem_cons_self) hG)).1
    have hC := hB.has _ (hk _ List.mem_cons_self) _ h2
    rw [hv]
    exact rep_part (rep_less (rowV_rep M (D _) w _ hC hm) (fun k h => ⟨hM k h, fun hd => hD _ List.mem_cons_self k hd h⟩)) h3
  | gen h1 _ ih =>
    exact ⟨h1 hs (hx _ List.mem_cons_self) hB (fun k h => hk k (List.mem_append_left _ h)) hG hm M' hM (fun k h => hD k (List.mem_append_left _ h)),
      ih (fun x hm => hx x (List.mem_cons_of_mem _ hm)) (fun k h => hk k (List.mem_append_right _ h)) (fun k h => hD k (List.mem_append_right _ h))⟩

end

end Go.DB

/-
  Functions that are values without captures, and write what they are given.
-/
set_option linter.unusedVariables false
namespace Go.DB
open Go Go.RowKit
variable {L : Slots} {G : Prop}

end Go.DB

