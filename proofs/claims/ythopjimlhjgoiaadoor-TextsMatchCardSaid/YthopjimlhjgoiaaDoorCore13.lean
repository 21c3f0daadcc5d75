/-
  Integers of every kind; bits; what is nil; boxes of one's own made of values.
-/
import Derived.Test.YthopjimlhjgoiaaDoorCore12
set_option linter.unusedSimpArgs false
set_option linter.unusedVariables false
namespace Go.DB
open Go Go.RowKit

/-- An integer of kind k. -/
structure KI (k : IntKind) where
  n : Int
  deriving DecidableEq, Inhabited

instance {k : IntKind} : Rep (KI k) where
  sz := 1
  agg := false
  cells := fun _ x cs _ => cs = [.int k x.n]
  len := fun h => by rw [h]; rfl
  pos := by decide
  flat := fun h => by rw [h]; rfl
  plain := fun h c hc => by rw [h] at hc; simp at hc; rw [hc]; rfl
  law := fun _ _ h => h
instance {k : IntKind} : Flat (KI k) := ⟨fun h => h⟩
instance {k : IntKind} : Fits (KI k) := ⟨fun _ => True⟩
instance {k : IntKind} : FitsRep (KI k) := ⟨fun _ => trivial⟩

theorem rep_ki {k : IntKind} {x : KI k} {M : MSet} {v : Value} {w : World} : (rep x).p M v w ↔ v = .int k x.n := by
  constructor
  · rintro ⟨cs, h, hv⟩; subst h; exact hv
  · intro h; exact ⟨[.int k x.n], rfl, h⟩
theorem Opd.ki {L : Slots} {G : Prop} {k : IntKind} {n : Int} : Opd L G (.const (.int k n)) (rep (⟨n⟩ : KI k)) := fun _ _ => rep_ki.2 rfl

def iand (a b : Int) : Int := W ((BitVec.ofInt 64 a &&& BitVec.ofInt 64 b).toNat : Int)
def ior (a b : Int) : Int := W ((BitVec.ofInt 64 a ||| BitVec.ofInt 64 b).toNat : Int)
def ixor (a b : Int) : Int := W ((BitVec.ofInt 64 a ^^^ BitVec.ofInt 64 b).toNat : Int)
def iandn (a b : Int) : Int := W ((BitVec.ofInt 64 a &&& ~~~ BitVec.ofInt 64 b).toNat : Int)
def ishl (a b : Int) : Int := W (a * 2 ^ min b.toNat 64)
def ishr (a b : Int) : Int := a.fdiv (2 ^ min b.toNat 64)
def KI.and {k : IntKind} (a b : KI k) : KI k := ⟨k.wrap ((BitVec.ofInt k.bits a.n &&& BitVec.ofInt k.bits b.n).toNat : Int)⟩
def KI.or {k : IntKind} (a b : KI k) : KI k := ⟨k.wrap ((BitVec.ofInt k.bits a.n ||| BitVec.ofInt k.bits b.n).toNat : Int)⟩
def KI.xor {k : IntKind} (a b : KI k) : KI k := ⟨k.wrap ((BitVec.ofInt k.bits a.n ^^^ BitVec.ofInt k.bits b.n).toNat : Int)⟩
def KI.andn {k : IntKind} (a b : KI k) : KI k := ⟨k.wrap ((BitVec.ofInt k.bits a.n &&& ~~~ BitVec.ofInt k.bits b.n).toNat : Int)⟩
def KI.add {k : IntKind} (a b : KI k) : KI k := ⟨k.wrap (a.n + b.n)⟩
def KI.sub {k : IntKind} (a b : KI k) : KI k := ⟨k.wrap (a.n - b.n)⟩
def KI.mul {k : IntKind} (a b : KI k) : KI k := ⟨k.wrap (a.n * b.n)⟩
def KI.quo {k : IntKind} (a b : KI k) : KI k := ⟨k.wrap (a.n.tdiv b.n)⟩
def KI.rem {k : IntKind} (a b : KI k) : KI k := ⟨a.n.tmod b.n⟩
def KI.shl {k : IntKind} (a : KI k) (b : Int) : KI k := ⟨k.wrap (a.n * 2 ^ min b.toNat k.bits)⟩
def KI.shr {k : IntKind} (a : KI k) (b : Int) : KI k := ⟨a.n.fdiv (2 ^ min b.toNat k.bits)⟩
def KI.neg {k : IntKind} (a : KI k) : KI k := ⟨k.wrap (0 - a.n)⟩
/-- To another kind. -/
def KI.of (k : IntKind) (n : Int) : KI k := ⟨k.wrap n⟩

theorem ishr_in {a b : Int} (h : InI a) : InI (ishr a b) := by
  have h2 : (0 : Int) < 2 ^ min b.toNat 64 := Int.pow_pos (by decide)
  generalize hk : (2 : Int) ^ min b.toNat 64 = k at h2
  unfold ishr InI at *
  rw [hk, Int.fdiv_eq_ediv_of_nonneg _ (Int.le_of_lt h2)]
  constructor
  · rw [Int.le_ediv_iff_mul_le h2]
    have : -9223372036854775808 * k ≤ -9223372036854775808 * 1 := Int.mul_le_mul_of_nonpos_left (by decide) (by omega)
    omega
  · have h3 : a / k < 9223372036854775808 := by
      rw [Int.ediv_lt_iff_lt_mul h2]
      have : 9223372036854775808 * 1 ≤ 9223372036854775808 * k := Int.mul_le_mul_of_nonneg_left (by omega) (by decide)
      omega
    omega

section
variable {P : Program} {ops : Array Oper} {fs : Nat} {L : Slots} {B : Owns} {G : Prop}
variable {d : Option Tmp} {ty : TypeId} {pos : String} {after : Array Edge} {g : Option (Nat × Bool)} {xr : List Nat}

theorem ex_bin2 {ρ : Operand → Value} {op : BinOp} {x y : Operand} {T T' : TypeId} {j k : IntKind} {m n : Int} {v : Value} {w : World} (hx : ρ x = .int j m) (hy : ρ y = .int k n)
    (hv : (binOp op T (.int j m) (.int k n)).run P w = .ok v w) :
    (execOp ρ ⟨d, .binOp op T x y T', ty, pos, after, g⟩).run P w = .ok (.value v) w := by
  have hgd : eqGuard op T x y (.int j m) (.int k n) = Pure.pure () := by
    unfold eqGuard; cases op <;> rfl
  simp only [execOp, hx, hy, hgd]
  generalize binOp op T (.int j m) (.int k n) = s at *
  simp [go_sem, hv]

theorem StepOK.kbin {op : BinOp} {x y : Operand} {T T' : TypeId} {k : IntKind} {m n : KI k} {S : SPred} (hg : Guard ops g L G) (hx : Opd L G x (rep m)) (hy : Opd L G y (rep n))
    (h : G → ∃ v, (∀ w, (binOp op T (.int k m.n) (.int k n.n)).run P w = .ok v w) ∧ ∀ M w, S.p M v w) :
    StepOK P ops fs ⟨d, .binOp op T x y T', ty, pos, after, g⟩ L B (xr, []) ⟨G, S⟩ [] :=
  .pure hg fun M a w _ hs hG => by
    have h1 := rep_ki.1 (hx.get hs (fun t ht => looksAt_op (by simp [Op.operands, ht])) hG)
    have h2 := rep_ki.1 (hy.get hs (fun t ht => looksAt_op (by simp [Op.operands, ht])) hG)
    obtain ⟨v, hv, hS⟩ := h hG
    exact ⟨v, ex_bin2 h1 h2 (hv w), hS M w⟩

theorem run_kk {op : BinOp} {T : TypeId} {k : IntKind} {a b : Int} (h1 : op ≠ .shl) (h2 : op ≠ .shr) {s : Sem Value}
    (h : (match op with
    | .add | .sub | .mul => Op.intArith op k a b
    | .quo | .rem => Op.intDiv op k a b
    | .and | .or | .xor | .andNot => Op.intBits op k a b
    | _ => Op.intCmp op a b) = s) : binOp op T (.int k a) (.int k b) = s := by
  cases op <;> first | exact absurd rfl h1 | exact absurd rfl h2 | (simp only [binOp, ne_eq, not_true_eq_false, if_false]; exact h)

variable {x y : Operand} {T T' : TypeId} {k : IntKind} {m n : KI k}
theorem StepOK.kadd (hg : Guard ops g L G) (hx : Opd L G x (rep m)) (hy : Opd L G y (rep n)) : StepOK P ops fs ⟨d, .binOp .add T x y T', ty, pos, after, g⟩ L B (xr, []) ⟨G, rep (m.add n)⟩ [] :=
  .kbin hg hx hy fun _ => ⟨.int k (m.add n).n, fun _ => by rw [run_kk (by decide) (by decide) rfl]; rfl, fun _ _ => rep_ki.2 rfl⟩
theorem StepOK.ksub (hg : Guard ops g L G) (hx : Opd L G x (rep m)) (hy : Opd L G y (rep n)) : StepOK P ops fs ⟨d, .binOp .sub T x y T', ty, pos, after, g⟩ L B (xr, []) ⟨G, rep (m.sub n)⟩ [] :=
  .kbin hg hx hy fun _ => ⟨.int k (m.sub n).n, fun _ => by rw [run_kk (by decide) (by decide) rfl]; rfl, fun _ _ => rep_ki.2 rfl⟩
theorem StepOK.kmul (hg : Guard ops g L G) (hx : Opd L G x (rep m)) (hy : Opd L G y (rep n)) : StepOK P ops fs ⟨d, .binOp .mul T x y T', ty, pos, after, g⟩ L B (xr, []) ⟨G, rep (m.mul n)⟩ [] :=
  .kbin hg hx hy fun _ => ⟨.int k (m.mul n).n, fun _ => by rw [run_kk (by decide) (by decide) rfl]; rfl, fun _ _ => rep_ki.2 rfl⟩
theorem StepOK.kquo (hg : Guard ops g L G) (hx : Opd L G x (rep m)) (hy : Opd L G y (rep n)) (h0 : G → n.n ≠ 0) : StepOK P ops fs ⟨d, .binOp .quo T x y T', ty, pos, after, g⟩ L B (xr, []) ⟨G, rep (m.quo n)⟩ [] :=
  .kbin hg hx hy fun hG => ⟨.int k (m.quo n).n, fun _ => by rw [run_kk (by decide) (by decide) rfl]; simp only [Op.intDiv]; rw [if_neg (h0 hG)]; rfl, fun _ _ => rep_ki.2 rfl⟩
theorem StepOK.krem (hg : Guard ops g L G) (hx : Opd L G x (rep m)) (hy : Opd L G y (rep n)) (h0 : G → n.n ≠ 0) : StepOK P ops fs ⟨d, .binOp .rem T x y T', ty, pos, after, g⟩ L B (xr, []) ⟨G, rep (m.rem n)⟩ [] :=
  .kbin hg hx hy fun hG => ⟨.int k (m.rem n).n, fun _ => by rw [run_kk (by decide) (by decide) rfl]; simp only [Op.intDiv]; rw [if_neg (h0 hG)]; rfl, fun _ _ => rep_ki.2 rfl⟩
theorem StepOK.kand (hg : Guard ops g L G) (hx : Opd L G x (rep m)) (hy : Opd L G y (rep n)) : StepOK P ops fs ⟨d, .binOp .and T x y T', ty, pos, after, g⟩ L B (xr, []) ⟨G, rep (m.and n)⟩ [] :=
  .kbin hg hx hy fun _ => ⟨.int k (m.and n).n, fun _ => by rw [run_kk (by decide) (by decide) rfl]; rfl, fun _ _ => rep_ki.2 rfl⟩
theorem StepOK.kor (hg : Guard ops g L G) (hx : Opd L G x (rep m)) (hy : Opd L G y (rep n)) : StepOK P ops fs ⟨d, .binOp .or T x y T', ty, pos, after, g⟩ L B (xr, []) ⟨G, rep (m.or n)⟩ [] :=
  .kbin hg hx hy fun _ => ⟨.int k (m.or n).n, fun _ => by rw [run_kk (by decide) (by decide) rfl]; rfl, fun _ _ => rep_ki.2 rfl⟩
theorem StepOK.kxor (hg : Guard ops g L G) (hx : Opd L G x (rep m)) (hy : Opd L G y (rep n)) : StepOK P ops fs ⟨d, .binOp .xor T x y T', ty, pos, after, g⟩ L B (xr, []) ⟨G, rep (m.xor n)⟩ [] :=
  .kbin hg hx hy fun _ => ⟨.int k (m.xor n).n, fun _ => by rw [run_kk (by decide) (by decide) rfl]; rfl, fun _ _ => rep_ki.2 rfl⟩
theorem StepOK.kandNot (hg : Guard ops g L G) (hx : Opd L G x (rep m)) (hy : Opd L G y (rep n)) : StepOK P ops fs ⟨d, .binOp .andNot T x y T', ty, pos, after, g⟩ L B (xr, []) ⟨G, rep (m.andn n)⟩ [] :=
  .kbin hg hx hy fun _ => ⟨.int k (m.andn n).n, fun _ => by rw [run_kk (by decide) (by decide) rfl]; rfl, fun _ _ => rep_ki.2 rfl⟩
theorem StepOK.keql (hg : Guard ops g L G) (hx : Opd L G x (rep m)) (hy : Opd L G y (rep n)) : StepOK P ops fs ⟨d, .binOp .eql T x y T', ty, pos, after, g⟩ L B (xr, []) ⟨G, rep (decide (m.n = n.n))⟩ [] :=
  .kbin hg hx hy fun _ => ⟨_, fun _ => by rw [run_kk (by decide) (by decide) rfl]; rfl, fun _ _ => rep_bool.2 rfl⟩
theorem StepOK.kneq (hg : Guard ops g L G) (hx : Opd L G x (rep m)) (hy : Opd L G y (rep n)) : StepOK P ops fs ⟨d, .binOp .neq T x y T', ty, pos, after, g⟩ L B (xr, []) ⟨G, rep (!decide (m.n = n.n))⟩ [] :=
  .kbin hg hx hy fun _ => ⟨_, fun _ => by rw [run_kk (by decide) (by decide) rfl]; rfl, fun _ _ => rep_bool.2 rfl⟩
theorem StepOK.klss (hg : Guard ops g L G) (hx : Opd L G x (rep m)) (hy : Opd L G y (rep n)) : StepOK P ops fs ⟨d, .binOp .lss T x y T', ty, pos, after, g⟩ L B (xr, []) ⟨G, rep (decide (m.n < n.n))⟩ [] :=
  .kbin hg hx hy fun _ => ⟨_, fun _ => by rw [run_kk (by decide) (by decide) rfl]; rfl, fun _ _ => rep_bool.2 rfl⟩
theorem StepOK.kleq (hg : Guard ops g L G) (hx : Opd L G x (rep m)) (hy : Opd L G y (rep n)) : StepOK P ops fs ⟨d, .binOp .leq T x y T', ty, pos, after, g⟩ L B (xr, []) ⟨G, rep (decide (m.n ≤ n.n))⟩ [] :=
  .kbin hg hx hy fun _ => ⟨_, fun _ => by rw [run_kk (by decide) (by decide) rfl]; rfl, fun _ _ => rep_bool.2 rfl⟩
theorem StepOK.kgtr (hg : Guard ops g L G) (hx : Opd L G x (rep m)) (hy : Opd L G y (rep n)) : StepOK P ops fs ⟨d, .binOp .gtr T x y T', ty, pos, after, g⟩ L B (xr, []) ⟨G, rep (decide (n.n < m.n))⟩ [] :=
  .kbin hg hx hy fun _ => ⟨_, fun _ => by rw [run_kk (by decide) (by decide) rfl]; rfl, fun _ _ => rep_bool.2 rfl⟩
theorem StepOK.kgeq (hg : Guard ops g L G) (hx : Opd L G x (rep m)) (hy : Opd L G y (rep n)) : StepOK P ops fs ⟨d, .binOp .geq T x y T', ty, pos, after, g⟩ L B (xr, []) ⟨G, rep (decide (n.n ≤ m.n))⟩ [] :=
  .kbin hg hx hy fun _ => ⟨_, fun _ => by rw [run_kk (by decide) (by decide) rfl]; rfl, fun _ _ => rep_bool.2 rfl⟩

/-! Bits of ints. -/

theorem StepOK.iand {m n : Int} (hg : Guard ops g L G) (hx : Opd L G x (rep m)) (hy : Opd L G y (rep n)) : StepOK P ops fs ⟨d, .binOp .and T x y T', ty, pos, after, g⟩ L B (xr, []) ⟨G, rep (iand m n)⟩ [] :=
  .bin hg hx hy fun _ _ _ => ⟨_, fun _ => by rw [run_kk (by decide) (by decide) rfl]; rfl, fun _ _ => rep_int.2 ⟨by unfold DB.iand W; rfl, W_in _⟩⟩
theorem StepOK.ior {m n : Int} (hg : Guard ops g L G) (hx : Opd L G x (rep m)) (hy : Opd L G y (rep n)) : StepOK P ops fs ⟨d, .binOp .or T x y T', ty, pos, after, g⟩ L B (xr, []) ⟨G, rep (ior m n)⟩ [] :=
  .bin hg hx hy fun _ _ _ => ⟨_, fun _ => by rw [run_kk (by decide) (by decide) rfl]; rfl, fun _ _ => rep_int.2 ⟨by unfold DB.ior W; rfl, W_in _⟩⟩
theorem StepOK.ixor {m n : Int} (hg : Guard ops g L G) (hx : Opd L G x (rep m)) (hy : Opd L G y (rep n)) : StepOK P ops fs ⟨d, .binOp .xor T x y T', ty, pos, after, g⟩ L B (xr, []) ⟨G, rep (ixor m n)⟩ [] :=
  .bin hg hx hy fun _ _ _ => ⟨_, fun _ => by rw [run_kk (by decide) (by decide) rfl]; rfl, fun _ _ => rep_int.2 ⟨by unfold DB.ixor W; rfl, W_in _⟩⟩
theorem StepOK.iandNot {m n : Int} (hg : Guard ops g L G) (hx : Opd L G x (rep m)) (hy : Opd L G y (rep n)) : StepOK P ops fs ⟨d, .binOp .andNot T x y T', ty, pos, after, g⟩ L B (xr, []) ⟨G, rep (iandn m n)⟩ [] :=
  .bin hg hx hy fun _ _ _ => ⟨_, fun _ => by rw [run_kk (by decide) (by decide) rfl]; rfl, fun _ _ => rep_int.2 ⟨by unfold DB.iandn W; rfl, W_in _⟩⟩

/-- How far one shifts: an integer of any kind. -/
class IsInt (α : Type) [Rep α] where
  kind : IntKind
  val : α → Int
  spec : ∀ {x : α} {M : MSet} {v : Value} {w : World}, (rep x).p M v w → v = .int kind (val x)
instance : IsInt Int := ⟨.i64, fun n => n, fun h => (rep_int.1 h).1⟩
instance {k : IntKind} : IsInt (KI k) := ⟨k, fun x => x.n, fun h => rep_ki.1 h⟩

theorem StepOK.kshl {α : Type} [Rep α] [IsInt α] {b : α} (hg : Guard ops g L G) (hx : Opd L G x (rep m)) (hy : Opd L G y (rep b)) (h0 : G → 0 ≤ IsInt.val b) :
    StepOK P ops fs ⟨d, .binOp .shl T x y T', ty, pos, after, g⟩ L B (xr, []) ⟨G, rep (m.shl (IsInt.val b))⟩ [] :=
  .pure hg fun M a w _ hs hG => by
    have h1 := rep_ki.1 (hx.get hs (fun t ht => looksAt_op (by simp [Op.operands, ht])) hG)
    have h2 := IsInt.spec (hy.get hs (fun t ht => looksAt_op (by simp [Op.operands, ht])) hG)
    refine ⟨_, ex_bin2 h1 h2 (v := .int k (m.shl (IsInt.val b)).n) ?_, rep_ki.2 rfl⟩
    simp only [binOp, Op.shift]
    rw [if_neg (by have := h0 hG; omega)]; rfl
theorem StepOK.kshr {α : Type} [Rep α] [IsInt α] {b : α} (hg : Guard ops g L G) (hx : Opd L G x (rep m)) (hy : Opd L G y (rep b)) (h0 : G → 0 ≤ IsInt.val b) :
    StepOK P ops fs ⟨d, .binOp .shr T x y T', ty, pos, after, g⟩ L B (xr, []) ⟨G, rep (m.shr (IsInt.val b))⟩ [] :=
  .pure hg fun M a w _ hs hG => by
    have h1 := rep_ki.1 (hx.get hs (fun t ht => looksAt_op (by simp [Op.operands, ht])) hG)
    have h2 := IsInt.spec (hy.get hs (fun t ht => looksAt_op (by simp [Op.operands, ht])) hG)
    refine ⟨_, ex_bin2 h1 h2 (v := .int k (m.shr (IsInt.val b)).n) ?_, rep_ki.2 rfl⟩
    simp only [binOp, Op.shift]
    rw [if_neg (by have := h0 hG; omega)]; rfl
theorem StepOK.ishl {α : Type} [Rep α] [IsInt α] {m : Int} {b : α} (hg : Guard ops g L G) (hx : Opd L G x (rep m)) (hy : Opd L G y (rep b)) (h0 : G → 0 ≤ IsInt.val b) :
    StepOK P ops fs ⟨d, .binOp .shl T x y T', ty, pos, after, g⟩ L B (xr, []) ⟨G, rep (ishl m (IsInt.val b))⟩ [] :=
  .pure hg fun M a w _ hs hG => by
    obtain ⟨h1, i1⟩ := rep_int.1 (hx.get hs (fun t ht => looksAt_op (by simp [Op.operands, ht])) hG)
    have h2 := IsInt.spec (hy.get hs (fun t ht => looksAt_op (by simp [Op.operands, ht])) hG)
    refine ⟨_, ex_bin2 h1 h2 (v := .int .i64 (DB.ishl m (IsInt.val b))) ?_, rep_int.2 ⟨rfl, W_in _⟩⟩
    simp only [binOp, Op.shift]
    rw [if_neg (by have := h0 hG; omega)]
    unfold DB.ishl W; rfl
theorem StepOK.ishr {α : Type} [Rep α] [IsInt α] {m : Int} {b : α} (hg : Guard ops g L G) (hx : Opd L G x (rep m)) (hy : Opd L G y (rep b)) (h0 : G → 0 ≤ IsInt.val b) :
    StepOK P ops fs ⟨d, .binOp .shr T x y T', ty, pos, after, g⟩ L B (xr, []) ⟨G, rep (ishr m (IsInt.val b))⟩ [] :=
  .pure hg fun M a w _ hs hG => by
    obtain ⟨h1, i1⟩ := rep_int.1 (hx.get hs (fun t ht => looksAt_op (by simp [Op.operands, ht])) hG)
    have h2 := IsInt.spec (hy.get hs (fun t ht => looksAt_op (by simp [Op.operands, ht])) hG)
    refine ⟨_, ex_bin2 h1 h2 (v := .int .i64 (DB.ishr m (IsInt.val b))) ?_, rep_int.2 ⟨rfl, ishr_in i1⟩⟩
    simp only [binOp, Op.shift]
    rw [if_neg (by have := h0 hG; omega)]; rfl

/-! From kind to kind. -/

theorem ex_convert {ρ : Operand → Value} {x : Operand} {src dst : TypeId} {v u : Value} {w : World} (hx : ρ x = v) (h : (convert src dst v).run P w = .ok u w) :
    (execOp ρ ⟨d, .convert src dst x, ty, pos, after, g⟩).run P w = .ok (.value u) w := by
  simp only [execOp, hx]
  generalize convert src dst v = s at *
  simp [go_sem, h]
theorem run_convert_int {src dst : TypeId} {k j : IntKind} {n : Int} {w : World} {D : TypeDesc} (hs : P.underlying src = some D) (hd : P.underlying dst = some (.int k)) : (convert src dst (.int j n)).run P w = .ok (.int k (k.wrap n)) w := by
  simp [convert, underlying, hs, hd, go_sem, Conv.intToInt]
theorem StepOK.toK {src dst : TypeId} {k : IntKind} {α : Type} [Rep α] [IsInt α] {b : α} (hg : Guard ops g L G) (hs : (P.underlying src).isSome = true) (hd : P.underlying dst = some (.int k)) (hx : Opd L G x (rep b)) :
    StepOK P ops fs ⟨d, .convert src dst x, ty, pos, after, g⟩ L B (xr, []) ⟨G, rep (KI.of k (IsInt.val b))⟩ [] :=
  .pure hg fun M a w _ hsat hG => by
    have h1 := IsInt.spec (hx.get hsat (fun t ht => looksAt_op (by simp [Op.operands, ht])) hG)
    obtain ⟨D, hD⟩ := Option.isSome_iff_exists.1 hs
    exact ⟨_, ex_convert h1 (run_convert_int hD hd), rep_ki.2 rfl⟩
theorem StepOK.toInt {src dst : TypeId} {α : Type} [Rep α] [IsInt α] {b : α} (hg : Guard ops g L G) (hs : (P.underlying src).isSome = true) (hd : P.underlying dst = some (.int .i64)) (hx : Opd L G x (rep b)) :
    StepOK P ops fs ⟨d, .convert src dst x, ty, pos, after, g⟩ L B (xr, []) ⟨G, rep (W (IsInt.val b))⟩ [] :=
  .pure hg fun M a w _ hsat hG => by
    have h1 := IsInt.spec (hx.get hsat (fun t ht => looksAt_op (by simp [Op.operands, ht])) hG)
    obtain ⟨D, hD⟩ := Option.isSome_iff_exists.1 hs
    exact ⟨_, ex_convert h1 (run_convert_int hD hd), rep_int.2 ⟨by unfold W; rfl, W_in _⟩⟩

/-! Is it nil? -/

/-- A bool that may be true only of an empty list. -/
def nilB {α : Type} (l : List α) : SPred := ⟨fun _ v _ => ∃ b, v = .bool b ∧ (b = true → l = []), fun _ _ _ _ _ _ _ h => h⟩
open Classical in
/-- What both ways come to, where it can't be told whether a list is nil. -/
noncomputable def nilc {α β : Type} (l : List α) (x y : Option β) : Option β := if l = [] then (if x = y then y else none) else y
theorem nilc_t {α β : Type} {l : List α} {x y : Option β} {r : β} (h : nilc l x y = some r) (hl : l = []) : x = some r := by
  unfold nilc at h
  rw [if_pos hl] at h
  by_cases e : x = y
  · rw [if_pos e] at h; rw [e]; exact h
  · rw [if_neg e] at h; cases h
theorem nilc_f {α β : Type} {l : List α} {x y : Option β} {r : β} (h : nilc l x y = some r) : y = some r := by
  unfold nilc at h
  by_cases hl : l = []
  · rw [if_pos hl] at h
    by_cases e : x = y
    · rw [if_pos e] at h; exact h
    · rw [if_neg e] at h; cases h
  · rw [if_neg hl] at h; exact h
theorem nilc_eq {α β : Type} {l : List α} {x y : Option β} (h : l = [] → x = y) : nilc l x y = y := by
  unfold nilc
  by_cases hl : l = []
  · rw [if_pos hl, if_pos (h hl)]
  · rw [if_neg hl]

theorem run_eqNil {T E : TypeId} {a : Option Addr} {n c : Nat} {w : World} {p q : Operand} (hT : SliceOf P T E) : (do eqGuard .eql T p q (.slice a n c) (.slice none 0 0); binOp .eql T (.slice a n c) (.slice none 0 0) : Sem Value).run P w = .ok (.bool a.isNone) w := by
  have hun : (underlying T).run P w = .ok (.slice E) w := by simp [underlying, show P.underlying T = _ from hT, go_sem]
  have h1 : (Op.equal T (.slice a n c) (.slice none 0 0)).run P w = .ok a.isNone w := by
    unfold Op.equal Op.maxDepth Op.equalIn
    rw [Sem.run_bind, hun]
    simp only [Result.andThen]
    cases a <;> rfl
  rw [Sem.run_bind, show (eqGuard .eql T p q (.slice a n c) (.slice none 0 0)).run P w = .ok () w from rfl]
  simp only [Result.andThen, binOp]
  rw [Sem.run_bind, h1]; rfl
theorem ex_eqNil {ρ : Operand → Value} {T T' E : TypeId} {x y : Operand} {ad : Option Addr} {n c : Nat} {w : World} (hT : SliceOf P T E) (hx : ρ x = .slice ad n c) (hy : ρ y = .slice none 0 0) :
    (execOp ρ ⟨d, .binOp .eql T x y T', ty, pos, after, g⟩).run P w = .ok (.value (.bool ad.isNone)) w := by
  simp only [execOp, hx, hy]
  rw [Sem.run_bind, run_eqNil hT]; rfl
theorem StepOK.eqNil {E : TypeId} {α : Type} [Rep α] {l : List α} (hg : Guard ops g L G) (hT : SliceOf P T E) (hx : Opd L G x (rep l)) :
    StepOK P ops fs ⟨d, .binOp .eql T x (.const (.slice none 0 0)) T', ty, pos, after, g⟩ L B (xr, []) ⟨G, nilB l⟩ [] :=
  .pure hg fun M a w _ hs hG => by
    obtain ⟨ad, cap, hv, _, _, hl⟩ := rep_list.1 (hx.get hs (fun t ht => looksAt_op (by simp [Op.operands, ht])) hG)
    refine ⟨.bool ad.isNone, ex_eqNil hT hv rfl, ad.isNone, rfl, fun h => ?_⟩
    · cases ad with
      | none => exact hl
      | some ad => cases h
theorem Cod.condNil {Q : Exit → Act → World → Prop} {n : Nat} {F : Fr} {t : Nat} {x y : Code} {α : Type} {l : List α} {c : Prop} (hl : look L t = some ⟨c, nilB l⟩) (hc : c)
    (h1 : l = [] → Cod P x Q n F L B) (h2 : Cod P y Q n F L B) : Cod P (.cond (.tmp t) x y) Q n F L B := by
  intro a w hs
  obtain ⟨M, D, hs1⟩ := id hs
  obtain ⟨v, hv, he⟩ := hs1.has t _ hl
  obtain ⟨b, hb, hbl⟩ := he.1 hc
  have hev : a.eval (.tmp t) = .bool b := by rw [Act.eval_tmp hv, hb]
  cases b with
  | true => exact wp_cond_true hev (h1 (hbl rfl) a w hs)
  | false => exact wp_cond_false hev (h2 a w hs)

/-! A box of one's own, made of a value. -/

theorem StepOK.boxO {d T : Nat} {α : Type} [Rep α] {z : α} (hd : Nat.blt d fs = true) (hx : Opd L True x (rep z)) :
    StepOK P ops fs ⟨some d, .box T x, ty, pos, after, none⟩ L B ([], [d]) ⟨True, anyV⟩ [(d, some (cont T z))] := by
  refine .doing fun M D a w hsz hm hs _ => ?_
  obtain ⟨cs, hc, hv⟩ := hx.get hs (fun t ht => looksAt_op (by simp [Op.operands, ht])) trivial
  have hcs : (a.eval x).cells = cs.toArray := by rw [hv]; exact Rep.flat hc
  refine Does.value (ex_box hcs) (.one (fun k => M k ∨ k = w.heap.size) (fun k => k = w.heap.size) (Ext.alloc _ _) (fun k h => .inl h) (fun k h => h.imp id (by omega)) (fun k h => ?_) ⟨fun _ => trivial, fun hf => (hf trivial).elim⟩ ?_ (fun k h => by omega))
  · rw [size_new]
    rcases h with h | h
    · have := hm k h; omega
    · omega
  · rw [val_self (by rw [hsz]; exact Nat.le_of_ble_eq_true hd)]
    refine ⟨w.heap.size, cs, rfl, fun k => Iff.rfl, .inr rfl, ?_, Rep.law (Ext.alloc w _).keeps (fun k h => h.imp id (by omega)) hc⟩
    show (w.heap.push _)[w.heap.size]? = _
    rw [Array.getElem?_push_size]

/-- One that is appended to another: this one stays. -/
theorem StepOK.appendLent {d k k2 : Nat} {s u : Operand} {t E E' : TypeId} {α : Type} [Rep α] {l xs : List α} {sv : Value} (hT : RowOK P t E α) (hd : Nat.blt d fs = true) (hs : RowArg L B s k (rowV E l)) (hu : Opd L True u (isV sv)) (hk2 : lookB B k2 = some (CPred.at sv (rowV E' xs)))
    (hb : l.length + xs.length ≤ 1073741824) (hne : k ≠ k2) (hfl : Flat α) :
    StepOK P ops fs ⟨some d, .call { callee := .builtin .append, args := #[s, u], argTypes := #[t, t] }, ty, pos, after, none⟩ L B ([k, k2], [d, k]) ⟨True, anyV⟩ [(d, some (rowV E (l ++ xs))), (k, none)] := by
  refine .doing fun M D a w hsz hm hsat hsB => ?_
  obtain ⟨hC, C0, hl⟩ := hs.get hsat (fun t ht => looksAt_op (call_ops (by simp [ht]))) hsB (by simp)
  have hX := hsB.has k2 (by simp) _ hk2
  have hXv := (rep_raw.1 (hu.get hsat (fun t ht => looksAt_op (call_ops (by simp [ht]))) trivial)).1
  have hX2 : (rep xs).p (fun j => M j ∧ ¬ D k2 j) (a.eval u) w := by rw [hXv]; exact rowV_rep M (D k2) w sv hX hm
  -- where the lent one lies is not written
  have hC2 : (rowV E l).p (fun j => M j ∧ ¬ D k2 j) (D k) (a.eval s) w :=
    (rowV E l).law M _ (D k) _ w w (Keeps.refl _ _) (fun j h => .inl h.1) (fun j hj => ⟨⟨(rowV E l).inM _ _ _ _ hC j hj, fun h2 => hsB.apart k (by simp) k2 (by simp) _ _ hl hk2 hne j hj h2⟩, rfl⟩) hC
  obtain ⟨v, w', M', D', hr, h1, h2, h3, h4, h5, h6⟩ := run_append (P := P) (ty := ty) hT (fun j h => hm j h.1) hC2 hX2 hb
  refine Does.value (ex_append hr) (.pass (fun j => M' j ∨ M j) D' hl h2 (fun j h => .inr h) (fun j h => ?_) (fun j h => ?_) ⟨fun _ => trivial, fun hf => (hf trivial).elim⟩ ?_ h6)
  · rcases h with h | h
    · exact (h4 j h).imp (fun h => h.1) id
    · exact .inl h
  · rcases h with h | h
    · exact h5 j h
    · exact Nat.lt_of_lt_of_le (hm j h) h2.size
  · rw [val_self (by rw [hsz]; exact Nat.le_of_ble_eq_true hd)]
    obtain ⟨ad, cap, e1, e2, e3, e4⟩ := h1
    refine ⟨ad, cap, e1, e2, e3, ?_⟩
    cases ad with
    | none => exact e4
    | some ad =>
      obtain ⟨f1, f2, f3, pre, cs, rest, f4, f5, f6, f7⟩ := e4
      refine ⟨f1, f2, .inl f3, pre, cs, rest, f4, f5, ?_, f7⟩
      have key : ∀ (ys : List α) (cs : List Value), Elems M' w' ys cs → Elems (fun j => M' j ∨ M j) w' ys cs := by
        intro ys
        induction ys with
        | nil => intro cs h; exact h
        | cons y ys ih => rintro cs ⟨c, r, h, hc, hr⟩; exact ⟨c, r, h, hfl.cells hc, ih r hr⟩
      exact key _ _ f6

end
end Go.DB
