/-
  Plain rules on the program's operations, code and memory (texts laid together).
-/
import Derived.Test.YtlbbcehlhbaggaaGreatDoorCoreC
import Derived.Laws.Strings
import Derived.Laws.Strings2
import Derived.Scope
import Derived.Laws.IdiomStrings
/-
  Strings: what they stand for, and the operations on them.
-/
set_option linter.unusedVariables false
set_option linter.unusedSimpArgs false
namespace Go.DB
open Go Go.RowKit

/-- A string: its bytes. -/
structure Str where
  b : List UInt8
deriving DecidableEq, Inhabited

def strV (x : Str) : Value := .string ⟨x.b.toArray⟩
instance : Rep Str where
  sz := 1
  agg := false
  cells := fun _ x cs _ => cs = [strV x] ∧ x.b.length ≤ 9223372036854775807
  len := fun h => by rw [h.1]; rfl
  pos := by decide
  flat := fun h => by rw [h.1]; rfl
  plain := fun h c hc => by rw [h.1] at hc; simp at hc; rw [hc]; rfl
  law := fun _ _ h => h
def Str.nil : Str := ⟨[]⟩
instance : Flat Str := ⟨fun h => h⟩
theorem str_zero {M : MSet} {w : World} : Rep.cells M Str.nil [.string ByteArray.empty] w := ⟨rfl, by decide⟩
theorem rep_str {x : Str} {M : MSet} {v : Value} {w : World} : (rep x).p M v w ↔ v = strV x ∧ x.b.length ≤ 9223372036854775807 := by
  constructor
  · rintro ⟨cs, ⟨h, hi⟩, hv⟩; subst h; exact ⟨hv, hi⟩
  · rintro ⟨h, hi⟩; exact ⟨[strV x], ⟨rfl, hi⟩, h⟩
instance : Fits Str := ⟨fun x => x.b.length ≤ 9223372036854775807⟩
instance : FitsRep Str := ⟨fun h => h.2⟩

section
variable {P : Program} {ops : Array Oper} {fs : Nat} {L : Slots} {B : Owns} {G : Prop}
variable {d : Option Tmp} {ty : TypeId} {pos : String} {after : Array Edge} {g : Option (Nat × Bool)} {xr : List Nat}

theorem Opd.str {l : List UInt8} (h : Nat.ble l.length 9223372036854775807 = true) : Opd L G (.const (.string ⟨l.toArray⟩)) (rep (⟨l⟩ : Str)) := fun _ _ => rep_str.2 ⟨rfl, Nat.le_of_ble_eq_true h⟩

theorem eqAt_str {T : Nat} (hT : P.underlying T = some .string) : EqAt P T Str := by
  intro M w p q x y v u hv hu
  obtain ⟨rfl, _⟩ := rep_str.1 hv
  obtain ⟨rfl, _⟩ := rep_str.1 hu
  have hb : (x.b == y.b) = decide (x = y) := by
    cases x with | mk a => cases y with | mk c => by_cases h : a = c <;> simp [h]
  constructor
  · rw [Sem.run_bind, show (eqGuard .eql T p q (strV x) (strV y)).run P w = .ok () w from rfl]
    simp only [Result.andThen, strV, binOp_string_eql, ByteArray.toList_mk, hb]; rfl
  · rw [Sem.run_bind, show (eqGuard .neq T p q (strV x) (strV y)).run P w = .ok () w from rfl]
    simp only [Result.andThen, strV, binOp_string_neq, ByteArray.toList_mk, hb]; rfl

theorem ex_binS {ρ : Operand → Value} {op : BinOp} {x y : Operand} {T T' : TypeId} {m n : Str} {v : Value} {w : World} (hx : ρ x = strV m) (hy : ρ y = strV n)
    (hop : (match op with | .eql | .neq => false | _ => true) = true) (hv : (binOp op T (strV m) (strV n)).run P w = .ok v w) :
    (execOp ρ ⟨d, .binOp op T x y T', ty, pos, after, g⟩).run P w = .ok (.value v) w := by
  have hgd : eqGuard op T x y (strV m) (strV n) = Pure.pure () := by
    unfold eqGuard; cases op <;> first | rfl | cases hop
  simp only [execOp, hx, hy, hgd]
  generalize binOp op T (strV m) (strV n) = s at *
  simp [go_sem, hv]
theorem StepOK.addStr {x y : Operand} {T T' : TypeId} {m n : Str} (hg : Guard ops g L G) (hx : Opd L G x (rep m)) (hy : Opd L G y (rep n)) (hn : G → ((m.b.length : Int) + n.b.length ≤ 9223372036854775807)) :
    StepOK P ops fs ⟨d, .binOp .add T x y T', ty, pos, after, g⟩ L B (xr, []) ⟨G, rep (⟨m.b ++ n.b⟩ : Str)⟩ [] :=
  .pure hg fun M a w _ hs hG => by
    obtain ⟨h1, _⟩ := rep_str.1 (hx.get hs (fun t ht => looksAt_op (by simp [Op.operands, ht])) hG)
    obtain ⟨h2, _⟩ := rep_str.1 (hy.get hs (fun t ht => looksAt_op (by simp [Op.operands, ht])) hG)
    have hle := hn hG
    refine ⟨_, ex_binS h1 h2 rfl (v := strV ⟨m.b ++ n.b⟩) ?_, rep_str.2 ⟨rfl, by simp only [List.length_append]; omega⟩⟩
    have hs1 : (ByteArray.mk m.b.toArray).size = m.b.length := rfl
    have hs2 : (ByteArray.mk n.b.toArray).size = n.b.length := rfl
    have hap : (ByteArray.mk m.b.toArray) ++ (ByteArray.mk n.b.toArray) = ByteArray.mk (m.b ++ n.b).toArray := by
      apply ByteArray.ext
      simp
    have hmax : IntKind.i64.max = 9223372036854775807 := rfl
    simp only [strV, binOp_string_add, Op.stringOp, hs1, hs2, hap, hmax]
    rw [if_neg (by push_cast; omega)]; rfl

theorem ex_lenS {ρ : Operand → Value} {x : Operand} {T : Nat} {m : Str} {w : World} (hT : P.underlying T = some .string) (hx : ρ x = strV m) :
    (execOp ρ ⟨d, .call { callee := .builtin .len, args := #[x], argTypes := #[T] }, ty, pos, after, g⟩).run P w = .ok (.value (.int .i64 m.b.length)) w := by
  have hun : (underlying T).run P w = .ok .string w := by simp [underlying, hT, go_sem]
  simp only [execOp, resolve, invoke, builtin, Builtin.len_, Array.map]
  simp only [strV] at hx
  generalize hb : (ByteArray.mk m.b.toArray) = s at hx
  have hs : s.size = m.b.length := by subst hb; rfl
  simp [go_sem, hun, hx, goInt, hs]
theorem StepOK.lenStr {x : Operand} {T : Nat} {m : Str} (hg : Guard ops g L G) (hT : P.underlying T = some .string) (hx : Opd L G x (rep m)) :
    StepOK P ops fs ⟨d, .call { callee := .builtin .len, args := #[x], argTypes := #[T] }, ty, pos, after, g⟩ L B (xr, []) ⟨G, rep (m.b.length : Int)⟩ [] :=
  .pure hg fun M a w _ hs hG => by
    obtain ⟨h1, h2⟩ := rep_str.1 (hx.get hs (fun t ht => looksAt_op (call_ops (by simp [ht]))) hG)
    exact ⟨_, ex_lenS hT h1, rep_int.2 ⟨rfl, by unfold InI; omega⟩⟩
theorem StepOK.indexStr {x i : Operand} {T : Nat} {m : Str} {k : Int} (hg : Guard ops g L G) (hT : P.underlying T = some .string) (hx : Opd L G x (rep m)) (hi : Opd L G i (rep k)) (hk : G → inR m.b k) :
    StepOK P ops fs ⟨d, .index T x i, ty, pos, after, g⟩ L B (xr, []) ⟨G, rep (⟨((gx m.b k).toNat : Int)⟩ : KI .u8)⟩ [] :=
  .pure hg fun M a w _ hs hG => by
    obtain ⟨h1, _⟩ := rep_str.1 (hx.get hs (fun t ht => looksAt_op (by simp [Op.operands, ht])) hG)
    obtain ⟨h2, _⟩ := rep_int.1 (hi.get hs (fun t ht => looksAt_op (by simp [Op.operands, ht])) hG)
    obtain ⟨k0, k1⟩ := hk hG
    have hun : (underlying T).run P w = .ok .string w := by simp [underlying, hT, go_sem]
    have hlt : k.toNat < m.b.length := by omega
    have hget : (ByteArray.mk m.b.toArray)[k.toNat]? = some m.b[k.toNat] := by
      rw [getElem?_pos (ByteArray.mk m.b.toArray) k.toNat (by show k.toNat < m.b.toArray.size; simpa using hlt)]
      rfl
    have hgx : gx m.b k = m.b[k.toNat] := by simp [gx, hlt]
    refine ⟨.int .u8 ((gx m.b k).toNat : Int), ?_, ?_⟩
    · simp only [execOp, h1, h2, Instr.index, asIntOf, Sem.run_bind, hun, Result.andThen, Sem.run_pure, strV]
      simp only [k0, if_true, hget, hgx, go_sem]
      rfl
    · exact rep_ki.2 rfl
theorem StepOK.sliceStr {x : Operand} {lo hi : Option Operand} {T : Nat} {m : Str} {i j : Int} (hg : Guard ops g L G) (hT : P.underlying T = some .string) (hx : Opd L G x (rep m))
    (hlo : match lo with | some o => Opd L G o (rep i) | none => i = 0) (hhi : match hi with | some o => Opd L G o (rep j) | none => j = m.b.length) (hb : G → segR m.b.length i j) :
    StepOK P ops fs ⟨d, .slice T x lo hi none, ty, pos, after, g⟩ L B (xr, []) ⟨G, rep (⟨seg m.b i j⟩ : Str)⟩ [] :=
  .pure hg fun M a w _ hs hG => by
    obtain ⟨h1, hbd⟩ := rep_str.1 (hx.get hs (fun t ht => looksAt_op (by simp [Op.operands, ht])) hG)
    obtain ⟨h0, h2, h3⟩ := hb hG
    have hlov : (lo.map a.eval = none ∧ i = 0) ∨ lo.map a.eval = some (.int .i64 i) := by
      cases lo with
      | none => exact .inl ⟨rfl, hlo⟩
      | some o => exact .inr (by rw [Option.map_some, (rep_int.1 (Opd.get hlo hs (fun t ht => looksAt_op (by simp [Op.operands, ht])) hG)).1])
    have hhiv : (hi.map a.eval = none ∧ j = m.b.length) ∨ hi.map a.eval = some (.int .i64 j) := by
      cases hi with
      | none => exact .inl ⟨rfl, hhi⟩
      | some o => exact .inr (by rw [Option.map_some, (rep_int.1 (Opd.get hhi hs (fun t ht => looksAt_op (by simp [Op.operands, ht])) hG)).1])
    have hsz : (ByteArray.mk m.b.toArray).size = m.b.length := rfl
    have hun : (underlying T).run P w = .ok .string w := by simp [underlying, hT, go_sem]
    have hbo : (Instr.sliceBounds false m.b.length m.b.length (lo.map a.eval) (hi.map a.eval) none).run P w = .ok (i.toNat, j.toNat, m.b.length) w := by
      have hj : 0 ≤ j ∧ j ≤ (m.b.length : Int) := ⟨by omega, h3⟩
      have hi' : 0 ≤ i ∧ i ≤ ((j.toNat : Nat) : Int) := ⟨h0, by omega⟩
      rcases hlov with ⟨e1, e2⟩ | e1 <;> rcases hhiv with ⟨e3, e4⟩ | e3 <;> rw [e1, e3] <;> simp [Instr.sliceBounds, Instr.sliceBound, asIntOf, hj, hi', go_sem]
      · exact ⟨by omega, by omega⟩
      · omega
      · subst e4; simp at hi'; simp [hi', go_sem]
      · intro hc; omega
    refine ⟨strV ⟨seg m.b i j⟩, ?_, rep_str.2 ⟨rfl, by unfold seg; simp; omega⟩⟩
    have hex : (ByteArray.mk m.b.toArray).extract i.toNat j.toNat = ByteArray.mk (seg m.b i j).toArray := by
      rw [ByteArray.extract_mk]
      unfold seg
      rw [List.drop_take]
    simp only [execOp, h1, strV]
    have hr : (Instr.slice T (.string (ByteArray.mk m.b.toArray)) (lo.map a.eval) (hi.map a.eval) none).run P w = .ok (.string (ByteArray.mk (seg m.b i j).toArray)) w := by
      rw [← hex]
      unfold Instr.slice
      rw [Sem.run_bind, hun]
      simp only [Result.andThen, Option.isSome_none, Bool.false_eq_true, if_false, hsz]
      rw [Sem.run_bind]
      simp only [Sem.run_pure, Result.andThen]
      rw [hbo]
    have hr2 : (Instr.sliceAt T (.string (ByteArray.mk m.b.toArray)) (lo.map a.eval) (hi.map a.eval) none).run P w = .ok (.string (ByteArray.mk (seg m.b i j).toArray)) w := by
      unfold Instr.sliceAt
      rw [Sem.run_bind, hun]
      exact hr
    rw [Sem.run_bind]
    simp only [Option.map_none]
    rw [hr2]
    rfl
end
end Go.DB

/-
  Ranges over strings: iterators of one's own.
-/
set_option linter.unusedVariables false
set_option linter.unusedSimpArgs false
namespace Go.DB
open Go Go.RowKit

/-- An iterator over a string, at a place. -/
def iterV (s : Str) (pos : Nat) : CPred where
  p := fun M D v w => ∃ m, v = .pointer (some ⟨m, 0, none⟩) ∧ (∀ k, D k ↔ k = m) ∧ M m ∧ w.heap[m]? = some (.stringIter (ByteArray.mk s.b.toArray) pos) ∧ s.b.length ≤ 9223372036854775807
  inM := fun M D v w ⟨m, hv, hD, hM, _, _⟩ k hk => (hD k).1 hk ▸ hM
  law := fun M M' D v w w' hk hm hown ⟨m, hv, hD, hM, hh, hb⟩ => by
    obtain ⟨h1, h2⟩ := hown m ((hD m).2 rfl)
    exact ⟨m, hv, hD, h1, by rw [h2]; exact hh, hb⟩

section
variable {P : Program} {ops : Array Oper} {fs : Nat} {L : Slots} {B : Owns} {G : Prop}
variable {ty : TypeId} {pos : String} {after : Array Edge} {g : Option (Nat × Bool)} {xr : List Nat}

/-- What a string holds at a place: a code point, and how many bytes it has. -/
def Str.at (s : Str) (pos : Nat) : Nat × Nat := Utf8.decode (ByteArray.mk s.b.toArray) pos
def Str.next (s : Str) (pos : Nat) : Nat := if pos < s.b.length then pos + (s.at pos).2 else pos
def nextV (s : Str) (pos : Nat) : Value := if pos < s.b.length then .tuple #[.bool true, goInt pos, .int .i32 (s.at pos).1] else .tuple #[.bool false]

/-- What `next` gives. -/
def nextS (s : Str) (pos : Nat) : SPred where
  p := fun _ v _ => v = nextV s pos ∧ s.b.length ≤ 9223372036854775807
  law := fun _ _ _ _ _ _ _ h => h
end

/-! Code with labels through which the run goes straight. -/
section
variable {P : Program} {n : Nat} {F : Fr} {L : Slots} {B : Owns} {Q : Exit → Act → World → Prop}
end
end Go.DB

/-
  Parts of rows that are cleared.
-/
set_option linter.unusedVariables false
set_option linter.unusedSimpArgs false
namespace Go.DB
open Go Go.RowKit

section
variable {P : Program} {ops : Array Oper} {fs : Nat} {L : Slots} {B : Owns} {G : Prop}
variable {ty : TypeId} {pos : String} {after : Array Edge}

theorem run_zeroOf {E : Nat} {α : Type} [Rep α] {z : α} (hz : ZeroOf P E z) (w : World) : ∃ zs, (zeroValue E).run P w = .ok (mkv (Rep.agg α) zs) w ∧ ∀ (M : MSet) (w : World), Rep.cells M z zs w := by
  obtain ⟨zs, h1, h2⟩ := hz
  obtain ⟨i, hi, h1⟩ := Option.bind_eq_some_iff.1 h1
  refine ⟨zs, ?_, h2⟩
  simp [zeroValue, typeInfo, hi, h1, go_sem]

end
end Go.DB

/-
  Conversions between integers, strings and rows of code points.
-/
set_option linter.unusedVariables false
set_option linter.unusedSimpArgs false
namespace Go.DB
open Go Go.RowKit

section
variable {P : Program} {ops : Array Oper} {fs : Nat} {L : Slots} {B : Owns} {G : Prop}
variable {d : Option Tmp} {ty : TypeId} {pos : String} {after : Array Edge} {g : Option (Nat × Bool)} {xr : List Nat}

/-- A code point's bytes. -/
def encS (n : Int) : Str := ⟨(Utf8.encode n).data.toList⟩
/-- The code points of a string. -/
def runesFromS (s : Str) : Nat → Nat → List (KI .i32)
  | 0, _ => []
  | k + 1, p => if p < s.b.length then ⟨((s.at p).1 : Int)⟩ :: runesFromS s k (s.next p) else []
def runesL (s : Str) : List (KI .i32) := runesFromS s s.b.length 0
theorem ex_convertW {ρ : Operand → Value} {x : Operand} {src dst : TypeId} {v u : Value} {w w' : World} (hx : ρ x = v) (h : (convert src dst v).run P w = .ok u w') :
    (execOp ρ ⟨d, .convert src dst x, ty, pos, after, g⟩).run P w = .ok (.value u) w' := by
  simp only [execOp, hx]
  generalize convert src dst v = s at *
  simp [go_sem, h]
end
end Go.DB

/-
  Parts of struct values; comparison of structs of whatever parts.
-/
set_option linter.unusedVariables false
set_option linter.unusedSimpArgs false
namespace Go.DB
open Go Go.RowKit

section
variable {P : Program} {ops : Array Oper} {fs : Nat} {L : Slots} {B : Owns} {G : Prop}
variable {d : Option Tmp} {ty : TypeId} {pos : String} {after : Array Edge} {g : Option (Nat × Bool)} {xr : List Nat}

theorem run_isAgg {T : Nat} {α : Type} [Rep α] (hT : Ty P T α) (w : World) : (isAgg T).run P w = .ok (Rep.agg α) w := by
  obtain ⟨dd, hd, hm⟩ := hT.agg
  rw [← hm]
  cases dd <;> simp [isAgg, underlying, hd, go_sem]

/-- A part of a struct's cells. -/
theorem run_partAt {T off : Nat} {α β : Type} [Rep α] [Rep β] {proj : α → β} (hT : Ty P T β) (hF : HasField α β off proj) {M : MSet} {x : α} {cs : List Value} {w : World} (hc : Rep.cells M x cs w) :
    ∃ v, (part T cs.toArray off).run P w = .ok v w ∧ (rep (proj x)).p M v w := by
  obtain ⟨hle, hp⟩ := hF
  obtain ⟨f, hf, hj⟩ := hp M x cs w hc
  have hl := Rep.len hf
  have hlc := Rep.len hc
  have hpos := Rep.pos (α := β)
  refine ⟨mkv (Rep.agg β) f, ?_, f, hf, rfl⟩
  obtain ⟨i, hi, hsize⟩ := Option.map_eq_some_iff.1 hT.size
  have hs : (sizeOf T).run P w = .ok (Rep.sz β) w := by simp [sizeOf, typeInfo, hi, hsize, go_sem]
  unfold part
  rw [Sem.run_bind, run_isAgg hT]
  simp only [Result.andThen]
  cases hag : Rep.agg β with
  | true =>
    simp only [if_true]
    rw [Sem.run_bind, hs]
    simp only [Result.andThen, mkv, Sem.run_pure]
    congr 2
    refine Array.ext_getElem? fun j => ?_
    simp only [List.extract_toArray, List.getElem?_toArray]
    by_cases hjl : j < Rep.sz β
    · rw [hj j hjl]
      simp only [List.extract, List.getElem?_take, List.getElem?_drop]
      rw [if_pos (by omega)]
    · rw [List.getElem?_eq_none (by simp only [List.extract, List.length_take, List.length_drop]; omega), List.getElem?_eq_none (by omega)]
  | false =>
    simp only [Bool.false_eq_true, if_false]
    have h0 := hj 0 hpos
    match f, hl with
    | c :: f', _ =>
      simp only [List.getElem?_cons_zero, Nat.add_zero] at h0
      have : cs.toArray[off]? = some c := by simpa using h0.symm
      rw [this]
      simp [mkv, go_sem]
    | [], hl => simp at hl; omega

def FieldTy (P : Program) (S f off T : Nat) : Prop := ∃ fs fd, P.underlying S = some (.struct fs) ∧ fs[f]? = some fd ∧ fd.offset = off ∧ fd.type = T

/-! Comparison, within d rounds. -/

def EqIn (P : Program) (T : Nat) (α : Type) [Rep α] [DecidableEq α] (d : Nat) : Prop :=
  ∀ (k : Nat) (M : MSet) (w : World) (x y : α) (v u : Value), (rep x).p M v w → (rep y).p M u w → (Op.equalIn (k + d) T v u).run P w = .ok (decide (x = y)) w

theorem eqIn_int {T : Nat} {kd : IntKind} (hT : P.underlying T = some (.int kd)) : EqIn P T Int 1 := by
  intro k M w x y v u hv hu
  rw [(rep_int.1 hv).1, (rep_int.1 hu).1, run_equalIn_int k hT]
  congr 1
theorem eqIn_bool {T : Nat} (hT : P.underlying T = some .bool) : EqIn P T Bool 1 := by
  intro k M w x y v u hv hu
  rw [rep_bool.1 hv, rep_bool.1 hu, run_equalIn_bool k hT]
  cases x <;> cases y <;> rfl
theorem eqIn_str {T : Nat} (hT : P.underlying T = some .string) : EqIn P T Str 1 := by
  intro k M w x y v u hv hu
  rw [(rep_str.1 hv).1, (rep_str.1 hu).1]
  have : (Op.equalIn (k + 1) T (strV x) (strV y)).run P w = .ok ((ByteArray.mk x.b.toArray) == (ByteArray.mk y.b.toArray)) w := by
    simp [strV, Op.equalIn, underlying, hT, go_sem]
  rw [this]
  congr 1
  rw [beq_toListBytes]
  cases x with | mk a => cases y with | mk c => by_cases h : a = c <;> simp [h]

theorem eqIn_more {T d1 d2 : Nat} {α : Type} [Rep α] [DecidableEq α] (h : EqIn P T α d1) (hle : d1 ≤ d2) : EqIn P T α d2 := by
  intro k M w x y v u hv hu
  have := h (k + d2 - d1) M w x y v u hv hu
  rwa [show k + d2 - d1 + d1 = k + d2 by omega] at this

/-- A struct's fields, compared one by one. -/
inductive FQ (P : Program) (dd : Nat) (α : Type) [Rep α] : List Field → (α → α → Bool) → Prop
  | nil : FQ P dd α [] (fun _ _ => true)
  | cons {f : Field} {fs : List Field} {β : Type} [Rep β] [DecidableEq β] {proj : α → β} {r : α → α → Bool} : (f.name == "_") = false → HasField α β f.offset proj → Ty P f.type β → EqIn P f.type β dd → FQ P dd α fs r → FQ P dd α (f :: fs) (fun x y => decide (proj x = proj y) && r x y)

theorem FQ.run {dd : Nat} {α : Type} [Rep α] {fl : List Field} {r : α → α → Bool} (h : FQ P dd α fl r) {k : Nat} {M : MSet} {w : World} {x y : α} {xs ys : List Value} (hx : Rep.cells M x xs w) (hy : Rep.cells M y ys w) :
    (Op.eqFields (k + dd) xs.toArray ys.toArray fl).run P w = .ok (r x y) w := by
  induction h with
  | nil => simp [Op.eqFields, go_sem]
  | @cons f fl β _ _ proj r h1 h2 h3 h4 _ ih =>
    have hne : f.name ≠ "_" := by intro e; rw [e] at h1; cases h1
    obtain ⟨v, hv, hv2⟩ := run_partAt (P := P) h3 h2 hx
    obtain ⟨u, hu, hu2⟩ := run_partAt (P := P) h3 h2 hy
    rw [Op.eqFields, if_pos hne, Sem.run_bind, hv]
    simp only [Result.andThen]
    rw [Sem.run_bind, hu]
    simp only [Result.andThen]
    rw [Sem.run_bind, h4 k M w _ _ _ _ hv2 hu2]
    simp only [Result.andThen]
    by_cases he : proj x = proj y
    · simp only [he, decide_true, Bool.not_true, Bool.false_eq_true, if_false, Bool.true_and]
      exact ih
    · simp [he, go_sem]

theorem eqIn_struct {T dd : Nat} {α : Type} [Rep α] [DecidableEq α] {fl : Array Field} {r : α → α → Bool} (hT : P.underlying T = some (.struct fl)) (hst : P.stoodInHeld T = false) (hq : FQ P dd α fl.toList r) (hr : ∀ x y, r x y = decide (x = y)) (hag : Rep.agg α = true) : EqIn P T α (dd + 1) := by
  intro k M w x y v u hv hu
  obtain ⟨xs, hx, rfl⟩ := hv
  obtain ⟨ys, hy, rfl⟩ := hu
  rw [hag]
  have hfo : P.fieldsOf T = fl := by unfold Program.fieldsOf; rw [hT]
  show (Op.equalIn (k + dd + 1) T (.agg xs.toArray) (.agg ys.toArray)).run P w = _
  rw [run_equalIn_struct w _ T _ _ (by rw [hfo]; exact hT) hst, hfo, hq.run hx hy, hr]

theorem eqAt_in {T dd : Nat} {α : Type} [Rep α] [DecidableEq α] (h : EqIn P T α dd) (hle : Nat.ble dd 10000 = true) (hgd : P.eqGuardType P.depth T = false) (hag : Rep.agg α = true) : EqAt P T α := by
  intro M w p q x y v u hv hu
  have he : (Op.equal T v u).run P w = .ok (decide (x = y)) w := by
    have := h (10000 - dd) M w x y v u hv hu
    rw [Nat.sub_add_cancel (Nat.le_of_ble_eq_true hle)] at this
    exact this
  obtain ⟨xs, hx, rfl⟩ := hv
  obtain ⟨ys, hy, rfl⟩ := hu
  rw [hag] at *
  have hg : ∀ op, (op = .eql ∨ op = .neq) → (eqGuard op T p q (mkv true xs) (mkv true ys)).run P w = .ok () w := by
    intro op hop
    rcases hop with rfl | rfl <;> simp [mkv, eqGuard, go_sem, hgd]
  constructor
  · rw [Sem.run_bind, hg _ (.inl rfl)]
    simp only [Result.andThen, binOp, mkv] at he ⊢
    rw [Sem.run_bind, he]; rfl
  · rw [Sem.run_bind, hg _ (.inr rfl)]
    simp only [Result.andThen, binOp, mkv] at he ⊢
    rw [Sem.run_bind, he]; rfl
end
end Go.DB

