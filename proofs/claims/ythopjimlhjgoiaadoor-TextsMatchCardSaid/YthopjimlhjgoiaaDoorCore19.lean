/-
  Strings: what they stand for, and the operations on them.
-/
import Derived.Test.YthopjimlhjgoiaaDoorCore18
import Derived.Laws.Strings
import Derived.Laws.Strings2
set_option linter.unusedVariables false
set_option linter.unusedSimpArgs false
namespace Go.DB
open Go Go.RowKit

/-- A string: its bytes. -/
structure Str where
  b : List UInt8
deriving DecidableEq, Inhabited

def strV (x : Str) : Value := .string ⟨x.b.toArray⟩
instance : Rep Str where
  sz := 1
  agg := false
  cells := fun _ x cs _ => cs = [strV x] ∧ x.b.length ≤ 9223372036854775807
  len := fun h => by rw [h.1]; rfl
  pos := by decide
  flat := fun h => by rw [h.1]; rfl
  plain := fun h c hc => by rw [h.1] at hc; simp at hc; rw [hc]; rfl
  law := fun _ _ h => h
def Str.nil : Str := ⟨[]⟩
instance : Flat Str := ⟨fun h => h⟩
theorem str_zero {M : MSet} {w : World} : Rep.cells M Str.nil [.string ByteArray.empty] w := ⟨rfl, by decide⟩
theorem rep_str {x : Str} {M : MSet} {v : Value} {w : World} : (rep x).p M v w ↔ v = strV x ∧ x.b.length ≤ 9223372036854775807 := by
  constructor
  · rintro ⟨cs, ⟨h, hi⟩, hv⟩; subst h; exact ⟨hv, hi⟩
  · rintro ⟨h, hi⟩; exact ⟨[strV x], ⟨rfl, hi⟩, h⟩
instance : Fits Str := ⟨fun x => x.b.length ≤ 9223372036854775807⟩
instance : FitsRep Str := ⟨fun h => h.2⟩

section
variable {P : Program} {ops : Array Oper} {fs : Nat} {L : Slots} {B : Owns} {G : Prop}
variable {d : Option Tmp} {ty : TypeId} {pos : String} {after : Array Edge} {g : Option (Nat × Bool)} {xr : List Nat}

theorem Opd.str {l : List UInt8} (h : Nat.ble l.length 9223372036854775807 = true) : Opd L G (.const (.string ⟨l.toArray⟩)) (rep (⟨l⟩ : Str)) := fun _ _ => rep_str.2 ⟨rfl, Nat.le_of_ble_eq_true h⟩

theorem eqAt_str {T : Nat} (hT : P.underlying T = some .string) : EqAt P T Str := by
  intro M w p q x y v u hv hu
  obtain ⟨rfl, _⟩ := rep_str.1 hv
  obtain ⟨rfl, _⟩ := rep_str.1 hu
  have hb : (x.b == y.b) = decide (x = y) := by
    cases x with | mk a => cases y with | mk c => by_cases h : a = c <;> simp [h]
  constructor
  · rw [Sem.run_bind, show (eqGuard .eql T p q (strV x) (strV y)).run P w = .ok () w from rfl]
    simp only [Result.andThen, strV, binOp_string_eql, ByteArray.toList_mk, hb]; rfl
  · rw [Sem.run_bind, show (eqGuard .neq T p q (strV x) (strV y)).run P w = .ok () w from rfl]
    simp only [Result.andThen, strV, binOp_string_neq, ByteArray.toList_mk, hb]; rfl

theorem ex_binS {ρ : Operand → Value} {op : BinOp} {x y : Operand} {T T' : TypeId} {m n : Str} {v : Value} {w : World} (hx : ρ x = strV m) (hy : ρ y = strV n)
    (hop : (match op with | .eql | .neq => false | _ => true) = true) (hv : (binOp op T (strV m) (strV n)).run P w = .ok v w) :
    (execOp ρ ⟨d, .binOp op T x y T', ty, pos, after, g⟩).run P w = .ok (.value v) w := by
  have hgd : eqGuard op T x y (strV m) (strV n) = Pure.pure () := by
    unfold eqGuard; cases op <;> first | rfl | cases hop
  simp only [execOp, hx, hy, hgd]
  generalize binOp op T (strV m) (strV n) = s at *
  simp [go_sem, hv]
theorem StepOK.ltStr {x y : Operand} {T T' : TypeId} {m n : Str} (hg : Guard ops g L G) (hx : Opd L G x (rep m)) (hy : Opd L G y (rep n)) :
    StepOK P ops fs ⟨d, .binOp .lss T x y T', ty, pos, after, g⟩ L B (xr, []) ⟨G, rep (Op.bytesLess m.b n.b)⟩ [] :=
  .pure hg fun M a w _ hs hG => by
    obtain ⟨h1, _⟩ := rep_str.1 (hx.get hs (fun t ht => looksAt_op (by simp [Op.operands, ht])) hG)
    obtain ⟨h2, _⟩ := rep_str.1 (hy.get hs (fun t ht => looksAt_op (by simp [Op.operands, ht])) hG)
    refine ⟨_, ex_binS h1 h2 rfl (v := .bool (Op.bytesLess m.b n.b)) ?_, rep_bool.2 rfl⟩
    simp only [strV, binOp_string_lss, ByteArray.toList_mk]; rfl
theorem StepOK.addStr {x y : Operand} {T T' : TypeId} {m n : Str} (hg : Guard ops g L G) (hx : Opd L G x (rep m)) (hy : Opd L G y (rep n)) (hn : G → ((m.b.length : Int) + n.b.length ≤ 9223372036854775807)) :
    StepOK P ops fs ⟨d, .binOp .add T x y T', ty, pos, after, g⟩ L B (xr, []) ⟨G, rep (⟨m.b ++ n.b⟩ : Str)⟩ [] :=
  .pure hg fun M a w _ hs hG => by
    obtain ⟨h1, _⟩ := rep_str.1 (hx.get hs (fun t ht => looksAt_op (by simp [Op.operands, ht])) hG)
    obtain ⟨h2, _⟩ := rep_str.1 (hy.get hs (fun t ht => looksAt_op (by simp [Op.operands, ht])) hG)
    have hle := hn hG
    refine ⟨_, ex_binS h1 h2 rfl (v := strV ⟨m.b ++ n.b⟩) ?_, rep_str.2 ⟨rfl, by simp only [List.length_append]; omega⟩⟩
    have hs1 : (ByteArray.mk m.b.toArray).size = m.b.length := rfl
    have hs2 : (ByteArray.mk n.b.toArray).size = n.b.length := rfl
    have hap : (ByteArray.mk m.b.toArray) ++ (ByteArray.mk n.b.toArray) = ByteArray.mk (m.b ++ n.b).toArray := by
      apply ByteArray.ext
      simp
    have hmax : IntKind.i64.max = 9223372036854775807 := rfl
    simp only [strV, binOp_string_add, Op.stringOp, hs1, hs2, hap, hmax]
    rw [if_neg (by push_cast; omega)]; rfl

theorem ex_lenS {ρ : Operand → Value} {x : Operand} {T : Nat} {m : Str} {w : World} (hT : P.underlying T = some .string) (hx : ρ x = strV m) :
    (execOp ρ ⟨d, .call { callee := .builtin .len, args := #[x], argTypes := #[T] }, ty, pos, after, g⟩).run P w = .ok (.value (.int .i64 m.b.length)) w := by
  have hun : (underlying T).run P w = .ok .string w := by simp [underlying, hT, go_sem]
  simp only [execOp, resolve, invoke, builtin, Builtin.len_, Array.map]
  simp only [strV] at hx
  generalize hb : (ByteArray.mk m.b.toArray) = s at hx
  have hs : s.size = m.b.length := by subst hb; rfl
  simp [go_sem, hun, hx, goInt, hs]
theorem StepOK.lenStr {x : Operand} {T : Nat} {m : Str} (hg : Guard ops g L G) (hT : P.underlying T = some .string) (hx : Opd L G x (rep m)) :
    StepOK P ops fs ⟨d, .call { callee := .builtin .len, args := #[x], argTypes := #[T] }, ty, pos, after, g⟩ L B (xr, []) ⟨G, rep (m.b.length : Int)⟩ [] :=
  .pure hg fun M a w _ hs hG => by
    obtain ⟨h1, h2⟩ := rep_str.1 (hx.get hs (fun t ht => looksAt_op (call_ops (by simp [ht]))) hG)
    exact ⟨_, ex_lenS hT h1, rep_int.2 ⟨rfl, by unfold InI; omega⟩⟩
theorem StepOK.indexStr {x i : Operand} {T : Nat} {m : Str} {k : Int} (hg : Guard ops g L G) (hT : P.underlying T = some .string) (hx : Opd L G x (rep m)) (hi : Opd L G i (rep k)) (hk : G → inR m.b k) :
    StepOK P ops fs ⟨d, .index T x i, ty, pos, after, g⟩ L B (xr, []) ⟨G, rep (⟨((gx m.b k).toNat : Int)⟩ : KI .u8)⟩ [] :=
  .pure hg fun M a w _ hs hG => by
    obtain ⟨h1, _⟩ := rep_str.1 (hx.get hs (fun t ht => looksAt_op (by simp [Op.operands, ht])) hG)
    obtain ⟨h2, _⟩ := rep_int.1 (hi.get hs (fun t ht => looksAt_op (by simp [Op.operands, ht])) hG)
    obtain ⟨k0, k1⟩ := hk hG
    have hun : (underlying T).run P w = .ok .string w := by simp [underlying, hT, go_sem]
    have hlt : k.toNat < m.b.length := by omega
    have hget : (ByteArray.mk m.b.toArray)[k.toNat]? = some m.b[k.toNat] := by
      rw [getElem?_pos (ByteArray.mk m.b.toArray) k.toNat (by show k.toNat < m.b.toArray.size; simpa using hlt)]
      rfl
    have hgx : gx m.b k = m.b[k.toNat] := by simp [gx, hlt]
    refine ⟨.int .u8 ((gx m.b k).toNat : Int), ?_, ?_⟩
    · simp only [execOp, h1, h2, Instr.index, asIntOf, Sem.run_bind, hun, Result.andThen, Sem.run_pure, strV]
      simp only [k0, if_true, hget, hgx, go_sem]
      rfl
    · exact rep_ki.2 rfl
theorem StepOK.sliceStr {x : Operand} {lo hi : Option Operand} {T : Nat} {m : Str} {i j : Int} (hg : Guard ops g L G) (hT : P.underlying T = some .string) (hx : Opd L G x (rep m))
    (hlo : match lo with | some o => Opd L G o (rep i) | none => i = 0) (hhi : match hi with | some o => Opd L G o (rep j) | none => j = m.b.length) (hb : G → segR m.b.length i j) :
    StepOK P ops fs ⟨d, .slice T x lo hi none, ty, pos, after, g⟩ L B (xr, []) ⟨G, rep (⟨seg m.b i j⟩ : Str)⟩ [] :=
  .pure hg fun M a w _ hs hG => by
    obtain ⟨h1, hbd⟩ := rep_str.1 (hx.get hs (fun t ht => looksAt_op (by simp [Op.operands, ht])) hG)
    obtain ⟨h0, h2, h3⟩ := hb hG
    have hlov : (lo.map a.eval = none ∧ i = 0) ∨ lo.map a.eval = some (.int .i64 i) := by
      cases lo with
      | none => exact .inl ⟨rfl, hlo⟩
      | some o => exact .inr (by rw [Option.map_some, (rep_int.1 (Opd.get hlo hs (fun t ht => looksAt_op (by simp [Op.operands, ht])) hG)).1])
    have hhiv : (hi.map a.eval = none ∧ j = m.b.length) ∨ hi.map a.eval = some (.int .i64 j) := by
      cases hi with
      | none => exact .inl ⟨rfl, hhi⟩
      | some o => exact .inr (by rw [Option.map_some, (rep_int.1 (Opd.get hhi hs (fun t ht => looksAt_op (by simp [Op.operands, ht])) hG)).1])
    have hsz : (ByteArray.mk m.b.toArray).size = m.b.length := rfl
    have hun : (underlying T).run P w = .ok .string w := by simp [underlying, hT, go_sem]
    have hbo : (Instr.sliceBounds false m.b.length m.b.length (lo.map a.eval) (hi.map a.eval) none).run P w = .ok (i.toNat, j.toNat, m.b.length) w := by
      have hj : 0 ≤ j ∧ j ≤ (m.b.length : Int) := ⟨by omega, h3⟩
      have hi' : 0 ≤ i ∧ i ≤ ((j.toNat : Nat) : Int) := ⟨h0, by omega⟩
      rcases hlov with ⟨e1, e2⟩ | e1 <;> rcases hhiv with ⟨e3, e4⟩ | e3 <;> rw [e1, e3] <;> simp [Instr.sliceBounds, Instr.sliceBound, asIntOf, hj, hi', go_sem]
      · exact ⟨by omega, by omega⟩
      · omega
      · subst e4; simp at hi'; simp [hi', go_sem]
      · intro hc; omega
    refine ⟨strV ⟨seg m.b i j⟩, ?_, rep_str.2 ⟨rfl, by unfold seg; simp; omega⟩⟩
    have hex : (ByteArray.mk m.b.toArray).extract i.toNat j.toNat = ByteArray.mk (seg m.b i j).toArray := by
      rw [ByteArray.extract_mk]
      unfold seg
      rw [List.drop_take]
    simp only [execOp, h1, strV]
    have hr : (Instr.slice T (.string (ByteArray.mk m.b.toArray)) (lo.map a.eval) (hi.map a.eval) none).run P w = .ok (.string (ByteArray.mk (seg m.b i j).toArray)) w := by
      rw [← hex]
      unfold Instr.slice
      rw [Sem.run_bind, hun]
      simp only [Result.andThen, Option.isSome_none, Bool.false_eq_true, if_false, hsz]
      rw [Sem.run_bind]
      simp only [Sem.run_pure, Result.andThen]
      rw [hbo]
    have hr2 : (Instr.sliceAt T (.string (ByteArray.mk m.b.toArray)) (lo.map a.eval) (hi.map a.eval) none).run P w = .ok (.string (ByteArray.mk (seg m.b i j).toArray)) w := by
      unfold Instr.sliceAt
      rw [Sem.run_bind, hun]
      exact hr
    rw [Sem.run_bind]
    simp only [Option.map_none]
    rw [hr2]
    rfl
end
end Go.DB
