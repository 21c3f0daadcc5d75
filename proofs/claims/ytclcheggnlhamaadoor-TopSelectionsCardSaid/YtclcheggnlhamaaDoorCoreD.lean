/-
  Plain rules on the program's operations, code and memory (texts laid together).
-/
import Derived.Test.YtclcheggnlhamaaDoorCoreC
import Derived.Laws.Strings
import Derived.Laws.Strings2
import Derived.Scope
import Derived.Laws.IdiomStrings
/-
 Strings: what they stand for, and the operations on them.
-/
set_option linter.unusedVariables false
set_option linter.unusedSimpArgs false
namespace Go.DB
open Go Go.RowKit
structure Str where
 b : List UInt8
deriving DecidableEq, Inhabited
def strV (x : Str) : Value := .string ⟨x.b.toArray⟩
instance : Rep Str where
 sz := 1
 agg := false
 cells := fun _ x cs _ => cs = [strV x] ∧ x.b.length ≤ 9223372036854775807
 len := fun h => by rw [h.1]; rfl
 pos := by decide
 flat := fun h => by rw [h.1]; rfl
 plain := fun h c hc => by rw [h.1] at hc; simp at hc; rw [hc]; rfl
 law := fun _ _ h => h
def Str.nil : Str := ⟨[]⟩
instance : Flat Str := ⟨fun h => h⟩
theorem str_zero {M : MSet} {w : World} : Rep.cells M Str.nil [.string ByteArray.empty] w := ⟨rfl, by decide⟩
theorem rep_str {x : Str} {M : MSet} {v : Value} {w : World} : (rep x).p M v w ↔ v = strV x ∧ x.b.length ≤ 9223372036854775807 := by
 constructor
 ·
  rintro ⟨cs, ⟨h, hi⟩, hv⟩; subst h; exact ⟨hv, hi⟩
 ·
  rintro ⟨h, hi⟩; exact ⟨[strV x], ⟨rfl, hi⟩, h⟩
instance : Fits Str := ⟨fun x => x.b.length ≤ 9223372036854775807⟩
instance : FitsRep Str := ⟨fun h => h.2⟩
section
variable {P : Program} {ops : Array Oper} {fs : Nat} {L : Slots} {B : Owns} {G : Prop}
variable {d : Option Tmp} {ty : TypeId} {pos : String} {after : Array Edge} {g : Option (Nat × Bool)} {xr : List Nat}
theorem Opd.str {l : List UInt8} (h : Nat.ble l.length 9223372036854775807 = true) : Opd L G (.const (.string ⟨l.toArray⟩)) (rep (⟨l⟩ : Str)) := fun _ _ => rep_str.2 ⟨rfl, Nat.le_of_ble_eq_true h⟩
theorem eqAt_str {T : Nat} (hT : P.underlying T = some .string) : EqAt P T Str := by
 intro M w p q x y v u hv hu
 obtain ⟨rfl, _⟩ := rep_str.1 hv
 obtain ⟨rfl, _⟩ := rep_str.1 hu
 have hb : (x.b == y.b) = decide (x = y) := by
  cases x with | mk a => cases y with | mk c => by_cases h : a = c <;> simp [h]
 constructor
 ·
  rw [Sem.run_bind, show (eqGuard .eql T p q (strV x) (strV y)).run P w = .ok () w from rfl]
  simp only [Result.andThen, strV, binOp_string_eql, ByteArray.toList_mk, hb]; rfl
 ·
  rw [Sem.run_bind, show (eqGuard .neq T p q (strV x) (strV y)).run P w = .ok () w from rfl]
  simp only [Result.andThen, strV, binOp_string_neq, ByteArray.toList_mk, hb]; rfl
theorem ex_lenS {ρ : Operand → Value} {x : Operand} {T : Nat} {m : Str} {w : World} (hT : P.underlying T = some .string) (hx : ρ x = strV m) :
  (execOp ρ ⟨d, .call { callee := .builtin .len, args := #[x], argTypes := #[T] }, ty, pos, after, g⟩).run P w = .ok (.value (.int .i64 m.b.length)) w := by
 have hun : (underlying T).run P w = .ok .string w := by simp [underlying, hT, go_sem]
 simp only [execOp, resolve, invoke, builtin, Builtin.len_, Array.map]
 simp only [strV] at hx
 generalize hb : (ByteArray.mk m.b.toArray) = s at hx
 have hs : s.size = m.b.length := by subst hb; rfl
 simp [go_sem, hun, hx, goInt, hs]
theorem StepOK.lenStr {x : Operand} {T : Nat} {m : Str} (hg : Guard ops g L G) (hT : P.underlying T = some .string) (hx : Opd L G x (rep m)) :
  StepOK P ops fs ⟨d, .call { callee := .builtin .len, args := #[x], argTypes := #[T] }, ty, pos, after, g⟩ L B (xr, []) ⟨G, rep (m.b.length : Int)⟩ [] :=
 .pure hg fun M a w _ hs hG => by
  obtain ⟨h1, h2⟩ := rep_str.1 (hx.get hs (fun t ht => looksAt_op (call_ops (by simp [ht]))) hG)
  exact ⟨_, ex_lenS hT h1, rep_int.2 ⟨rfl, by unfold InI; omega⟩⟩
theorem StepOK.indexStr {x i : Operand} {T : Nat} {m : Str} {k : Int} (hg : Guard ops g L G) (hT : P.underlying T = some .string) (hx : Opd L G x (rep m)) (hi : Opd L G i (rep k)) (hk : G → inR m.b k) :
  StepOK P ops fs ⟨d, .index T x i, ty, pos, after, g⟩ L B (xr, []) ⟨G, rep (⟨((gx m.b k).toNat : Int)⟩ : KI .u8)⟩ [] :=
 .pure hg fun M a w _ hs hG => by
  obtain ⟨h1, _⟩ := rep_str.1 (hx.get hs (fun t ht => looksAt_op (by simp [Op.operands, ht])) hG)
  obtain ⟨h2, _⟩ := rep_int.1 (hi.get hs (fun t ht => looksAt_op (by simp [Op.operands, ht])) hG)
  obtain ⟨k0, k1⟩ := hk hG
  have hun : (underlying T).run P w = .ok .string w := by simp [underlying, hT, go_sem]
  have hlt : k.toNat < m.b.length := by omega
  have hget : (ByteArray.mk m.b.toArray)[k.toNat]? = some m.b[k.toNat] := by
   rw [getElem?_pos (ByteArray.mk m.b.toArray) k.toNat (by show k.toNat < m.b.toArray.size; simpa using hlt)]
   rfl
  have hgx : gx m.b k = m.b[k.toNat] := by simp [gx, hlt]
  refine ⟨.int .u8 ((gx m.b k).toNat : Int), ?_, ?_⟩
  ·
   simp only [execOp, h1, h2, Instr.index, asIntOf, Sem.run_bind, hun, Result.andThen, Sem.run_pure, strV]
   simp only [k0, if_true, hget, hgx, go_sem]
   rfl
  ·
   exact rep_ki.2 rfl
end
end Go.DB
/-
 Ranges over strings: iterators of one's own.
-/
set_option linter.unusedVariables false
set_option linter.unusedSimpArgs false
namespace Go.DB
open Go Go.RowKit
section
variable {P : Program} {ops : Array Oper} {fs : Nat} {L : Slots} {B : Owns} {G : Prop}
variable {ty : TypeId} {pos : String} {after : Array Edge} {g : Option (Nat × Bool)} {xr : List Nat}
end
section
variable {P : Program} {n : Nat} {F : Fr} {L : Slots} {B : Owns} {Q : Exit → Act → World → Prop}
end
end Go.DB
/-
 Parts of rows that are cleared.
-/
set_option linter.unusedVariables false
set_option linter.unusedSimpArgs false
namespace Go.DB
open Go Go.RowKit
section
variable {P : Program} {ops : Array Oper} {fs : Nat} {L : Slots} {B : Owns} {G : Prop}
variable {ty : TypeId} {pos : String} {after : Array Edge}
theorem run_zeroOf {E : Nat} {α : Type} [Rep α] {z : α} (hz : ZeroOf P E z) (w : World) : ∃ zs, (zeroValue E).run P w = .ok (mkv (Rep.agg α) zs) w ∧ ∀ (M : MSet) (w : World), Rep.cells M z zs w := by
 obtain ⟨zs, h1, h2⟩ := hz
 obtain ⟨i, hi, h1⟩ := Option.bind_eq_some_iff.1 h1
 refine ⟨zs, ?_, h2⟩
 simp [zeroValue, typeInfo, hi, h1, go_sem]
end
end Go.DB
/-
 Conversions between integers, strings and rows of code points.
-/
set_option linter.unusedVariables false
set_option linter.unusedSimpArgs false
namespace Go.DB
open Go Go.RowKit
section
variable {P : Program} {ops : Array Oper} {fs : Nat} {L : Slots} {B : Owns} {G : Prop}
variable {d : Option Tmp} {ty : TypeId} {pos : String} {after : Array Edge} {g : Option (Nat × Bool)} {xr : List Nat}
end
end Go.DB
/-
 Parts of struct values; comparison of structs of whatever parts.
-/
set_option linter.unusedVariables false
set_option linter.unusedSimpArgs false
namespace Go.DB
open Go Go.RowKit
section
variable {P : Program} {ops : Array Oper} {fs : Nat} {L : Slots} {B : Owns} {G : Prop}
variable {d : Option Tmp} {ty : TypeId} {pos : String} {after : Array Edge} {g : Option (Nat × Bool)} {xr : List Nat}
end
end Go.DB
