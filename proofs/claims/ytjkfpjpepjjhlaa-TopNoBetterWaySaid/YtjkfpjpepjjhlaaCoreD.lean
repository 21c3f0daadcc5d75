/-
  Plain rules on the program's operations, code and memory (texts laid together).
-/
import Derived.Test.YtjkfpjpepjjhlaaCoreC
import Derived.Laws.Strings
import Derived.Laws.Strings2
import Derived.Scope
import Derived.Laws.IdiomStrings
/-
  Strings: what they stand for, and the operations on them.
-/
set_option linter.unusedVariables false
set_option linter.unusedSimpArgs false
namespace Go.DB
open Go Go.RowKit

/-- A string: its bytes. -/
structure Str where
  b : List UInt8
deriving DecidableEq, Inhabited

def strV (x : Str) : Value := .string ⟨x.b.toArray⟩
instance : Rep Str where
  sz := 1
  agg := false
  cells := fun _ x cs _ => cs = [strV x] ∧ x.b.length ≤ 9223372036854775807
  len := fun h => by rw [h.1]; rfl
  pos := by decide
  flat := fun h => by rw [h.1]; rfl
  plain := fun h c hc => by rw [h.1] at hc; simp at hc; rw [hc]; rfl
  law := fun _ _ h => h
def Str.nil : Str := ⟨[]⟩
instance : Flat Str := ⟨fun h => h⟩
theorem rep_str {x : Str} {M : MSet} {v : Value} {w : World} : (rep x).p M v w ↔ v = strV x ∧ x.b.length ≤ 9223372036854775807 := by
  constructor
  · rintro ⟨cs, ⟨h, hi⟩, hv⟩; subst h; exact ⟨hv, hi⟩
  · rintro ⟨h, hi⟩; exact ⟨[strV x], ⟨rfl, hi⟩, h⟩
instance : Fits Str := ⟨fun x => x.b.length ≤ 9223372036854775807⟩
instance : FitsRep Str := ⟨fun h => h.2⟩

section
variable {P : Program} {ops : Array Oper} {fs : Nat} {L : Slots} {B : Owns} {G : Prop}
variable {d : Option Tmp} {ty : TypeId} {pos : String} {after : Array Edge} {g : Option (Nat × Bool)} {xr : List Nat}

end
end Go.DB

/-
  Ranges over strings: iterators of one's own.
-/
set_option linter.unusedVariables false
set_option linter.unusedSimpArgs false
namespace Go.DB
open Go Go.RowKit

/-- An iterator over a string, at a place. -/
def iterV (s : Str) (pos : Nat) : CPred where
  p := fun M D v w => ∃ m, v = .pointer (some ⟨m, 0, none⟩) ∧ (∀ k, D k ↔ k = m) ∧ M m ∧ w.heap[m]? = some (.stringIter (ByteArray.mk s.b.toArray) pos) ∧ s.b.length ≤ 9223372036854775807
  inM := fun M D v w ⟨m, hv, hD, hM, _, _⟩ k hk => (hD k).1 hk ▸ hM
  law := fun M M' D v w w' hk hm hown ⟨m, hv, hD, hM, hh, hb⟩ => by
    obtain ⟨h1, h2⟩ := hown m ((hD m).2 rfl)
    exact ⟨m, hv, hD, h1, by rw [h2]; exact hh, hb⟩

section
variable {P : Program} {ops : Array Oper} {fs : Nat} {L : Slots} {B : Owns} {G : Prop}
variable {ty : TypeId} {pos : String} {after : Array Edge} {g : Option (Nat × Bool)} {xr : List Nat}

/-- What a string holds at a place: a code point, and how many bytes it has. -/
def Str.at (s : Str) (pos : Nat) : Nat × Nat := Utf8.decode (ByteArray.mk s.b.toArray) pos
def Str.next (s : Str) (pos : Nat) : Nat := if pos < s.b.length then pos + (s.at pos).2 else pos
def nextV (s : Str) (pos : Nat) : Value := if pos < s.b.length then .tuple #[.bool true, goInt pos, .int .i32 (s.at pos).1] else .tuple #[.bool false]

/-- What `next` gives. -/
def nextS (s : Str) (pos : Nat) : SPred where
  p := fun _ v _ => v = nextV s pos ∧ s.b.length ≤ 9223372036854775807
  law := fun _ _ _ _ _ _ _ h => h
end

/-! Code with labels through which the run goes straight. -/
section
variable {P : Program} {n : Nat} {F : Fr} {L : Slots} {B : Owns} {Q : Exit → Act → World → Prop}
end
end Go.DB

/-
  Parts of rows that are cleared.
-/
set_option linter.unusedVariables false
set_option linter.unusedSimpArgs false
namespace Go.DB
open Go Go.RowKit

section
variable {P : Program} {ops : Array Oper} {fs : Nat} {L : Slots} {B : Owns} {G : Prop}
variable {ty : TypeId} {pos : String} {after : Array Edge}

end
end Go.DB

/-
  Conversions between integers, strings and rows of code points.
-/
set_option linter.unusedVariables false
set_option linter.unusedSimpArgs false
namespace Go.DB
open Go Go.RowKit

section
variable {P : Program} {ops : Array Oper} {fs : Nat} {L : Slots} {B : Owns} {G : Prop}
variable {d : Option Tmp} {ty : TypeId} {pos : String} {after : Array Edge} {g : Option (Nat × Bool)} {xr : List Nat}

/-- A code point's bytes. -/
def encS (n : Int) : Str := ⟨(Utf8.encode n).data.toList⟩
/-- The code points of a string. -/
def runesFromS (s : Str) : Nat → Nat → List (KI .i32)
  | 0, _ => []
  | k + 1, p => if p < s.b.length then ⟨((s.at p).1 : Int)⟩ :: runesFromS s k (s.next p) else []
def runesL (s : Str) : List (KI .i32) := runesFromS s s.b.length 0
end
end Go.DB

/-
  Parts of struct values; comparison of structs of whatever parts.
-/
set_option linter.unusedVariables false
set_option linter.unusedSimpArgs false
namespace Go.DB
open Go Go.RowKit

section
variable {P : Program} {ops : Array Oper} {fs : Nat} {L : Slots} {B : Owns} {G : Prop}
variable {d : Option Tmp} {ty : TypeId} {pos : String} {after : Array Edge} {g : Option (Nat × Bool)} {xr : List Nat}

theorem run_isAgg {T : Nat} {α : Type} [Rep α] (hT : Ty P T α) (w : World) : (isAgg T).run P w = .ok (Rep.agg α) w := by
  obtain ⟨dd, hd, hm⟩ := hT.agg
  rw [← hm]
  cases dd <;> simp [isAgg, underlying, hd, go_sem]

/-- A part of a struct's cells. -/
theorem run_partAt {T off : Nat} {α β : Type} [Rep α] [Rep β] {proj : α → β} (hT : Ty P T β) (hF : HasField α β off proj) {M : MSet} {x : α} {cs : List Value} {w : World} (hc : Rep.cells M x cs w) :
    ∃ v, (part T cs.toArray off).run P w = .ok v w ∧ (rep (proj x)).p M v w := by
  obtain ⟨hle, hp⟩ := hF
  obtain ⟨f, hf, hj⟩ := hp M x cs w hc
  have hl := Rep.len hf
  have hlc := Rep.len hc
  have hpos := Rep.pos (α := β)
  refine ⟨mkv (Rep.agg β) f, ?_, f, hf, rfl⟩
  obtain ⟨i, hi, hsize⟩ := Option.map_eq_some_iff.1 hT.size
  have hs : (sizeOf T).run P w = .ok (Rep.sz β) w := by simp [sizeOf, typeInfo, hi, hsize, go_sem]
  unfold part
  rw [Sem.run_bind, run_isAgg hT]
  simp only [Result.andThen]
  cases hag : Rep.agg β with
  | true =>
    simp only [if_true]
    rw [Sem.run_bind, hs]
    simp only [Result.andThen, mkv, Sem.run_pure]
    congr 2
    refine Array.ext_getElem? fun j => ?_
    simp only [List.extract_toArray, List.getElem?_toArray]
    by_cases hjl : j < Rep.sz β
    · rw [hj j hjl]
      simp only [List.extract, List.getElem?_take, List.getElem?_drop]
      rw [if_pos (by omega)]
    · rw [List.getElem?_eq_none (by simp only [List.extract, List.length_take, List.length_drop]; omega), List.getElem?_eq_none (by omega)]
  | false =>
    simp only [Bool.false_eq_true, if_false]
    have h0 := hj 0 hpos
    match f, hl with
    | c :: f', _ =>
      simp only [List.getElem?_cons_zero, Nat.add_zero] at h0
      have : cs.toArray[off]? = some c := by simpa using h0.symm
      rw [this]
      simp [mkv, go_sem]
    | [], hl => simp at hl; omega

def FieldTy (P : Program) (S f off T : Nat) : Prop := ∃ fs fd, P.underlying S = some (.struct fs) ∧ fs[f]? = some fd ∧ fd.offset = off ∧ fd.type = T

/-! Comparison, within d rounds. -/

def EqIn (P : Program) (T : Nat) (α : Type) [Rep α] [DecidableEq α] (d : Nat) : Prop :=
  ∀ (k : Nat) (M : MSet) (w : World) (x y : α) (v u : Value), (rep x).p M v w → (rep y).p M u w → (Op.equalIn (k + d) T v u).run P w = .ok (decide (x = y)) w

/-- A struct's fields, compared one by one. -/
inductive FQ (P : Program) (dd : Nat) (α : Type) [Rep α] : List Field → (α → α → Bool) → Prop
  | nil : FQ P dd α [] (fun _ _ => true)
  | cons {f : Field} {fs : List Field} {β : Type} [Rep β] [DecidableEq β] {proj : α → β} {r : α → α → Bool} : (f.name == "_") = false → HasField α β f.offset proj → Ty P f.type β → EqIn P f.type β dd → FQ P dd α fs r → FQ P dd α (f :: fs) (fun x y => decide (proj x = proj y) && r x y)

theorem FQ.run {dd : Nat} {α : Type} [Rep α] {fl : List Field} {r : α → α → Bool} (h : FQ P dd α fl r) {k : Nat} {M : MSet} {w : World} {x y : α} {xs ys : List Value} (hx : Rep.cells M x xs w) (hy : Rep.cells M y ys w) :
    (Op.eqFields (k + dd) xs.toArray ys.toArray fl).run P w = .ok (r x y) w := by
  induction h with
  | nil => simp [Op.eqFields, go_sem]
  | @cons f fl β _ _ proj r h1 h2 h3 h4 _ ih =>
    have hne : f.name ≠ "_" := by intro e; rw [e] at h1; cases h1
    obtain ⟨v, hv, hv2⟩ := run_partAt (P := P) h3 h2 hx
    obtain ⟨u, hu, hu2⟩ := run_partAt (P := P) h3 h2 hy
    rw [Op.eqFields, if_pos hne, Sem.run_bind, hv]
    simp only [Result.andThen]
    rw [Sem.run_bind, hu]
    simp only [Result.andThen]
    rw [Sem.run_bind, h4 k M w _ _ _ _ hv2 hu2]
    simp only [Result.andThen]
    by_cases he : proj x = proj y
    · simp only [he, decide_true, Bool.not_true, Bool.false_eq_true, if_false, Bool.true_and]
      exact ih
    · simp [he, go_sem]

end
end Go.DB

