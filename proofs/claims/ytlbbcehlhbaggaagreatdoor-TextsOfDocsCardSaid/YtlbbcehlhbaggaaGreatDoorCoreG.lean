/-
  Plain rules on the program's operations, code and memory (texts laid together).
-/
import Derived.Test.YtlbbcehlhbaggaaGreatDoorCoreF
import Derived.Laws.Cover1
/-
  Ranges over maps whose outcome depends on the order, where what comes behind makes the same of all.
-/
set_option linter.unusedVariables false
set_option linter.unusedSimpArgs false
namespace Go.DB
open Go Go.RowKit

section
variable {K V σ ρ : Type}
open Classical in
/-- A loop over the entries of a map, and what comes behind: what comes out in whatever order the entries come. -/
noncomputable def mrangeK (m : GMap K V) (step : K → V → σ → Option σ) (s0 : σ) (k : σ → Option ρ) : Option ρ :=
  if h : ∃ r, ∀ l, Lists m l → ∃ s, mfold step l s0 = some s ∧ k s = some r then some h.choose else none
variable {m : GMap K V}
/-- All outcomes are so. -/
def MOut (m : GMap K V) (step : K → V → σ → Option σ) (s0 : σ) (Pp : σ → Prop) : Prop := ∀ l, Lists m l → ∃ s, mfold step l s0 = some s ∧ Pp s
end

section
variable {P : Program} {Q : Exit → Act → World → Prop} {n : Nat} {F : Fr} {L : Slots} {B : Owns}
variable {K V : Type} {m : GMap K V}
end
end Go.DB

/-
  Elements of a part of a row that turns.
-/
set_option linter.unusedVariables false
set_option linter.unusedSimpArgs false
namespace Go.DB
open Go Go.RowKit
section
variable {P : Program} {ops : Array Oper} {fs : Nat} {L : Slots} {B : Owns} {G : Prop}
variable {d : Option Tmp} {ty : TypeId} {pos : String} {after : Array Edge} {g : Option (Nat × Bool)} {xr : List Nat}

end
end Go.DB

/-
  Rows of rows of one's own grow.
-/
set_option linter.unusedVariables false
set_option linter.unusedSimpArgs false
namespace Go.DB
open Go Go.RowKit
section
variable {P : Program} {ops : Array Oper} {fs : Nat} {L : Slots} {B : Owns} {ty : TypeId} {pos : String} {after : Array Edge}

end
end Go.DB

/-
  Calls of functions that are values, while memory is lent to them.
-/
set_option linter.unusedVariables false
set_option linter.unusedSimpArgs false
namespace Go.DB
open Go Go.RowKit
section
variable {P : Program} {ops : Array Oper} {fs : Nat} {L : Slots} {B : Owns} {G : Prop}
variable {ty : TypeId} {pos : String} {after : Array Edge} {g : Option (Nat × Bool)} {xr : List Nat}

/-- The length of a named row, under a guard. -/
theorem StepOK.lenG {d : Option Nat} {x : Operand} {T E T' k : Nat} {s : Value} {α : Type} [Rep α] {l : List α} (hg : Guard ops g L G) (hT : SliceOf P T E) (hx : Opd L G x (isV s)) (hl : lookB B k = some (CPred.at s (rowV T' l))) :
    StepOK P ops fs ⟨d, .call { callee := .builtin .len, args := #[x], argTypes := #[T] }, ty, pos, after, g⟩ L B ([k], []) ⟨G, rep (l.length : Int)⟩ [] :=
  .of hg fun M D a w _ hs hsB hG => by
    have hv := (rep_raw.1 (hx.get hs (fun t ht => looksAt_op (call_ops (by simp [ht]))) hG)).1
    obtain ⟨ad, cap, rfl, h1, h2, _⟩ := hsB.has k (by simp) _ hl
    exact Does.value (ex_len hT hv) ⟨Keeps.refl _ _, rep_int.2 ⟨rfl, by unfold InI; omega⟩⟩
end
end Go.DB

/-
  Rows whose elements' rows are one's own up to a place.
-/
set_option linter.unusedVariables false
set_option linter.unusedSimpArgs false
namespace Go.DB
open Go Go.RowKit

section
variable {α β ρ : Type} [Rep β] [Rep ρ]

/-- A row of what mk makes of a plain element and of the value of a row, n elements long: the rows ahead of k are one's own, those behind it are written by nobody. -/
def rowP (E E2 : Nat) (mk : α → Value → ρ) (sub : α → List β) (n k : Nat) (l : List α) : CPred where
  p := fun M D v w => ∃ (ss : List Value) (Dm : MSet) (Dr : Nat → MSet), ss.length = l.length ∧ (rowV E (List.zipWith mk l ss)).p M Dm v w ∧ l.length = n ∧
    (∀ (i : Nat) a s, l[i]? = some a → ss[i]? = some s → i < k → (rowV E2 (sub a)).p M (Dr i) s w) ∧ (∀ (i : Nat) a s, l[i]? = some a → ss[i]? = some s → k ≤ i → (rep (sub a)).p M s w) ∧
    (∀ j, D j → M j) ∧ (∀ j, (Dm j ∨ ∃ i, Dr i j) → D j) ∧ (∀ i j, Dr i j → ¬ Dm j) ∧ ∀ i i' j, Dr i j → Dr i' j → i = i'
  inM := fun M D v w ⟨ss, Dm, Dr, _, _, _, _, _, h, _⟩ k hk => h k hk
  law := fun M M' D v w w' hk hm hown ⟨ss, Dm, Dr, h1, h2, h3, h4, h4', h5, h6, h7, h8⟩ =>
    ⟨ss, Dm, Dr, h1, (rowV E _).law M M' Dm v w w' hk hm (fun j h => hown j (h6 j (.inl h))) h2, h3, fun i a s ha hs hn => (rowV E2 _).law M M' (Dr i) s w w' hk hm (fun j h => hown j (h6 j (.inr ⟨i, h⟩))) (h4 i a s ha hs hn),
      fun i a s ha hs hn => (rep (sub a)).law M M' s w w' hk hm (h4' i a s ha hs hn), fun j h => (hown j h).1, h6, h7, h8⟩

variable {E E2 : Nat} {mk : α → Value → ρ} {sub : α → List β} {n k : Nat} {l : List α} {M D : MSet} {v : Value} {w : World}

end

section
variable {P : Program} {ops : Array Oper} {fs : Nat} {L : Slots} {B : Owns} {G : Prop}
variable {ty : TypeId} {pos : String} {after : Array Edge} {g : Option (Nat × Bool)} {xr : List Nat} {d : Option Tmp}
variable {α β ρ : Type} [Rep β] [Rep ρ] {E E2 : Nat} {mk : α → Value → ρ} {sub : α → List β} {n k0 : Nat} {l : List α} {s : Value}

end
end Go.DB

/-
  Short names for the steps that walks take most.
-/
set_option linter.unusedVariables false
set_option linter.unusedSimpArgs false
namespace Go.DB
open Go Go.RowKit

abbrev oo : Aux := ([], [])

section
variable {P : Program} {ops : Array Oper} {n : Nat} {rest : List Oper} {L : Slots} {B : Owns} {K : Slots → Owns → Prop} {aux : List Aux} {xr : List Nat} {d t : Nat} {ty : TypeId} {pos : String} {after : Array Edge}

theorem Chain.mv {S : SPred} (h : look L t = some ⟨True, S⟩) (k : Chain P ops n rest [] ((d, ⟨True, S⟩) :: L) B K) (hB : hasKey B d = false := by exact rfl) :
    Chain P ops n (⟨some d, .move (.tmp t), ty, pos, after, none⟩ :: rest) [] L B K := .cons (.move .none (.s h)) hB k
theorem Chain.mvA {S : SPred} (h : look L t = some ⟨True, S⟩) (k : Chain P ops n rest aux ((d, ⟨True, S⟩) :: L) B K) (hB : hasKey B d = false := by exact rfl) :
    Chain P ops n (⟨some d, .move (.tmp t), ty, pos, after, none⟩ :: rest) ((xr, []) :: aux) L B K := .consA (.move .none (.s h)) hB k
theorem Chain.asn {S : SPred} (h : look L t = some ⟨True, S⟩) (k : Chain P ops n rest [] ((d, ⟨True, S⟩) :: L) B K) (hB : hasKey B d = false := by exact rfl) :
    Chain P ops n (⟨some d, .assign (.tmp t), ty, pos, after, none⟩ :: rest) [] L B K := .cons (.assign .none (.s h)) hB k
theorem Chain.asnA {S : SPred} (h : look L t = some ⟨True, S⟩) (k : Chain P ops n rest aux ((d, ⟨True, S⟩) :: L) B K) (hB : hasKey B d = false := by exact rfl) :
    Chain P ops n (⟨some d, .assign (.tmp t), ty, pos, after, none⟩ :: rest) ((xr, []) :: aux) L B K := .consA (.assign .none (.s h)) hB k
theorem Chain.asi {i : Int} (k : Chain P ops n rest [] ((d, ⟨True, rep i⟩) :: L) B K) (hi : InI i := by decide) (hB : hasKey B d = false := by exact rfl) :
    Chain P ops n (⟨some d, .assign (.const (.int .i64 i)), ty, pos, after, none⟩ :: rest) [] L B K := .cons (.assign .none (.int hi)) hB k
theorem Chain.mvi {i : Int} (k : Chain P ops n rest [] ((d, ⟨True, rep i⟩) :: L) B K) (hi : InI i := by decide) (hB : hasKey B d = false := by exact rfl) :
    Chain P ops n (⟨some d, .move (.const (.int .i64 i)), ty, pos, after, none⟩ :: rest) [] L B K := .cons (.move .none (.int hi)) hB k
theorem Chain.ld {T : TypeId} {α : Type} [Rep α] {y : α} (hT : Ty P T α) (h : look L t = some ⟨True, ref y⟩) (k : Chain P ops n rest [] ((d, ⟨True, rep y⟩) :: L) B K) (hB : hasKey B d = false := by exact rfl) :
    Chain P ops n (⟨some d, .load T (.tmp t), ty, pos, after, none⟩ :: rest) [] L B K := .cons (.load .none hT (.s h)) hB k
theorem Chain.ldA {T : TypeId} {α : Type} [Rep α] {y : α} (hT : Ty P T α) (h : look L t = some ⟨True, ref y⟩) (k : Chain P ops n rest aux ((d, ⟨True, rep y⟩) :: L) B K) (hB : hasKey B d = false := by exact rfl) :
    Chain P ops n (⟨some d, .load T (.tmp t), ty, pos, after, none⟩ :: rest) ((xr, []) :: aux) L B K := .consA (.load .none hT (.s h)) hB k
theorem Chain.fa {S f off : Nat} {α β : Type} [Rep α] [Rep β] {proj : α → β} {y : α} (hF : FieldAt P S f off) (hH : HasField α β off proj) (h : look L t = some ⟨True, ref y⟩)
    (k : Chain P ops n rest [] ((d, ⟨True, ref (proj y)⟩) :: L) B K) (hB : hasKey B d = false := by exact rfl) :
    Chain P ops n (⟨some d, .fieldAddr S (.tmp t) f, ty, pos, after, none⟩ :: rest) [] L B K := .cons (.fieldAddr .none hF hH (.s h)) hB k
theorem Chain.faA {S f off : Nat} {α β : Type} [Rep α] [Rep β] {proj : α → β} {y : α} (hF : FieldAt P S f off) (hH : HasField α β off proj) (h : look L t = some ⟨True, ref y⟩)
    (k : Chain P ops n rest aux ((d, ⟨True, ref (proj y)⟩) :: L) B K) (hB : hasKey B d = false := by exact rfl) :
    Chain P ops n (⟨some d, .fieldAddr S (.tmp t) f, ty, pos, after, none⟩ :: rest) ((xr, []) :: aux) L B K := .consA (.fieldAddr .none hF hH (.s h)) hB k
theorem Chain.c {op : Op} {g : Option (Nat × Bool)} {E : Ent} (h : StepOK P ops n ⟨some d, op, ty, pos, after, g⟩ L B ([], []) E []) (k : Chain P ops n rest [] ((d, E) :: L) B K) (hB : hasKey B d = false := by exact rfl) :
    Chain P ops n (⟨some d, op, ty, pos, after, g⟩ :: rest) [] L B K := .cons h hB k
theorem Chain.cA {op : Op} {g : Option (Nat × Bool)} {E : Ent} (h : StepOK P ops n ⟨some d, op, ty, pos, after, g⟩ L B (xr, []) E []) (k : Chain P ops n rest aux ((d, E) :: L) B K) (hB : hasKey B d = false := by exact rfl) :
    Chain P ops n (⟨some d, op, ty, pos, after, g⟩ :: rest) ((xr, []) :: aux) L B K := .consA h hB k
theorem Chain.cN {op : Op} {g : Option (Nat × Bool)} {E : Ent} {xs : List Nat} {V : Nat × Option CPred} {Ws : Writes} (h : StepOK P ops n ⟨none, op, ty, pos, after, g⟩ L B (xr, xs) E (V :: Ws)) (k : Chain P ops n rest aux L (V :: (Ws ++ B)) K)
    (hx : (V :: Ws).map (·.1) = xs := by exact rfl) : Chain P ops n (⟨none, op, ty, pos, after, g⟩ :: rest) ((xr, xs) :: aux) L B K := .consN h hx k
theorem Chain.cW {op : Op} {g : Option (Nat × Bool)} {E : Ent} {xs : List Nat} {V : Nat × Option CPred} {Ws : Writes} (h : StepOK P ops n ⟨some d, op, ty, pos, after, g⟩ L B (xr, xs) E (V :: Ws)) (k : Chain P ops n rest aux ((d, E) :: L) (V :: (Ws ++ B)) K)
    (hx : (V :: Ws).map (·.1) = xs := by exact rfl) (hB : hasKey B d = false := by exact rfl) : Chain P ops n (⟨some d, op, ty, pos, after, g⟩ :: rest) ((xr, xs) :: aux) L B K := .consW h hx hB k
theorem Chain.ix {T E u : Nat} {α : Type} [Rep α] [Inhabited α] {l : List α} {j : Int} (hT : SliceOf P T E) (hE : Ty P E α) (hx : look L t = some ⟨True, rep l⟩) (hi : look L u = some ⟨True, rep j⟩)
    (hb : 0 ≤ j ∧ j < l.length) (k : Chain P ops n rest [] ((d, ⟨True, ref (gx l j)⟩) :: L) B K) (hB : hasKey B d = false := by exact rfl) :
    Chain P ops n (⟨some d, .indexAddr T (.tmp t) (.tmp u), ty, pos, after, none⟩ :: rest) [] L B K := .cons (.indexAddr .none hT hE (.s hx) (.s hi) (fun _ => hb)) hB k
theorem Chain.ixA {T E u : Nat} {α : Type} [Rep α] [Inhabited α] {l : List α} {j : Int} (hT : SliceOf P T E) (hE : Ty P E α) (hx : look L t = some ⟨True, rep l⟩) (hi : look L u = some ⟨True, rep j⟩)
    (hb : 0 ≤ j ∧ j < l.length) (k : Chain P ops n rest aux ((d, ⟨True, ref (gx l j)⟩) :: L) B K) (hB : hasKey B d = false := by exact rfl) :
    Chain P ops n (⟨some d, .indexAddr T (.tmp t) (.tmp u), ty, pos, after, none⟩ :: rest) ((xr, []) :: aux) L B K := .consA (.indexAddr .none hT hE (.s hx) (.s hi) (fun _ => hb)) hB k
theorem Chain.ex {i : Nat} {Ss : List SPred} {S : SPred} (h : look L t = some ⟨True, tup Ss⟩) (hi : Ss[i]? = some S) (k : Chain P ops n rest [] ((d, ⟨True, S⟩) :: L) B K) (hB : hasKey B d = false := by exact rfl) :
    Chain P ops n (⟨some d, .extract (.tmp t) i, ty, pos, after, none⟩ :: rest) [] L B K := .cons (.extract .none (.s h) hi) hB k
theorem Chain.exA {i : Nat} {Ss : List SPred} {S : SPred} (h : look L t = some ⟨True, tup Ss⟩) (hi : Ss[i]? = some S) (k : Chain P ops n rest aux ((d, ⟨True, S⟩) :: L) B K) (hB : hasKey B d = false := by exact rfl) :
    Chain P ops n (⟨some d, .extract (.tmp t) i, ty, pos, after, none⟩ :: rest) ((xr, []) :: aux) L B K := .consA (.extract .none (.s h) hi) hB k
theorem Chain.mg {j tg : Nat} {want b : Bool} {c : Prop} {S : SPred} (h1 : (ops[j]?).bind (·.dst) = some tg) (h2 : look L tg = some ⟨c, rep b⟩) (h : look L t = some ⟨True, S⟩) (k : Chain P ops n rest [] ((d, ⟨c ∧ b = want, S⟩) :: L) B K) (hB : hasKey B d = false := by exact rfl) :
    Chain P ops n (⟨some d, .move (.tmp t), ty, pos, after, some (j, want)⟩ :: rest) [] L B K := .cons (.move (.at h1 h2) (.s h)) hB k
theorem Chain.lg {j tg : Nat} {want b : Bool} {c : Prop} {T : TypeId} {α : Type} [Rep α] {y : α} (hT : Ty P T α) (h1 : (ops[j]?).bind (·.dst) = some tg) (h2 : look L tg = some ⟨c, rep b⟩) (h : look L t = some ⟨c ∧ b = want, ref y⟩)
    (k : Chain P ops n rest [] ((d, ⟨c ∧ b = want, rep y⟩) :: L) B K) (hB : hasKey B d = false := by exact rfl) :
    Chain P ops n (⟨some d, .load T (.tmp t), ty, pos, after, some (j, want)⟩ :: rest) [] L B K := .cons (.load (.at h1 h2) hT (.tmp h id)) hB k
theorem Chain.fg {j tg : Nat} {want b : Bool} {c : Prop} {S f off : Nat} {α β : Type} [Rep α] [Rep β] {proj : α → β} {y : α} (hF : FieldAt P S f off) (hH : HasField α β off proj) (h1 : (ops[j]?).bind (·.dst) = some tg) (h2 : look L tg = some ⟨c, rep b⟩)
    (h : look L t = some ⟨True, ref y⟩) (k : Chain P ops n rest [] ((d, ⟨c ∧ b = want, ref (proj y)⟩) :: L) B K) (hB : hasKey B d = false := by exact rfl) :
    Chain P ops n (⟨some d, .fieldAddr S (.tmp t) f, ty, pos, after, some (j, want)⟩ :: rest) [] L B K := .cons (.fieldAddr (.at h1 h2) hF hH (.s h)) hB k
theorem Chain.pa {u : Nat} {b1 b2 : Bool} (h1 : look L t = some ⟨True, rep b1⟩) (h2 : look L u = some ⟨True ∧ b1 = true, rep b2⟩) (k : Chain P ops n rest [] ((d, ⟨True, rep (b1 && b2)⟩) :: L) B K) (hB : hasKey B d = false := by exact rfl) :
    Chain P ops n (⟨some d, .pick (.tmp t) (.tmp u) (.const (.bool false)), ty, pos, after, none⟩ :: rest) [] L B K := .cons (.pickAnd .none (.s h1) (.tmp h2 id)) hB k
theorem Chain.po {u : Nat} {b1 b2 : Bool} (h1 : look L t = some ⟨True, rep b1⟩) (h2 : look L u = some ⟨True ∧ b1 = false, rep b2⟩) (k : Chain P ops n rest [] ((d, ⟨True, rep (b1 || b2)⟩) :: L) B K) (hB : hasKey B d = false := by exact rfl) :
    Chain P ops n (⟨some d, .pick (.tmp t) (.const (.bool true)) (.tmp u), ty, pos, after, none⟩ :: rest) [] L B K := .cons (.pickOr .none (.s h1) (.tmp h2 id)) hB k
theorem Chain.lt {u : Nat} {T T' : TypeId} {i j : Int} (h1 : look L t = some ⟨True, rep i⟩) (h2 : look L u = some ⟨True, rep j⟩) (k : Chain P ops n rest [] ((d, ⟨True, rep (decide (i < j))⟩) :: L) B K) (hB : hasKey B d = false := by exact rfl) :
    Chain P ops n (⟨some d, .binOp .lss T (.tmp t) (.tmp u) T', ty, pos, after, none⟩ :: rest) [] L B K := .cons (.lt .none (.s h1) (.s h2)) hB k
theorem Chain.add {u : Nat} {T T' : TypeId} {i j : Int} (h1 : look L t = some ⟨True, rep i⟩) (h2 : look L u = some ⟨True, rep j⟩) (k : Chain P ops n rest [] ((d, ⟨True, rep (W (i + j))⟩) :: L) B K) (hB : hasKey B d = false := by exact rfl) :
    Chain P ops n (⟨some d, .binOp .add T (.tmp t) (.tmp u) T', ty, pos, after, none⟩ :: rest) [] L B K := .cons (.addW .none (.s h1) (.s h2)) hB k
theorem Chain.sub {u : Nat} {T T' : TypeId} {i j : Int} (h1 : look L t = some ⟨True, rep i⟩) (h2 : look L u = some ⟨True, rep j⟩) (k : Chain P ops n rest [] ((d, ⟨True, rep (W (i - j))⟩) :: L) B K) (hB : hasKey B d = false := by exact rfl) :
    Chain P ops n (⟨some d, .binOp .sub T (.tmp t) (.tmp u) T', ty, pos, after, none⟩ :: rest) [] L B K := .cons (.subW .none (.s h1) (.s h2)) hB k
theorem Chain.asb {b : Bool} (k : Chain P ops n rest [] ((d, ⟨True, rep b⟩) :: L) B K) (hB : hasKey B d = false := by exact rfl) :
    Chain P ops n (⟨some d, .assign (.const (.bool b)), ty, pos, after, none⟩ :: rest) [] L B K := .cons (.assign .none .bool) hB k
theorem Opd.i {G : Prop} {m : Int} (h : InI m := by decide) : Opd L G (.const (.int .i64 m)) (rep m) := .int h
theorem Chain.addA {u : Nat} {T T' : TypeId} {i j : Int} (h1 : look L t = some ⟨True, rep i⟩) (h2 : look L u = some ⟨True, rep j⟩) (k : Chain P ops n rest aux ((d, ⟨True, rep (W (i + j))⟩) :: L) B K) (hB : hasKey B d = false := by exact rfl) :
    Chain P ops n (⟨some d, .binOp .add T (.tmp t) (.tmp u) T', ty, pos, after, none⟩ :: rest) ((xr, []) :: aux) L B K := .consA (.addW .none (.s h1) (.s h2)) hB k
theorem Chain.subA {u : Nat} {T T' : TypeId} {i j : Int} (h1 : look L t = some ⟨True, rep i⟩) (h2 : look L u = some ⟨True, rep j⟩) (k : Chain P ops n rest aux ((d, ⟨True, rep (W (i - j))⟩) :: L) B K) (hB : hasKey B d = false := by exact rfl) :
    Chain P ops n (⟨some d, .binOp .sub T (.tmp t) (.tmp u) T', ty, pos, after, none⟩ :: rest) ((xr, []) :: aux) L B K := .consA (.subW .none (.s h1) (.s h2)) hB k
theorem Chain.adi {T T' : TypeId} {i j : Int} (h1 : look L t = some ⟨True, rep i⟩) (k : Chain P ops n rest [] ((d, ⟨True, rep (W (i + j))⟩) :: L) B K) (hj : InI j := by decide) (hB : hasKey B d = false := by exact rfl) :
    Chain P ops n (⟨some d, .binOp .add T (.tmp t) (.const (.int .i64 j)) T', ty, pos, after, none⟩ :: rest) [] L B K := .cons (.addW .none (.s h1) (.int hj)) hB k
theorem Chain.eqi {T T' : TypeId} {i j : Int} (h1 : look L t = some ⟨True, rep i⟩) (k : Chain P ops n rest [] ((d, ⟨True, rep (decide (i = j))⟩) :: L) B K) (hj : InI j := by decide) (hB : hasKey B d = false := by exact rfl) :
    Chain P ops n (⟨some d, .binOp .eql T (.tmp t) (.const (.int .i64 j)) T', ty, pos, after, none⟩ :: rest) [] L B K := .cons (.eqI .none (.s h1) (.int hj)) hB k
theorem Chain.nei {T T' : TypeId} {i j : Int} (h1 : look L t = some ⟨True, rep i⟩) (k : Chain P ops n rest [] ((d, ⟨True, rep (!decide (i = j))⟩) :: L) B K) (hj : InI j := by decide) (hB : hasKey B d = false := by exact rfl) :
    Chain P ops n (⟨some d, .binOp .neq T (.tmp t) (.const (.int .i64 j)) T', ty, pos, after, none⟩ :: rest) [] L B K := .cons (.neI .none (.s h1) (.int hj)) hB k
theorem Chain.ra {α : Type} [Rep α] {e v : α} (hv : v = e) (h : look L t = some ⟨True, rep e⟩) (k : Chain P ops n rest [] ((d, ⟨True, rep v⟩) :: L) B K) (hB : hasKey B d = false := by exact rfl) :
    Chain P ops n (⟨some d, .assign (.tmp t), ty, pos, after, none⟩ :: rest) [] L B K := .cons (.re hv (.assign .none (.s h))) hB k
theorem Chain.rlA {T : TypeId} {α : Type} [Rep α] {y v : α} (hv : v = y) (hT : Ty P T α) (h : look L t = some ⟨True, ref y⟩) (k : Chain P ops n rest aux ((d, ⟨True, rep v⟩) :: L) B K) (hB : hasKey B d = false := by exact rfl) :
    Chain P ops n (⟨some d, .load T (.tmp t), ty, pos, after, none⟩ :: rest) ((xr, []) :: aux) L B K := .consA (.re hv (.load .none hT (.s h))) hB k
theorem Chain.st {T T' u : Nat} {α : Type} [Rep α] {y y0 : α} (hT : Ty P T α) (hl : lookB B t = some (cont T' y0)) (ht : Nat.blt t n = true) (hx : look L u = some ⟨True, rep y⟩) (k : Chain P ops n rest aux L ((t, some (cont T' y)) :: ([] ++ B)) K) :
    Chain P ops n (⟨none, .store T (.tmp t) (.tmp u), ty, pos, after, none⟩ :: rest) (([t], [t]) :: aux) L B K := .consN (.store hT hl ht (.s hx)) rfl k
theorem Chain.ln {T E : Nat} {α : Type} [Rep α] {l : List α} (hT : SliceOf P T E) (h : look L t = some ⟨True, rep l⟩) (k : Chain P ops n rest [] ((d, ⟨True, rep (l.length : Int)⟩) :: L) B K) (hB : hasKey B d = false := by exact rfl) :
    Chain P ops n (⟨some d, .call { callee := .builtin .len, args := #[.tmp t], argTypes := #[T] }, ty, pos, after, none⟩ :: rest) [] L B K := .cons (.len .none hT (.s h)) hB k
theorem Chain.al {T : Nat} {α : Type} [Rep α] {z : α} (hz : ZeroOf P T z) (hd : Nat.blt d n = true) (k : Chain P ops n rest aux ((d, ⟨True, anyV⟩) :: L) ((d, some (cont T z)) :: ([] ++ B)) K) (hB : hasKey B d = false := by exact rfl) :
    Chain P ops n (⟨some d, .alloc T, ty, pos, after, none⟩ :: rest) (([], [d]) :: aux) L B K := .consW (.alloc hz hd) rfl hB k
theorem Chain.s0 {T T' m u : Nat} {α : Type} [Rep α] {y0 z : α} (q : Nat) (hT : Ty P T α) (hl : lookB B q = some (boxAt m T' y0)) (hp : look L t = some ⟨True, isV (ptr m 0)⟩) (hx : look L u = some ⟨True, rep z⟩)
    (k : Chain P ops n rest aux L ((q, some (boxAt m T' z)) :: ([] ++ B)) K) : Chain P ops n (⟨none, .store T (.tmp t) (.tmp u), ty, pos, after, none⟩ :: rest) (([q], [q]) :: aux) L B K := .consN (.storeAt0 (g := q) hT hl (.s hp) (.s hx)) rfl k
end

section
variable {P : Program} {ops : Array Oper} {fs : Nat} {L : Slots} {B : Owns} {ty : TypeId} {pos : String} {after : Array Edge}
theorem StepOK.cO {d : Option Nat} {f : Nat} {xs : Array Operand} {ts : Array TypeId} {Ss : List SPred} {Os : Given} {S : SPred} {outs : List (Option CPred)} {V : Nat × Option CPred} {Ws : Writes} {xk : List Nat} (ks : List Nat) (hspec : FSpecO P f Ss Os S outs)
    (hx : OpdL L True xs.toList Ss) (hH : Holds B ks Os) (hW : outW (Os.map (·.1)) ks d outs = V :: Ws) (hnd : (ks ++ d.toList).Nodup := by decide) (hxk : ∀ k ∈ ks, k ∈ xk := by decide) (hd : ∀ d', d = some d' → d' < fs := by intro d h; cases h; decide) :
    StepOK P ops fs ⟨d, .call { callee := .value (.func f), args := xs, argTypes := ts }, ty, pos, after, none⟩ L B (ks, xk) ⟨True, S⟩ (V :: Ws) := .callO ks hspec hx hH hW hnd hxk hd
end

section
variable {P : Program} {Q : Exit → Act → World → Prop} {n : Nat} {F : Fr} {L : Slots} {B : Owns}

/-- A region, and what comes behind it. -/
theorem Cod.sr {id : Nat} {l : List Oper} {draw : Bool} {y : Code} (aux : List Aux) (hm : P.follows .mixedOrders = true)
    (h : Chain P l.toArray n l aux L B (fun L' B' => Cod P y Q n F L' B')) (hok : regOk n l.toArray aux = true := by kernel_rfl) : Cod P (.seq (.region id l.toArray draw) y) Q n F L B :=
  .seq (.region aux hm hok h)
/-- A region at the end. -/
theorem Cod.rg {id : Nat} {l : List Oper} {draw : Bool} (aux : List Aux) (hm : P.follows .mixedOrders = true)
    (h : Chain P l.toArray n l aux L B (fun L' B' => Ends Q .normal n F L' B')) (hok : regOk n l.toArray aux = true := by kernel_rfl) : Cod P (.region id l.toArray draw) Q n F L B :=
  .region aux hm hok h
theorem Cod.sn {id : Nat} {l : List Oper} {draw : Bool} {y : Code} (hm : P.follows .mixedOrders = true) (h : Chain P l.toArray n l [] L B (fun L' B' => Cod P y Q n F L' B')) (hok : regOk n l.toArray [] = true := by kernel_rfl) :
    Cod P (.seq (.region id l.toArray draw) y) Q n F L B := .sr [] hm h hok
theorem Cod.rn {id : Nat} {l : List Oper} {draw : Bool} (hm : P.follows .mixedOrders = true) (h : Chain P l.toArray n l [] L B (fun L' B' => Ends Q .normal n F L' B')) (hok : regOk n l.toArray [] = true := by kernel_rfl) :
    Cod P (.region id l.toArray draw) Q n F L B := .rg [] hm h hok
/-- What comes behind is shown once; nothing new is told but prop. -/
theorem Cod.tJ {x y : Code} (prop : Unit → Prop) {keep : Slots} {keepB : Owns} (hk : Sub L keep) (hkB : SubB B keepB) (h : Cod P x (Exit.then (fun a w => ∃ j : Unit, prop j ∧ Sat n F ((fun _ => ([] : Slots)) j ++ keep) ((fun _ => ([] : Owns)) j ++ keepB) a w) Q) n F L B)
    (k : ∀ i : Unit, prop i → Cod P y Q n F ((fun _ => ([] : Slots)) i ++ keep) ((fun _ => ([] : Owns)) i ++ keepB)) : Cod P x (Exit.then (y.wp P Q) Q) n F L B := .thenJ (fun _ => []) (fun _ => []) prop hk hkB h k
theorem Sub.k4 {e1 e2 e3 e4 : Ent} {L' : Slots} (a b c d : Nat) (h1 : look L a = some e1) (h2 : look L b = some e2) (h3 : look L c = some e3) (h4 : look L d = some e4) (r : Sub L L') : Sub L ((a, e1) :: (b, e2) :: (c, e3) :: (d, e4) :: L') := .cons h1 (.cons h2 (.cons h3 (.cons h4 r)))
theorem Sub.k2 {e1 e2 : Ent} {L' : Slots} (a b : Nat) (h1 : look L a = some e1) (h2 : look L b = some e2) (r : Sub L L') : Sub L ((a, e1) :: (b, e2) :: L') := .cons h1 (.cons h2 r)
theorem SubB.k2 {C1 C2 : CPred} {B' : Owns} (a b : Nat) (h1 : lookB B a = some C1) (h2 : lookB B b = some C2) (r : SubB B B') : SubB B ((a, some C1) :: (b, some C2) :: B') := .cons h1 (.cons h2 r)
/-- A branch, and what the plain function does on each road. -/
theorem Cod.cb {t : Nat} {x y : Code} {b : Bool} {β : Type} {A C r : Option β} (hl : look L t = some ⟨True, rep b⟩) (h : (bif b then A else C) = r)
    (h1 : b = true → A = r → Cod P x Q n F L B) (h2 : b = false → C = r → Cod P y Q n F L B) : Cod P (.cond (.tmp t) x y) Q n F L B :=
  .cond hl trivial (fun hb => h1 hb (bif_t h hb)) (fun hb => h2 hb (bif_f h hb))

/-- The slots' words, key by key. -/
inductive SubI (L : Slots) : Slots → Prop
  | n : SubI L []
  | c {t : Nat} {e : Ent} {L' : Slots} (h : look L t = some e) (k : SubI L L') : SubI L ((t, e) :: L')
inductive SubJ (B : Owns) : Owns → Prop
  | n : SubJ B []
  | c {t : Nat} {e : CPred} {B' : Owns} (h : lookB B t = some e) (k : SubJ B B') : SubJ B ((t, some e) :: B')
theorem SubI.sub {L L' : Slots} (h : SubI L L') : Sub L L' := by
  induction h with
  | n => exact .nil
  | c h _ ih => exact .cons h ih
theorem SubJ.sub {B B' : Owns} (h : SubJ B B') : SubB B B' := by
  induction h with
  | n => exact .nil
  | c h _ ih => exact .cons h ih
theorem Ends.j {ι : Type} {Ls : ι → Slots} {Bs : ι → Owns} {prop : ι → Prop} {keep : Slots} {keepB : Owns} (j : ι) (hp : prop j) (h : SubI L (Ls j ++ keep) := by repeat constructor) (hB : SubJ B (Bs j ++ keepB) := by repeat constructor) :
    Ends (Exit.then (fun a w => ∃ j, prop j ∧ Sat n F (Ls j ++ keep) (Bs j ++ keepB) a w) Q) .normal n F L B := .join j hp h.sub hB.sub
theorem Ends.ag {σ ρ : Type} {o : Step σ ρ} {Ls : σ → Slots} {Bs : σ → Owns} {keep : Slots} {keepB : Owns} {s' : σ} (ho : o = .again s') (h : SubI L (Ls s' ++ keep) := by repeat constructor) (hB : SubJ B (Bs s' ++ keepB) := by repeat constructor) :
    Ends (Exit.then (fun a w => ∃ s', o = .again s' ∧ Sat n F (Ls s' ++ keep) (Bs s' ++ keepB) a w) Q) .normal n F L B := .againL ho h.sub hB.sub
theorem Ends.rt {fn : Func} {e : Exit} {t : Nat} {S : SPred} (hr : fn.results = #[.tmp t]) (h : look L t = some ⟨True, S⟩) (he : e = .ret ∨ e = .normal := by exact .inl rfl) : Ends (bodyPost P fn (Post F S)) e n F L B :=
  .ret1 he hr (.tmp h trivial Imp.refl)
theorem Cod.fb {c : Code} {T m : Nat} {α : Type} [Rep α] {y : α} (q : Nat) (ts : List Nat) (hl : lookB B q = some (boxAt m T y)) (hts : AllAre L (ptr m 0) ts) (k : Cod P c Q n F (fillS (ref y) ts L) []) : Cod P c Q n F L B := .freezeBox hl hts .nil rfl k
theorem Ends.r2 {fn : Func} {e : Exit} {t t2 T : Nat} {S2 : SPred} {α : Type} [Rep α] {y : α} (hr : fn.results = #[.cell t T, .tmp t2]) (hT : Ty P T α) (h : look L t = some ⟨True, ref y⟩) (h2 : look L t2 = some ⟨True, S2⟩) (he : e = .ret ∨ e = .normal := by exact .inl rfl) :
    Ends (bodyPost P fn (Post F (tup [rep y, S2]))) e n F L B := .ret2 he hr (.cellR hT h trivial Imp.refl) (.tmp h2 trivial Imp.refl)
theorem FSpec.i {f : Nat} {fn : Func} {c : Code} {Ss : List SPred} {S : SPred} (hf : P.funcs[f]? = some fn) (hb : fn.body = some c) (hn : fn.ntmps = n) (hle : Nat.ble Ss.length n = true)
    (h : ∀ F, Cod P c (bodyPost P fn (Post F S)) n F (args0 0 Ss) []) (hN : (fn.name == "runtime.NumGoroutine") = false := by kernel_rfl) (hB : fn.body.isNone = false := by kernel_rfl) : FSpec P f Ss S := .intro ⟨fn, hf, hN, hB⟩ hf hb hn hle h
theorem FSpecO.i {f : Nat} {fn : Func} {c : Code} {Ss : List SPred} {Os : Given} {S : SPred} {outs : List (Option CPred)} (hf : P.funcs[f]? = some fn) (hb : fn.body = some c) (hn : fn.ntmps = n) (hle : Nat.ble Ss.length n = true)
    (h : ∀ F, Cod P c (bodyPost P fn (PostO F S (Os.map (·.1)) outs)) n F (args0 0 Ss) (owns0 n Os)) (hN : (fn.name == "runtime.NumGoroutine") = false := by kernel_rfl) (hB : fn.body.isNone = false := by kernel_rfl) : FSpecO P f Ss Os S outs := .intro ⟨fn, hf, hN, hB⟩ hf hb hn hle h
end
end Go.DB

