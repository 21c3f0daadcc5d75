/-
  Plain rules on the program's operations, code and memory (texts laid together).
-/
import Derived.Test.YtclcheggnlhamaaDoorCoreB
/-
 Integers of every kind; bits; what is nil; boxes of one's own made of values.
-/
set_option linter.unusedSimpArgs false
set_option linter.unusedVariables false
namespace Go.DB
open Go Go.RowKit
structure KI (k : IntKind) where
 n : Int
 deriving DecidableEq, Inhabited
instance {k : IntKind} : Rep (KI k) where
 sz := 1
 agg := false
 cells := fun _ x cs _ => cs = [.int k x.n]
 len := fun h => by rw [h]; rfl
 pos := by decide
 flat := fun h => by rw [h]; rfl
 plain := fun h c hc => by rw [h] at hc; simp at hc; rw [hc]; rfl
 law := fun _ _ h => h
instance {k : IntKind} : Flat (KI k) := ⟨fun h => h⟩
instance {k : IntKind} : Fits (KI k) := ⟨fun _ => True⟩
instance {k : IntKind} : FitsRep (KI k) := ⟨fun _ => trivial⟩
theorem rep_ki {k : IntKind} {x : KI k} {M : MSet} {v : Value} {w : World} : (rep x).p M v w ↔ v = .int k x.n := by
 constructor
 ·
  rintro ⟨cs, h, hv⟩; subst h; exact hv
 ·
  intro h; exact ⟨[.int k x.n], rfl, h⟩
theorem Opd.ki {L : Slots} {G : Prop} {k : IntKind} {n : Int} : Opd L G (.const (.int k n)) (rep (⟨n⟩ : KI k)) := fun _ _ => rep_ki.2 rfl
def KI.shr {k : IntKind} (a : KI k) (b : Int) : KI k := ⟨a.n.fdiv (2 ^ min b.toNat k.bits)⟩
def KI.of (k : IntKind) (n : Int) : KI k := ⟨k.wrap n⟩
section
variable {P : Program} {ops : Array Oper} {fs : Nat} {L : Slots} {B : Owns} {G : Prop}
variable {d : Option Tmp} {ty : TypeId} {pos : String} {after : Array Edge} {g : Option (Nat × Bool)} {xr : List Nat}
theorem ex_bin2 {ρ : Operand → Value} {op : BinOp} {x y : Operand} {T T' : TypeId} {j k : IntKind} {m n : Int} {v : Value} {w : World} (hx : ρ x = .int j m) (hy : ρ y = .int k n)
  (hv : (binOp op T (.int j m) (.int k n)).run P w = .ok v w) :
  (execOp ρ ⟨d, .binOp op T x y T', ty, pos, after, g⟩).run P w = .ok (.value v) w := by
 have hgd : eqGuard op T x y (.int j m) (.int k n) = Pure.pure () := by
  unfold eqGuard; cases op <;> rfl
 simp only [execOp, hx, hy, hgd]
 generalize binOp op T (.int j m) (.int k n) = s at *
 simp [go_sem, hv]
theorem StepOK.kbin {op : BinOp} {x y : Operand} {T T' : TypeId} {k : IntKind} {m n : KI k} {S : SPred} (hg : Guard ops g L G) (hx : Opd L G x (rep m)) (hy : Opd L G y (rep n))
  (h : G → ∃ v, (∀ w, (binOp op T (.int k m.n) (.int k n.n)).run P w = .ok v w) ∧ ∀ M w, S.p M v w) :
  StepOK P ops fs ⟨d, .binOp op T x y T', ty, pos, after, g⟩ L B (xr, []) ⟨G, S⟩ [] :=
 .pure hg fun M a w _ hs hG => by
  have h1 := rep_ki.1 (hx.get hs (fun t ht => looksAt_op (by simp [Op.operands, ht])) hG)
  have h2 := rep_ki.1 (hy.get hs (fun t ht => looksAt_op (by simp [Op.operands, ht])) hG)
  obtain ⟨v, hv, hS⟩ := h hG
  exact ⟨v, ex_bin2 h1 h2 (hv w), hS M w⟩
theorem run_kk {op : BinOp} {T : TypeId} {k : IntKind} {a b : Int} (h1 : op ≠ .shl) (h2 : op ≠ .shr) {s : Sem Value}
  (h : (match op with
  | .add | .sub | .mul => Op.intArith op k a b
  | .quo | .rem => Op.intDiv op k a b
  | .and | .or | .xor | .andNot => Op.intBits op k a b
  | _ => Op.intCmp op a b) = s) : binOp op T (.int k a) (.int k b) = s := by
 cases op <;> first | exact absurd rfl h1 | exact absurd rfl h2 | (simp only [binOp, ne_eq, not_true_eq_false, if_false]; exact h)
variable {x y : Operand} {T T' : TypeId} {k : IntKind} {m n : KI k}
theorem StepOK.keql (hg : Guard ops g L G) (hx : Opd L G x (rep m)) (hy : Opd L G y (rep n)) : StepOK P ops fs ⟨d, .binOp .eql T x y T', ty, pos, after, g⟩ L B (xr, []) ⟨G, rep (decide (m.n = n.n))⟩ [] :=
 .kbin hg hx hy fun _ => ⟨_, fun _ => by rw [run_kk (by decide) (by decide) rfl]; rfl, fun _ _ => rep_bool.2 rfl⟩
theorem StepOK.kneq (hg : Guard ops g L G) (hx : Opd L G x (rep m)) (hy : Opd L G y (rep n)) : StepOK P ops fs ⟨d, .binOp .neq T x y T', ty, pos, after, g⟩ L B (xr, []) ⟨G, rep (!decide (m.n = n.n))⟩ [] :=
 .kbin hg hx hy fun _ => ⟨_, fun _ => by rw [run_kk (by decide) (by decide) rfl]; rfl, fun _ _ => rep_bool.2 rfl⟩
theorem StepOK.klss (hg : Guard ops g L G) (hx : Opd L G x (rep m)) (hy : Opd L G y (rep n)) : StepOK P ops fs ⟨d, .binOp .lss T x y T', ty, pos, after, g⟩ L B (xr, []) ⟨G, rep (decide (m.n < n.n))⟩ [] :=
 .kbin hg hx hy fun _ => ⟨_, fun _ => by rw [run_kk (by decide) (by decide) rfl]; rfl, fun _ _ => rep_bool.2 rfl⟩
theorem StepOK.kleq (hg : Guard ops g L G) (hx : Opd L G x (rep m)) (hy : Opd L G y (rep n)) : StepOK P ops fs ⟨d, .binOp .leq T x y T', ty, pos, after, g⟩ L B (xr, []) ⟨G, rep (decide (m.n ≤ n.n))⟩ [] :=
 .kbin hg hx hy fun _ => ⟨_, fun _ => by rw [run_kk (by decide) (by decide) rfl]; rfl, fun _ _ => rep_bool.2 rfl⟩
theorem StepOK.kgeq (hg : Guard ops g L G) (hx : Opd L G x (rep m)) (hy : Opd L G y (rep n)) : StepOK P ops fs ⟨d, .binOp .geq T x y T', ty, pos, after, g⟩ L B (xr, []) ⟨G, rep (decide (n.n ≤ m.n))⟩ [] :=
 .kbin hg hx hy fun _ => ⟨_, fun _ => by rw [run_kk (by decide) (by decide) rfl]; rfl, fun _ _ => rep_bool.2 rfl⟩
class IsInt (α : Type) [Rep α] where
 kind : IntKind
 val : α → Int
 spec : ∀ {x : α} {M : MSet} {v : Value} {w : World}, (rep x).p M v w → v = .int kind (val x)
instance : IsInt Int := ⟨.i64, fun n => n, fun h => (rep_int.1 h).1⟩
instance {k : IntKind} : IsInt (KI k) := ⟨k, fun x => x.n, fun h => rep_ki.1 h⟩
theorem StepOK.kshr {α : Type} [Rep α] [IsInt α] {b : α} (hg : Guard ops g L G) (hx : Opd L G x (rep m)) (hy : Opd L G y (rep b)) (h0 : G → 0 ≤ IsInt.val b) :
  StepOK P ops fs ⟨d, .binOp .shr T x y T', ty, pos, after, g⟩ L B (xr, []) ⟨G, rep (m.shr (IsInt.val b))⟩ [] :=
 .pure hg fun M a w _ hs hG => by
  have h1 := rep_ki.1 (hx.get hs (fun t ht => looksAt_op (by simp [Op.operands, ht])) hG)
  have h2 := IsInt.spec (hy.get hs (fun t ht => looksAt_op (by simp [Op.operands, ht])) hG)
  refine ⟨_, ex_bin2 h1 h2 (v := .int k (m.shr (IsInt.val b)).n) ?_, rep_ki.2 rfl⟩
  simp only [binOp, Op.shift]
  rw [if_neg (by have := h0 hG; omega)]; rfl
theorem ex_convert {ρ : Operand → Value} {x : Operand} {src dst : TypeId} {v u : Value} {w : World} (hx : ρ x = v) (h : (convert src dst v).run P w = .ok u w) :
  (execOp ρ ⟨d, .convert src dst x, ty, pos, after, g⟩).run P w = .ok (.value u) w := by
 simp only [execOp, hx]
 generalize convert src dst v = s at *
 simp [go_sem, h]
theorem run_convert_int {src dst : TypeId} {k j : IntKind} {n : Int} {w : World} {D : TypeDesc} (hs : P.underlying src = some D) (hd : P.underlying dst = some (.int k)) : (convert src dst (.int j n)).run P w = .ok (.int k (k.wrap n)) w := by
 simp [convert, underlying, hs, hd, go_sem, Conv.intToInt]
theorem StepOK.toK {src dst : TypeId} {k : IntKind} {α : Type} [Rep α] [IsInt α] {b : α} (hg : Guard ops g L G) (hs : (P.underlying src).isSome = true) (hd : P.underlying dst = some (.int k)) (hx : Opd L G x (rep b)) :
  StepOK P ops fs ⟨d, .convert src dst x, ty, pos, after, g⟩ L B (xr, []) ⟨G, rep (KI.of k (IsInt.val b))⟩ [] :=
 .pure hg fun M a w _ hsat hG => by
  have h1 := IsInt.spec (hx.get hsat (fun t ht => looksAt_op (by simp [Op.operands, ht])) hG)
  obtain ⟨D, hD⟩ := Option.isSome_iff_exists.1 hs
  exact ⟨_, ex_convert h1 (run_convert_int hD hd), rep_ki.2 rfl⟩
theorem StepOK.toInt {src dst : TypeId} {α : Type} [Rep α] [IsInt α] {b : α} (hg : Guard ops g L G) (hs : (P.underlying src).isSome = true) (hd : P.underlying dst = some (.int .i64)) (hx : Opd L G x (rep b)) :
  StepOK P ops fs ⟨d, .convert src dst x, ty, pos, after, g⟩ L B (xr, []) ⟨G, rep (W (IsInt.val b))⟩ [] :=
 .pure hg fun M a w _ hsat hG => by
  have h1 := IsInt.spec (hx.get hsat (fun t ht => looksAt_op (by simp [Op.operands, ht])) hG)
  obtain ⟨D, hD⟩ := Option.isSome_iff_exists.1 hs
  exact ⟨_, ex_convert h1 (run_convert_int hD hd), rep_int.2 ⟨by unfold W; rfl, W_in _⟩⟩
def nilB {α : Type} (l : List α) : SPred := ⟨fun _ v _ => ∃ b, v = .bool b ∧ (b = true → l = []), fun _ _ _ _ _ _ _ h => h⟩
open Classical in
noncomputable def nilc {α β : Type} (l : List α) (x y : Option β) : Option β := if l = [] then (if x = y then y else none) else y
theorem nilc_t {α β : Type} {l : List α} {x y : Option β} {r : β} (h : nilc l x y = some r) (hl : l = []) : x = some r := by
 unfold nilc at h
 rw [if_pos hl] at h
 by_cases e : x = y
 ·
  rw [if_pos e] at h; rw [e]; exact h
 ·
  rw [if_neg e] at h; cases h
theorem nilc_f {α β : Type} {l : List α} {x y : Option β} {r : β} (h : nilc l x y = some r) : y = some r := by
 unfold nilc at h
 by_cases hl : l = []
 ·
  rw [if_pos hl] at h
  by_cases e : x = y
  ·
   rw [if_pos e] at h; exact h
  ·
   rw [if_neg e] at h; cases h
 ·
  rw [if_neg hl] at h; exact h
theorem nilc_eq {α β : Type} {l : List α} {x y : Option β} (h : l = [] → x = y) : nilc l x y = y := by
 unfold nilc
 by_cases hl : l = []
 ·
  rw [if_pos hl, if_pos (h hl)]
 ·
  rw [if_neg hl]
theorem run_eqNil {T E : TypeId} {a : Option Addr} {n c : Nat} {w : World} {p q : Operand} (hT : SliceOf P T E) : (do eqGuard .eql T p q (.slice a n c) (.slice none 0 0); binOp .eql T (.slice a n c) (.slice none 0 0) : Sem Value).run P w = .ok (.bool a.isNone) w := by
 have hun : (underlying T).run P w = .ok (.slice E) w := by simp [underlying, show P.underlying T = _ from hT, go_sem]
 have h1 : (Op.equal T (.slice a n c) (.slice none 0 0)).run P w = .ok a.isNone w := by
  unfold Op.equal Op.maxDepth Op.equalIn
  rw [Sem.run_bind, hun]
  simp only [Result.andThen]
  cases a <;> rfl
 rw [Sem.run_bind, show (eqGuard .eql T p q (.slice a n c) (.slice none 0 0)).run P w = .ok () w from rfl]
 simp only [Result.andThen, binOp]
 rw [Sem.run_bind, h1]; rfl
theorem ex_eqNil {ρ : Operand → Value} {T T' E : TypeId} {x y : Operand} {ad : Option Addr} {n c : Nat} {w : World} (hT : SliceOf P T E) (hx : ρ x = .slice ad n c) (hy : ρ y = .slice none 0 0) :
  (execOp ρ ⟨d, .binOp .eql T x y T', ty, pos, after, g⟩).run P w = .ok (.value (.bool ad.isNone)) w := by
 simp only [execOp, hx, hy]
 rw [Sem.run_bind, run_eqNil hT]; rfl
theorem StepOK.eqNil {E : TypeId} {α : Type} [Rep α] {l : List α} (hg : Guard ops g L G) (hT : SliceOf P T E) (hx : Opd L G x (rep l)) :
  StepOK P ops fs ⟨d, .binOp .eql T x (.const (.slice none 0 0)) T', ty, pos, after, g⟩ L B (xr, []) ⟨G, nilB l⟩ [] :=
 .pure hg fun M a w _ hs hG => by
  obtain ⟨ad, cap, hv, _, _, hl⟩ := rep_list.1 (hx.get hs (fun t ht => looksAt_op (by simp [Op.operands, ht])) hG)
  refine ⟨.bool ad.isNone, ex_eqNil hT hv rfl, ad.isNone, rfl, fun h => ?_⟩
  ·
   cases ad with
   | none => exact hl
   | some ad => cases h
theorem Cod.condNil {Q : Exit → Act → World → Prop} {n : Nat} {F : Fr} {t : Nat} {x y : Code} {α : Type} {l : List α} {c : Prop} (hl : look L t = some ⟨c, nilB l⟩) (hc : c)
  (h1 : l = [] → Cod P x Q n F L B) (h2 : Cod P y Q n F L B) : Cod P (.cond (.tmp t) x y) Q n F L B := by
 intro a w hs
 obtain ⟨M, D, hs1⟩ := id hs
 obtain ⟨v, hv, he⟩ := hs1.has t _ hl
 obtain ⟨b, hb, hbl⟩ := he.1 hc
 have hev : a.eval (.tmp t) = .bool b := by rw [Act.eval_tmp hv, hb]
 cases b with
 | true => exact wp_cond_true hev (h1 (hbl rfl) a w hs)
 | false => exact wp_cond_false hev (h2 a w hs)
theorem StepOK.boxO {d T : Nat} {α : Type} [Rep α] {z : α} (hd : Nat.blt d fs = true) (hx : Opd L True x (rep z)) :
  StepOK P ops fs ⟨some d, .box T x, ty, pos, after, none⟩ L B ([], [d]) ⟨True, anyV⟩ [(d, some (cont T z))] := by
 refine .doing fun M D a w hsz hm hs _ => ?_
 obtain ⟨cs, hc, hv⟩ := hx.get hs (fun t ht => looksAt_op (by simp [Op.operands, ht])) trivial
 have hcs : (a.eval x).cells = cs.toArray := by rw [hv]; exact Rep.flat hc
 refine Does.value (ex_box hcs) (.one (fun k => M k ∨ k = w.heap.size) (fun k => k = w.heap.size) (Ext.alloc _ _) (fun k h => .inl h) (fun k h => h.imp id (by omega)) (fun k h => ?_) ⟨fun _ => trivial, fun hf => (hf trivial).elim⟩ ?_ (fun k h => by omega))
 ·
  rw [size_new]
  rcases h with h | h
  ·
   have := hm k h; omega
  ·
   omega
 ·
  rw [val_self (by rw [hsz]; exact Nat.le_of_ble_eq_true hd)]
  refine ⟨w.heap.size, cs, rfl, fun k => Iff.rfl, .inr rfl, ?_, Rep.law (Ext.alloc w _).keeps (fun k h => h.imp id (by omega)) hc⟩
  show (w.heap.push _)[w.heap.size]? = _
  rw [Array.getElem?_push_size]
end
end Go.DB
/-
 Boxes that hold rows of one's own; closures that write.
-/
set_option linter.unusedSimpArgs false
set_option linter.unusedVariables false
namespace Go.DB
open Go Go.RowKit
def CPred.ex {ι : Type} (C : ι → CPred) : CPred where
 p := fun M D v w => ∃ i, (C i).p M D v w
 inM := fun M D v w ⟨i, h⟩ => (C i).inM M D v w h
 law := fun M M' D v w w' hk hm hD ⟨i, h⟩ => ⟨i, (C i).law M M' D v w w' hk hm hD h⟩
def CPred.star (C : CPred) (s : Value) (C' : CPred) : CPred where
 p := fun M D v w => ∃ D1 D2, C.p M D1 v w ∧ C'.p M D2 s w ∧ (∀ k, D k ↔ D1 k ∨ D2 k) ∧ ∀ k, D1 k → ¬ D2 k
 inM := fun M D v w ⟨D1, D2, h1, h2, h3, _⟩ k hk => ((h3 k).1 hk).elim (C.inM M D1 v w h1 k) (C'.inM M D2 s w h2 k)
 law := fun M M' D v w w' hk hm hD ⟨D1, D2, h1, h2, h3, h4⟩ => ⟨D1, D2, C.law M M' D1 v w w' hk hm (fun k h => hD k ((h3 k).2 (.inl h))) h1, C'.law M M' D2 s w w' hk hm (fun k h => hD k ((h3 k).2 (.inr h))) h2, h3, h4⟩
abbrev deep (C : Value → CPred) (R : CPred) : CPred := CPred.ex fun s => CPred.star (C s) s R
section
variable {n : Nat} {F : Fr} {L : Slots} {B : Owns}
theorem Sat1.retell {M : MSet} {D : Nat → MSet} {a : Act} {w : World} {k : Nat} {C C' : CPred} (h : Sat1 n F L B M D a w) (hl : lookB B k = some C) (hC : C'.p M (D k) (Act.val a k) w) : Sat1 n F L ((k, some C') :: B) M D a w := by
 have cs : ∀ t c, lookB ((k, some C') :: B) t = some c → (t = k ∧ c = C') ∨ (t ≠ k ∧ lookB B t = some c) := by
  intro t c hc
  simp only [lookB] at hc
  by_cases h1 : k = t
  ·
   subst h1; simp at hc; exact .inl ⟨rfl, hc.symm⟩
  ·
   rw [beq_ne h1, cond_false] at hc; exact .inr ⟨Ne.symm h1, hc⟩
 refine ⟨h.size, h.defers, h.keeps, h.mf0, h.mlow, h.mhigh, h.msub, h.has, fun t c hc => ?_, fun t c hc => ?_, fun t1 t2 c1 c2 h1 h2 hne => ?_⟩
 ·
  rcases cs t c hc with ⟨rfl, rfl⟩ | ⟨_, h2⟩
  ·
   exact hC
  ·
   exact h.hasB t c h2
 ·
  rcases cs t c hc with ⟨rfl, rfl⟩ | ⟨_, h2⟩
  ·
   exact h.own t _ hl
  ·
   exact h.own t c h2
 ·
  rcases cs t1 c1 h1 with ⟨rfl, rfl⟩ | ⟨_, a2⟩ <;> rcases cs t2 c2 h2 with ⟨rfl, rfl⟩ | ⟨_, b2⟩
  ·
   exact absurd rfl hne
  ·
   exact h.apart _ _ _ _ hl b2 hne
  ·
   exact h.apart _ _ _ _ a2 hl hne
  ·
   exact h.apart _ _ _ _ a2 b2 hne
theorem Sat.open {k g : Nat} {v : Value} {C : Value → CPred} {R : CPred} (hl : lookB B k = some (CPred.at v (deep C R))) (hg : lookB B g = none) {a : Act} {w : World} (h : Sat n F L B a w) :
  ∃ s, Sat n F L ((g, some (CPred.at s R)) :: (k, some (CPred.at v (C s))) :: B) a w := by
 obtain ⟨M, D, h⟩ := h
 have hC : (deep C R).p M (D k) v w := h.hasB k _ hl
 obtain ⟨s, D1, D2, h1, h2, h3, h4⟩ := hC
 have hgk : g ≠ k := fun e => by subst e; rw [hg] at hl; cases hl
 refine ⟨s, M, fun t => if t = g then D2 else if t = k then D1 else D t, ?_⟩
 have cs : ∀ t c, lookB ((g, some (CPred.at s R)) :: (k, some (CPred.at v (C s))) :: B) t = some c → (t = g ∧ c = CPred.at s R) ∨ (t = k ∧ c = CPred.at v (C s)) ∨ (t ≠ g ∧ t ≠ k ∧ lookB B t = some c) := by
  intro t c hc
  simp only [lookB] at hc
  by_cases e1 : g = t
  ·
   subst e1; simp at hc; exact .inl ⟨rfl, hc.symm⟩
  ·
   rw [beq_ne e1, cond_false] at hc
   by_cases e2 : k = t
   ·
    subst e2; simp at hc; exact .inr (.inl ⟨rfl, hc.symm⟩)
   ·
    rw [beq_ne e2, cond_false] at hc; exact .inr (.inr ⟨Ne.symm e1, Ne.symm e2, hc⟩)
 have sub : ∀ t, t ≠ g → ∀ j, (if t = g then D2 else if t = k then D1 else D t) j → D t j := by
  intro t ht j hj
  rw [if_neg ht] at hj
  by_cases e : t = k
  ·
   subst e; rw [if_pos rfl] at hj; exact (h3 j).2 (.inl hj)
  ·
   rw [if_neg e] at hj; exact hj
 refine ⟨h.size, h.defers, h.keeps, h.mf0, h.mlow, h.mhigh, h.msub, h.has, fun t c hc => ?_, fun t c hc j hj => ?_, fun t1 t2 c1 c2 q1 q2 hne j j1 j2 => ?_⟩
 ·
  rcases cs t c hc with ⟨rfl, rfl⟩ | ⟨rfl, rfl⟩ | ⟨e1, e2, h5⟩
  ·
   rw [if_pos rfl]; exact h2
  ·
   rw [if_neg (Ne.symm hgk), if_pos rfl]; exact h1
  ·
   rw [if_neg e1, if_neg e2]; exact h.hasB t c h5
 ·
  rcases cs t c hc with ⟨rfl, rfl⟩ | ⟨rfl, rfl⟩ | ⟨e1, e2, h5⟩
  ·
   rw [if_pos rfl] at hj; exact h.own k _ hl j ((h3 j).2 (.inr hj))
  ·
   exact h.own _ _ hl j (sub _ (Ne.symm hgk) j hj)
  ·
   exact h.own t c h5 j (sub _ e1 j hj)
 ·
  rcases cs t1 c1 q1 with ⟨rfl, rfl⟩ | ⟨rfl, rfl⟩ | ⟨e1, e2, h5⟩ <;> rcases cs t2 c2 q2 with ⟨rfl, rfl⟩ | ⟨rfl, rfl⟩ | ⟨f1, f2, h6⟩
  ·
   exact hne rfl
  ·
   rw [if_pos rfl] at j1; rw [if_neg (Ne.symm hgk), if_pos rfl] at j2; exact h4 j j2 j1
  ·
   rw [if_pos rfl] at j1; exact h.apart k t2 _ _ hl h6 (Ne.symm f2) j ((h3 j).2 (.inr j1)) (sub _ f1 j j2)
  ·
   rw [if_pos rfl] at j2; rw [if_neg (Ne.symm hgk), if_pos rfl] at j1; exact h4 j j1 j2
  ·
   exact hne rfl
  ·
   exact h.apart _ t2 _ _ hl h6 hne j (sub _ (Ne.symm hgk) j j1) (sub _ f1 j j2)
  ·
   rw [if_pos rfl] at j2; exact h.apart t1 k _ _ h5 hl e2 j (sub _ e1 j j1) ((h3 j).2 (.inr j2))
  ·
   exact h.apart t1 _ _ _ h5 hl hne j (sub _ e1 j j1) (sub _ (Ne.symm hgk) j j2)
  ·
   exact h.apart t1 t2 _ _ h5 h6 hne j (sub _ e1 j j1) (sub _ f1 j j2)
theorem Sat.close {k g : Nat} {v s : Value} (C : Value → CPred) {R : CPred} (hl : lookB B k = some (CPred.at v (C s))) (hg : lookB B g = some (CPred.at s R)) (hgk : (g == k) = false) {a : Act} {w : World} (h : Sat n F L B a w) :
  Sat n F L ((g, none) :: (k, some (CPred.at v (deep C R))) :: B) a w := by
 obtain ⟨M, D, h⟩ := h
 have hgk : g ≠ k := by simpa using hgk
 have h1 : (C s).p M (D k) v w := h.hasB k _ hl
 have h2 : R.p M (D g) s w := h.hasB g _ hg
 have h4 := h.apart k g _ _ hl hg (Ne.symm hgk)
 refine ⟨M, fun t => if t = k then fun j => D k j ∨ D g j else D t, ?_⟩
 have cs : ∀ t c, lookB ((g, none) :: (k, some (CPred.at v (deep C R))) :: B) t = some c → (t = k ∧ c = CPred.at v (deep C R)) ∨ (t ≠ g ∧ t ≠ k ∧ lookB B t = some c) := by
  intro t c hc
  simp only [lookB] at hc
  by_cases e1 : g = t
  ·
   subst e1; simp at hc
  ·
   rw [beq_ne e1, cond_false] at hc
   by_cases e2 : k = t
   ·
    subst e2; simp at hc; exact .inl ⟨rfl, hc.symm⟩
   ·
    rw [beq_ne e2, cond_false] at hc; exact .inr ⟨Ne.symm e1, Ne.symm e2, hc⟩
 refine ⟨h.size, h.defers, h.keeps, h.mf0, h.mlow, h.mhigh, h.msub, h.has, fun t c hc => ?_, fun t c hc j hj => ?_, fun t1 t2 c1 c2 q1 q2 hne j j1 j2 => ?_⟩
 ·
  rcases cs t c hc with ⟨rfl, rfl⟩ | ⟨e1, e2, h5⟩
  ·
   rw [if_pos rfl]; exact ⟨s, D t, D g, h1, h2, fun _ => Iff.rfl, h4⟩
  ·
   rw [if_neg e2]; exact h.hasB t c h5
 ·
  rcases cs t c hc with ⟨rfl, rfl⟩ | ⟨e1, e2, h5⟩
  ·
   rw [if_pos rfl] at hj; exact hj.elim (h.own t _ hl j) (h.own g _ hg j)
  ·
   rw [if_neg e2] at hj; exact h.own t c h5 j hj
 ·
  rcases cs t1 c1 q1 with ⟨rfl, rfl⟩ | ⟨e1, e2, h5⟩ <;> rcases cs t2 c2 q2 with ⟨rfl, rfl⟩ | ⟨f1, f2, h6⟩
  ·
   exact hne rfl
  ·
   rw [if_pos rfl] at j1; rw [if_neg f2] at j2
   exact j1.elim (fun x => h.apart _ t2 _ _ hl h6 hne j x j2) (fun x => h.apart g t2 _ _ hg h6 (Ne.symm f1) j x j2)
  ·
   rw [if_pos rfl] at j2; rw [if_neg e2] at j1
   exact j2.elim (fun x => h.apart t1 _ _ _ h5 hl hne j j1 x) (fun x => h.apart t1 g _ _ h5 hg e1 j j1 x)
  ·
   rw [if_neg e2] at j1; rw [if_neg f2] at j2; exact h.apart t1 t2 _ _ h5 h6 hne j j1 j2
variable {P : Program} {Q : Exit → Act → World → Prop}
theorem Cod.open {c : Code} {k g : Nat} {v : Value} {C : Value → CPred} {R : CPred} (hl : lookB B k = some (CPred.at v (deep C R))) (hg : lookB B g = none) (h : ∀ s, Cod P c Q n F L ((g, some (CPred.at s R)) :: (k, some (CPred.at v (C s))) :: B)) : Cod P c Q n F L B :=
 fun a w hs => let ⟨s, h1⟩ := hs.open hl hg; h s a w h1
theorem Cod.close {c : Code} {k g : Nat} {v s : Value} (C : Value → CPred) {R : CPred} (hl : lookB B k = some (CPred.at v (C s))) (hg : lookB B g = some (CPred.at s R)) (hgk : (g == k) = false) (h : Cod P c Q n F L ((g, none) :: (k, some (CPred.at v (deep C R))) :: B)) : Cod P c Q n F L B :=
 fun a w hs => h a w (hs.close C hl hg hgk)
theorem Ends.close {e : Exit} {k g : Nat} {v s : Value} (C : Value → CPred) {R : CPred} (hl : lookB B k = some (CPred.at v (C s))) (hg : lookB B g = some (CPred.at s R)) (hgk : (g == k) = false) (h : Ends Q e n F L ((g, none) :: (k, some (CPred.at v (deep C R))) :: B)) : Ends Q e n F L B :=
 fun a w hs => h a w (hs.close C hl hg hgk)
end
theorem Cod.tailJ {P : Program} {Q : Exit → Act → World → Prop} {n : Nat} {F : Fr} {L : Slots} {B : Owns} {x : Code} {ι : Type} (Ls : ι → Slots) (Bs : ι → Owns) (prop : ι → Prop) {keep : Slots} {keepB : Owns} (hk : Sub L keep) (hkB : SubB B keepB)
  (h : Cod P x (Exit.then (fun a w => ∃ j, prop j ∧ Sat n F (Ls j ++ keep) (Bs j ++ keepB) a w) Q) n F L B)
  (k : ∀ i, prop i → Ends Q .normal n F (Ls i ++ keep) (Bs i ++ keepB)) : Cod P x Q n F L B := fun a w hs => wp_mono (h a w hs) (fun e a w hq => by
 cases e with
 | normal => obtain ⟨j, h1, h2⟩ := hq; exact k j h1 a w h2
 | _ => exact hq)
def contS (T : TypeId) (S : SPred) : CPred where
 p := fun M D v w => ∃ m u, v = .pointer (some ⟨m, 0, none⟩) ∧ (∀ k, D k ↔ k = m) ∧ M m ∧ w.heap[m]? = some (.cells #[u] T (0, 0)) ∧ S.p M u w
 inM := fun M D v w ⟨m, u, hv, hD, hM, _⟩ k hk => (hD k).1 hk ▸ hM
 law := fun M M' D v w w' hk hm hown ⟨m, u, hv, hD, hM, hh, hS⟩ => by
  obtain ⟨h1, h2⟩ := hown m ((hD m).2 rfl)
  exact ⟨m, u, hv, hD, h1, by rw [h2]; exact hh, S.law M M' u w w' hk hm hS⟩
end Go.DB
/-
 Operations on boxes that hold rows of one's own; closures that write.
-/
set_option linter.unusedSimpArgs false
set_option linter.unusedVariables false
namespace Go.DB
open Go Go.RowKit
section
variable {P : Program} {ops : Array Oper} {fs : Nat} {L : Slots} {B : Owns} {G : Prop}
variable {d : Option Tmp} {ty : TypeId} {pos : String} {after : Array Edge} {g : Option (Nat × Bool)} {xr : List Nat}
theorem Leaves.merge {o : Oper} {D : Nat → MSet} {E : Ent} {M : MSet} {a : Act} {w : World} {v : Value} {w' : World} {k t : Nat} {C Ck Ct : CPred} (hlk : lookB B k = some Ck) (hlt : lookB B t = some Ct)
  (hk : Keeps (D k) w w') (h3 : ∀ j, M j → j < w'.heap.size) (h4 : E.holds M v w') (h5 : C.p M (fun j => D k j ∨ D t j) (Act.val (a.put o.dst v) k) w') :
  Leaves o B D [k, t] E [(k, some C), (t, none)] M a w v w' := by
 have m1 : ∀ j, D k j → Mine [k, t] B D j := fun j hj => ⟨k, by simp, Ck, hlk, hj⟩
 have m2 : ∀ j, D t j → Mine [k, t] B D j := fun j hj => ⟨t, by simp, Ct, hlt, hj⟩
 refine ⟨M, fun _ => fun j => D k j ∨ D t j, hk.mono (fun j _ h => m1 j h), fun j h => .inl h, fun j h => .inl h, h3, h4, fun t' c hc => ?_, fun t1 t2 c1 c2 hc1 hc2 hne => ?_⟩
 ·
  obtain ⟨rfl, hc'⟩ := lookB2 (C := some C) hc
  obtain rfl : C = c := Option.some.inj hc'
  exact ⟨h5, fun j hj => .inl (hj.elim (m1 j) (m2 j))⟩
 ·
  exact absurd ((lookB2 hc1).1.trans (lookB2 hc2).1.symm) hne
def valV {α : Type} [Rep α] (y : α) : CPred where
 p := fun M D v w => (∀ k, ¬ D k) ∧ (rep y).p M v w
 inM := fun M D v w h k hk => absurd hk (h.1 k)
 law := fun M M' D v w w' hk hm _ h => ⟨h.1, (rep y).law M M' v w w' hk hm h.2⟩
theorem SatOn.extend {ts : List Nat} {M : MSet} {a : Act} {w : World} {t : Nat} (h : SatOn ts M L a w) (ht : t < a.tmps.size) (h1 : isOne (Act.val a t) = true) (h2 : (Act.val a t).cells = #[Act.val a t]) :
  SatOn ts M ((t, ⟨True, isV (Act.val a t)⟩) :: L) a w := by
 intro t' ht' e he
 simp only [look] at he
 by_cases hne : t = t'
 ·
  subst hne
  simp at he; subst he
  exact ⟨Act.val a t, by unfold Act.val; simp [ht], fun _ => rep_raw.2 ⟨rfl, h1, h2⟩, fun hf => (hf trivial).elim⟩
 ·
  rw [beq_ne hne, cond_false] at he; exact h t' ht' e he
theorem row_one {α : Type} [Rep α] {E : Nat} {l : List α} {M D : MSet} {v : Value} {w : World} (h : (rowV E l).p M D v w) : isOne v = true ∧ v.cells = #[v] := by
 obtain ⟨ad, cap, rfl, _⟩ := h; exact ⟨rfl, rfl⟩
theorem ex_buildF {T : Nat} {α : Type} [Rep α] {parts : Array (Nat × Operand)} {x0 y : α} {zero : List Value} {places : List (Nat × Nat)} {Ss : List SPred} {M : MSet} {w : World} {a : Act} (hb : BuildAt P T zero places) (hz : ∀ M w, Rep.cells M x0 zero w) (hagg : Rep.agg α = true)
  (ha : All2 M w Ss ((parts.toList.map (·.2)).map a.eval)) (hf : Fills places x0 (parts.toList.map (·.1)) Ss y) :
  ∃ v, (execOp a.eval ⟨d, .build T parts, ty, pos, after, g⟩).run P w = .ok (.value v) w ∧ (rep y).p M v w := by
 obtain ⟨cs, h1, h2⟩ := hf.run (hz M w) ha
 refine ⟨.agg cs.toArray, ex_build hb ?_, cs, h2, by rw [hagg]; rfl⟩
 rw [← h1, List.map_map, List.zip_map']
 rfl
end
section
variable {P : Program} {Q : Exit → Act → World → Prop} {n : Nat} {F : Fr} {L : Slots} {B : Owns}
def IsBox (C : CPred) : Prop := ∀ M D v w, C.p M D v w → ∃ m, v = ptr m 0
theorem isBox_cont {T : Nat} {α : Type} [Rep α] {y : α} : IsBox (cont T y) := fun M D v w ⟨m, cs, hv, _⟩ => ⟨m, hv⟩
theorem isBox_deep {C : Value → CPred} {R : CPred} (h : ∀ s, IsBox (C s)) : IsBox (deep C R) := fun M D v w ⟨s, D1, D2, h1, _⟩ => h s M D1 v w h1
theorem Cod.nameAt {c : Code} {t g : Nat} {C : CPred} (hl : lookB B t = some C) (ht : Nat.blt t n = true) (hC : IsBox C) (hg : lookB B g = none)
  (k : ∀ m, Cod P c Q n F ((t, ⟨True, isV (ptr m 0)⟩) :: L) ((g, some (CPred.at (ptr m 0) C)) :: (t, none) :: B)) : Cod P c Q n F L B := by
 intro a w hs
 obtain ⟨M, D, h⟩ := id hs
 have h1 := h.hasB t _ hl
 obtain ⟨m, hv⟩ := hC _ _ _ _ h1
 refine k m a w ⟨M, _, h.rekey hl hg (C' := CPred.at (ptr m 0) C) (by rw [← hv]; exact h1) fun t' e he => ?_⟩
 simp only [look] at he
 by_cases hne : t = t'
 ·
  subst hne
  simp at he; subst he
  have hlt : t < a.tmps.size := by rw [h.size]; exact Nat.le_of_ble_eq_true ht
  refine ⟨Act.val a t, by unfold Act.val; simp [hlt], fun _ => ?_, fun hf => (hf trivial).elim⟩
  rw [hv]; exact rep_raw.2 ⟨rfl, rfl, rfl⟩
 ·
  rw [beq_ne hne, cond_false] at he; exact h.has t' e he
end
end Go.DB
/-
 Arrays as values.
-/
set_option linter.unusedSimpArgs false
set_option linter.unusedVariables false
namespace Go.DB
open Go Go.RowKit
structure Arr (n : Nat) (α : Type) where
 l : List α
 deriving Inhabited, DecidableEq
theorem Elems.plainA {α : Type} [Rep α] {M : MSet} {w : World} : ∀ (xs : List α) (cs : List Value), Elems M w xs cs → ∀ c ∈ cs, isOne c = true
 | [], _, h, c, hc => by rw [h] at hc; cases hc
 | x :: xs, _, ⟨c1, r, h, h1, h2⟩, c, hc => by
  rw [h] at hc
  rcases List.mem_append.1 hc with hc | hc
  ·
   exact Rep.plain h1 c hc
  ·
   exact Elems.plainA xs r h2 c hc
instance {n : Nat} {α : Type} [Rep α] : Rep (Arr n α) where
 sz := (n + 1) * Rep.sz α
 agg := true
 cells := fun M x cs w => x.l.length = n + 1 ∧ Elems M w x.l cs
 len := fun h => by rw [Elems.len _ _ h.2, h.1]
 pos := Nat.mul_pos (Nat.succ_pos n) Rep.pos
 flat := fun _ => rfl
 plain := fun h => Elems.plainA _ _ h.2
 law := fun hk hm h => ⟨h.1, Elems.law hk hm _ _ h.2⟩
theorem Elems.flat {α : Type} [Rep α] [Flat α] {M M' : MSet} {w : World} : ∀ (xs : List α) (cs : List Value), Elems M w xs cs → Elems M' w xs cs
 | [], _, h => h
 | x :: xs, _, ⟨c1, r, h, h1, h2⟩ => ⟨c1, r, h, Flat.cells h1, Elems.flat xs r h2⟩
instance {n : Nat} {α : Type} [Rep α] [Flat α] : Flat (Arr n α) := ⟨fun h => ⟨h.1, Elems.flat _ _ h.2⟩⟩
instance {n : Nat} {α : Type} [Fits α] : Fits (Arr n α) := ⟨fun x => x.l.length = n + 1 ∧ ∀ y ∈ x.l, fits y⟩
theorem Elems.fit {α : Type} [Rep α] [Fits α] [FitsRep α] {M : MSet} {w : World} : ∀ (xs : List α) (cs : List Value), Elems M w xs cs → ∀ y ∈ xs, fits y
 | [], _, _, y, hy => by cases hy
 | x :: xs, _, ⟨c1, r, h, h1, h2⟩, y, hy => by
  rcases List.mem_cons.1 hy with rfl | hy
  ·
   exact FitsRep.of h1
  ·
   exact Elems.fit xs r h2 y hy
instance {n : Nat} {α : Type} [Rep α] [Fits α] [FitsRep α] : FitsRep (Arr n α) := ⟨fun h => ⟨h.1, Elems.fit _ _ h.2⟩⟩
section
variable {P : Program} {ops : Array Oper} {fs : Nat} {L : Slots} {B : Owns} {G : Prop}
variable {d : Option Tmp} {ty : TypeId} {pos : String} {after : Array Edge} {g : Option (Nat × Bool)} {xr : List Nat}
end
end Go.DB
/-
 Boxes of function values that nobody writes any more; rows that go into boxes without a name; closures over memory of one's own that are lent.
-/
set_option linter.unusedSimpArgs false
set_option linter.unusedVariables false
namespace Go.DB
open Go Go.RowKit
theorem notT {b : Bool} (h : b = false) : (!b) = true := by rw [h]; rfl
def refS (S : SPred) : SPred where
 p := fun M v w => ∃ b u, v = .pointer (some ⟨b, 0, none⟩) ∧ ¬ M b ∧ b < w.heap.size ∧ S.p M u w ∧ isOne u = true ∧ u.cells = #[u] ∧ w.cell? ⟨b, 0, none⟩ = some u
 law := fun _ _ _ w w' hk hm ⟨b, u, hv, hM, hb, hS, h1, h2, hc⟩ =>
  ⟨b, u, hv, fun h => (hm b h).elim hM (by omega), Nat.lt_of_lt_of_le hb hk.size, S.law _ _ _ _ _ hk hm hS, h1, h2, by rw [← hc]; exact World.cell?_of_block (w := w) (hk.block b hb hM)⟩
def OneS (S : SPred) : Prop := ∀ M v w, S.p M v w → isOne v = true ∧ v.cells = #[v]
theorem fnv_one {P : Program} {ι : Type} {pre : ι → Prop} {Ss : ι → List SPred} {S : ι → SPred} : OneS (fnv P pre Ss S) := fun M v w ⟨f, caps, h, _⟩ => by rw [h]; exact ⟨rfl, rfl⟩
theorem contS_ref {T : Nat} {S : SPred} (hS : OneS S) {M D : MSet} {v : Value} {w : World} (h : (contS T S).p M D v w) (hms : ∀ k, M k → k < w.heap.size) : (refS S).p (fun k => M k ∧ ¬ D k) v w := by
 obtain ⟨m, u, hv, hD, hM, hh, hSu⟩ := h
 obtain ⟨h1, h2⟩ := hS _ _ _ hSu
 exact ⟨m, u, hv, fun hf => hf.2 ((hD m).2 rfl), hms m hM, rep_less hSu (fun k h => h.1), h1, h2, by rw [cell_of_heap hh]; rfl⟩
section
variable {P : Program} {ops : Array Oper} {fs : Nat} {L : Slots} {B : Owns} {G : Prop}
variable {d : Option Tmp} {ty : TypeId} {pos : String} {after : Array Edge} {g : Option (Nat × Bool)} {xr : List Nat}
theorem StepOK.storeS0 {T T' t : Nat} {x : Operand} {S : SPred} {y0 : Raw} (hT : Ty P T Raw) (hl : lookB B t = some (cont T' y0)) (ht : Nat.blt t fs = true) (hx : Opd L True x S) (hS : OneS S) :
  StepOK P ops fs ⟨none, .store T (.tmp t) x, ty, pos, after, none⟩ L B ([t], [t]) ⟨True, anyV⟩ [(t, some (contS T' S))] := by
 refine .doing fun M D a w hsz hm hs hsB => ?_
 obtain ⟨m, old, hvm, hD, hM, hh, hold⟩ := hsB.has t (by simp) _ hl
 have hSv := hx.get hs (fun t ht => looksAt_op (by simp [Op.operands, ht])) trivial
 obtain ⟨q1, q2⟩ := hS _ _ _ hSv
 have hz : Rep.cells M (⟨a.eval x⟩ : Raw) [a.eval x] w := ⟨rfl, q1, q2⟩
 have hat : a.eval (.tmp t) = .pointer (some ⟨m, 0, none⟩) := by
  have hlt : t < a.tmps.size := by rw [hsz]; exact Nat.le_of_ble_eq_true ht
  rw [Act.eval_tmp (v := Act.val a t) (by unfold Act.val; simp [hlt]), hvm]
 obtain ⟨w', h1, h2, h3, h4, h5, h6, h7⟩ := run_storeAt (w := w) (m := m) (off := 0) (cs := [a.eval x]) (pre := []) (mid := old) (rest := []) hT rfl (Rep.len hold) rfl (Rep.plain hz) (Rep.flat hz) (by simpa using hh)
 have hkeep : Keeps (D t) w w' := ⟨h3, h4, h5, by omega, fun k _ hn => h7 k (fun e => hn ((hD k).2 e))⟩
 have hkM : Keeps M w w' := ⟨h3, h4, h5, by omega, fun k _ hn => h7 k (fun e => hn (e ▸ hM))⟩
 refine Does.skip (w' := w') (ex_store (by rw [hat]; exact h1)) rfl (.turn hl hkeep (fun k h => by rw [h6]; exact hm k h) ⟨fun _ => trivial, fun hf => (hf trivial).elim⟩ ?_)
 rw [val_none]
 exact ⟨m, _, hvm, hD, hM, by simpa using h2, S.law M M _ w w' hkM (fun _ h => .inl h) hSv⟩
theorem StepOK.loadF {T : Nat} {x : Operand} {S : SPred} (hg : Guard ops g L G) (hT : Ty P T Raw) (hx : Opd L G x (refS S)) :
  StepOK P ops fs ⟨d, .load T x, ty, pos, after, g⟩ L B (xr, []) ⟨G, S⟩ [] :=
 .pure hg fun M a w _ hs hG => by
  obtain ⟨b, u, hv, hM, hb, hSu, h1, h2, hc⟩ := hx.get hs (fun t ht => looksAt_op (by simp [Op.operands, ht])) hG
  have hz : Rep.cells M (⟨u⟩ : Raw) [u] w := ⟨rfl, h1, h2⟩
  refine ⟨u, ?_, hSu⟩
  have := run_loadAt (P := P) hT hz (b := b) (off := 0) (fun j hj => by
   have : j = 0 := by have : Rep.sz Raw = 1 := rfl; omega
   subst this; simpa using hc)
  simp only [execOp, hv, Sem.run_bind, this, Result.andThen, Sem.run_pure]; rfl
end
end Go.DB
/-
 Functions that are values without captures, and write what they are given.
-/
set_option linter.unusedVariables false
namespace Go.DB
open Go Go.RowKit
variable {L : Slots} {G : Prop}
end Go.DB
