/-
  Loops told by an index; comparison of bools and structs; small things.
-/
import Derived.Test.YthopjimlhjgoiaaDoorCore6
set_option linter.unusedSimpArgs false
set_option linter.unusedVariables false
namespace Go.DB
open Go Go.RowKit

theorem look_eq {L : Slots} {t : Nat} {c : Prop} {α : Type} [Rep α] {x y : α} (h : look L t = some ⟨c, rep x⟩) (e : x = y) : look L t = some ⟨c, rep y⟩ := e ▸ h
theorem lookB_eq {B : Owns} {t T : Nat} {α : Type} [Rep α] {x y : α} (h : lookB B t = some (cont T x)) (e : x = y) : lookB B t = some (cont T y) := e ▸ h
theorem lookB_eqAt {B : Owns} {t T m : Nat} {α : Type} [Rep α] {x y : α} (h : lookB B t = some (boxAt m T x)) (e : x = y) : lookB B t = some (boxAt m T y) := e ▸ h

theorem rep_len {α : Type} [Rep α] {l : List α} : ∀ M v w, (rep l).p M v w → l.length ≤ 9223372036854775807 := by
  intro M v w h
  obtain ⟨_, _, _, h1, h2, _⟩ := rep_list.1 h
  omega
theorem rep_inI {n : Int} : ∀ M v w, (rep n).p M v w → InI n := fun _ _ _ h => (rep_int.1 h).2

theorem look_append {L L' : Slots} {t : Nat} {e : Ent} (h : look (L ++ L') t = some e) : look L t = some e ∨ look L' t = some e := by
  induction L with
  | nil => exact .inr h
  | cons x L ih =>
    obtain ⟨k, e'⟩ := x
    simp only [List.cons_append, look] at h ⊢
    cases hb : Nat.beq k t with
    | true => rw [hb] at h; exact .inl h
    | false => rw [hb] at h; exact ih h
theorem lookB_append {B B' : Owns} {t : Nat} {c : CPred} (h : lookB (B ++ B') t = some c) : lookB B t = some c ∨ lookB B' t = some c := by
  induction B with
  | nil => exact .inr h
  | cons x B ih =>
    obtain ⟨k, e'⟩ := x
    simp only [List.cons_append, lookB] at h ⊢
    cases hb : Nat.beq k t with
    | true => rw [hb] at h; exact .inl h
    | false => rw [hb] at h; exact ih h
theorem Sub.append {L L1 L2 : Slots} (h1 : Sub L L1) (h2 : Sub L L2) : Sub L (L1 ++ L2) := fun t e h => (look_append h).elim (h1 t e) (h2 t e)
theorem SubB.append {B B1 B2 : Owns} (h1 : SubB B B1) (h2 : SubB B B2) : SubB B (B1 ++ B2) := fun t c h => (lookB_append h).elim (h1 t c) (h2 t c)

section
variable {P : Program} {Q : Exit → Act → World → Prop} {n : Nat} {F : Fr} {L : Slots} {B : Owns}

/-- What a slot's value tells of plain data. -/
theorem Cod.fact {c : Code} {t : Nat} {S : SPred} {φ : Prop} {cd : Prop} (hl : look L t = some ⟨cd, S⟩) (hc : cd) (hf : ∀ M v w, S.p M v w → φ) (k : φ → Cod P c Q n F L B) : Cod P c Q n F L B := by
  intro a w hs
  obtain ⟨M, D, h⟩ := id hs
  obtain ⟨v, _, he⟩ := h.has t _ hl
  exact k (hf M v w (he.1 hc)) a w hs

/-- A loop: what is carried, told by an index; what stays. -/
theorem Cod.loopK {c : Code} {ι : Type} (Ls : ι → Slots) (Bs : ι → Owns) (μ : ι → Nat) (i0 : ι) (prop : ι → Prop) (p0 : prop i0) {keep : Slots} {keepB : Owns}
    (h0 : Sub L (Ls i0)) (hB0 : SubB B (Bs i0)) (hk : Sub L keep) (hkB : SubB B keepB)
    (round : ∀ i, prop i → Cod P c (Exit.then (fun a w => ∃ j, (μ j < μ i ∧ prop j) ∧ Sat n F (Ls j ++ keep) (Bs j ++ keepB) a w) Q) n F (Ls i ++ keep) (Bs i ++ keepB)) :
    Cod P (.loop c) Q n F L B := by
  refine Cod.loop (ι := { i // prop i }) (fun i => Ls i.1 ++ keep) (fun i => Bs i.1 ++ keepB) (fun i => μ i.1) ⟨i0, p0⟩ (h0.append hk) (hB0.append hkB) (fun i => ?_)
  intro a w hs
  refine wp_mono (round i.1 i.2 a w hs) (fun e a w hq => ?_)
  cases e with
  | normal => obtain ⟨j, ⟨h1, h2⟩, h3⟩ := hq; exact ⟨⟨j, h2⟩, h1, h3⟩
  | _ => exact hq

theorem Ends.againK {ι : Type} {Ls : ι → Slots} {Bs : ι → Owns} {μ : ι → Nat} {prop : ι → Prop} {i : ι} {keep : Slots} {keepB : Owns} (j : ι) (hμ : μ j < μ i ∧ prop j) (h : Sub L (Ls j ++ keep)) (hB : SubB B (Bs j ++ keepB)) :
    Ends (Exit.then (fun a w => ∃ j, (μ j < μ i ∧ prop j) ∧ Sat n F (Ls j ++ keep) (Bs j ++ keepB) a w) Q) .normal n F L B := fun _ _ hs => ⟨j, hμ, hs.weaken h hB⟩

end

section
variable {P : Program} {ops : Array Oper} {fs : Nat} {L : Slots} {B : Owns} {G : Prop}
variable {d : Option Tmp} {ty : TypeId} {pos : String} {after : Array Edge} {g : Option (Nat × Bool)} {xr : List Nat}

/-- How values of a type are compared. -/
def EqAt (P : Program) (T : Nat) (α : Type) [Rep α] [DecidableEq α] : Prop :=
  ∀ (M : MSet) (w : World) (p q : Operand) (x y : α) (v u : Value), (rep x).p M v w → (rep y).p M u w →
    (do eqGuard .eql T p q v u; binOp .eql T v u : Sem Value).run P w = .ok (.bool (decide (x = y))) w ∧
    (do eqGuard .neq T p q v u; binOp .neq T v u : Sem Value).run P w = .ok (.bool (!decide (x = y))) w

theorem StepOK.eqS {x y : Operand} {T T' : TypeId} {α : Type} [Rep α] [DecidableEq α] {m n : α} (hg : Guard ops g L G) (hE : EqAt P T α) (hx : Opd L G x (rep m)) (hy : Opd L G y (rep n)) :
    StepOK P ops fs ⟨d, .binOp .eql T x y T', ty, pos, after, g⟩ L B (xr, []) ⟨G, rep (decide (m = n))⟩ [] :=
  .pure hg fun M a w _ hs hG => by
    have h1 := hx.get hs (fun t ht => looksAt_op (by simp [Op.operands, ht])) hG
    have h2 := hy.get hs (fun t ht => looksAt_op (by simp [Op.operands, ht])) hG
    refine ⟨_, ?_, rep_bool.2 rfl⟩
    simp only [execOp]
    rw [Sem.run_bind, (hE M w x y m n _ _ h1 h2).1]
    rfl
theorem StepOK.neS {x y : Operand} {T T' : TypeId} {α : Type} [Rep α] [DecidableEq α] {m n : α} (hg : Guard ops g L G) (hE : EqAt P T α) (hx : Opd L G x (rep m)) (hy : Opd L G y (rep n)) :
    StepOK P ops fs ⟨d, .binOp .neq T x y T', ty, pos, after, g⟩ L B (xr, []) ⟨G, rep (!decide (m = n))⟩ [] :=
  .pure hg fun M a w _ hs hG => by
    have h1 := hx.get hs (fun t ht => looksAt_op (by simp [Op.operands, ht])) hG
    have h2 := hy.get hs (fun t ht => looksAt_op (by simp [Op.operands, ht])) hG
    refine ⟨_, ?_, rep_bool.2 rfl⟩
    simp only [execOp]
    rw [Sem.run_bind, (hE M w x y m n _ _ h1 h2).2]
    rfl

theorem run_equalIn_bool (k : Nat) {T : Nat} {x y : Bool} {w : World} (hT : P.underlying T = some .bool) : (Op.equalIn (k + 1) T (.bool x) (.bool y)).run P w = .ok (x == y) w := by
  simp [Op.equalIn, underlying, hT, go_sem]
theorem run_equalIn_int (k : Nat) {T : Nat} {kd kx : IntKind} {x y : Int} {w : World} (hT : P.underlying T = some (.int kd)) : (Op.equalIn (k + 1) T (.int kx x) (.int kx y)).run P w = .ok (x == y) w := by
  simp [Op.equalIn, underlying, hT, go_sem]

theorem eqAt_bool {T : Nat} (hT : P.underlying T = some .bool) : EqAt P T Bool := by
  intro M w p q x y v u hv hu
  obtain rfl := rep_bool.1 hv
  obtain rfl := rep_bool.1 hu
  have h : (Op.equal T (.bool x) (.bool y)).run P w = .ok (x == y) w := run_equalIn_bool 9999 hT
  have hb : (x == y) = decide (x = y) := by cases x <;> cases y <;> rfl
  constructor
  · rw [Sem.run_bind, show (eqGuard .eql T p q (.bool x) (.bool y)).run P w = .ok () w from rfl]
    simp only [Result.andThen, binOp]
    rw [Sem.run_bind, h, hb]; rfl
  · rw [Sem.run_bind, show (eqGuard .neq T p q (.bool x) (.bool y)).run P w = .ok () w from rfl]
    simp only [Result.andThen, binOp]
    rw [Sem.run_bind, h, hb]; rfl

theorem Opd.const {α : Type} [Rep α] {x : α} {v : Value} (h : ∀ M w, (rep x).p M v w) : Opd L G (.const v) (rep x) := h

theorem ex_max3 {ρ : Operand → Value} {x y z : Operand} {ts : Array TypeId} {m n k : Int} {w : World} (hx : ρ x = .int .i64 m) (hy : ρ y = .int .i64 n) (hz : ρ z = .int .i64 k) :
    (execOp ρ ⟨d, .call { callee := .builtin .max, args := #[x, y, z], argTypes := ts }, ty, pos, after, g⟩).run P w = .ok (.value (.int .i64 (max (max m n) k))) w := by
  have h : (if m < n then n else m) = max m n := by rw [Int.max_def]; split <;> split <;> omega
  have h' : (if max m n < k then k else max m n) = max (max m n) k := by rw [Int.max_def (max m n) k]; split <;> split <;> omega
  rw [← h', ← h]
  simp [execOp, resolve, invoke, builtin, Builtin.max_, Builtin.max2, hx, hy, hz, go_sem]
theorem StepOK.max3 {x y z : Operand} {ts : Array TypeId} {m n k : Int} (hg : Guard ops g L G) (hx : Opd L G x (rep m)) (hy : Opd L G y (rep n)) (hz : Opd L G z (rep k)) :
    StepOK P ops fs ⟨d, .call { callee := .builtin .max, args := #[x, y, z], argTypes := ts }, ty, pos, after, g⟩ L B (xr, []) ⟨G, rep (max (max m n) k)⟩ [] :=
  .pure hg fun M a w _ hs hG => by
    obtain ⟨h1, i1⟩ := rep_int.1 (hx.get hs (fun t ht => looksAt_op (call_ops (by simp [ht]))) hG)
    obtain ⟨h2, i2⟩ := rep_int.1 (hy.get hs (fun t ht => looksAt_op (call_ops (by simp [ht]))) hG)
    obtain ⟨h3, i3⟩ := rep_int.1 (hz.get hs (fun t ht => looksAt_op (call_ops (by simp [ht]))) hG)
    exact ⟨_, ex_max3 h1 h2 h3, rep_int.2 ⟨rfl, max_in (max_in i1 i2) i3⟩⟩

theorem and3_run {T : Nat} (m : Int) (w : World) : (binOp .and T (.int .i64 m) (.int .i64 3)).run P w = .ok (.int .i64 (m % 4)) w := by
  have h : IntKind.i64.wrap ((BitVec.ofInt 64 m &&& BitVec.ofInt 64 3).toNat : Int) = m % 4 := by
    have h3 : (BitVec.ofInt 64 3).toNat = 3 := rfl
    rw [BitVec.toNat_and, h3, show (3 : Nat) = 2 ^ 2 - 1 from rfl, Nat.and_two_pow_sub_one_eq_mod, BitVec.toNat_ofInt, IntKind.wrap_i64]
    omega
  show Result.ok (Value.int .i64 (IntKind.i64.wrap ((BitVec.ofInt 64 m &&& BitVec.ofInt 64 3).toNat : Int))) w = _
  rw [h]
/-- x & 3. -/
theorem StepOK.and3 {x : Operand} {T T' : TypeId} {m : Int} (hg : Guard ops g L G) (hx : Opd L G x (rep m)) :
    StepOK P ops fs ⟨d, .binOp .and T x (.const (.int .i64 3)) T', ty, pos, after, g⟩ L B (xr, []) ⟨G, rep (m % 4)⟩ [] :=
  .bin hg hx (.int (by decide)) fun _ _ _ => ⟨_, fun w => and3_run m w, fun _ _ => rep_int.2 ⟨rfl, by unfold InI; omega⟩⟩

end
end Go.DB
