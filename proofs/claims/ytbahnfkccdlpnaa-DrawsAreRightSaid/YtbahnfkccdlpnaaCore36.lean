/-
  Results that are nil exactly when they are empty.
-/
import Derived.Test.YtbahnfkccdlpnaaCore35
set_option linter.unusedVariables false
set_option linter.unusedSimpArgs false
namespace Go.DB
open Go Go.RowKit

/-- A list that is nil when it is empty. -/
def repN {α : Type} [Rep α] (l : List α) : SPred where
  p := fun M v w => (rep l).p M v w ∧ (l = [] → v = .slice none 0 0)
  law := fun M M' v w w' k hm h => ⟨(rep l).law M M' v w w' k hm h.1, h.2⟩
theorem Imp.toN {α : Type} [Rep α] {l : List α} (h : l ≠ []) : Imp (rep l) (repN l) := fun _ _ _ hp => ⟨hp, fun e => absurd e h⟩
section
variable {P : Program} {ops : Array Oper} {fs : Nat} {L : Slots} {B : Owns} {G : Prop}
variable {d : Option Tmp} {ty : TypeId} {pos : String} {after : Array Edge} {g : Option (Nat × Bool)} {xr : List Nat}
variable {T T' E : TypeId} {x : Operand} {α : Type} [Rep α] {l : List α}
theorem Opd.nilN : Opd L G (.const (.slice none 0 0)) (repN ([] : List α)) := fun _ _ => ⟨⟨_, ⟨none, 0, rfl, Nat.le_refl _, by decide, rfl⟩, rfl⟩, fun _ => rfl⟩
theorem StepOK.moveW (hg : Guard ops g L G) (hx : Opd L G x (repN l)) : StepOK P ops fs ⟨d, .move x, ty, pos, after, g⟩ L B (xr, []) ⟨G, rep l⟩ [] :=
  .pure hg fun M a w _ hs hG => ⟨a.eval x, rfl, (hx.get hs (fun t ht => looksAt_op (by simp [Op.operands, ht])) hG).1⟩
/-- A literal nil is told as a list that is nil when it is empty. -/
theorem StepOK.eqNilX (hg : Guard ops g L G) (hT : SliceOf P T E) (hx : Opd L G x (repN l)) :
    StepOK P ops fs ⟨d, .binOp .eql T x (.const (.slice none 0 0)) T', ty, pos, after, g⟩ L B (xr, []) ⟨G, rep l.isEmpty⟩ [] :=
  .pure hg fun M a w _ hs hG => by
    obtain ⟨hr, hn⟩ := hx.get hs (fun t ht => looksAt_op (by simp [Op.operands, ht])) hG
    obtain ⟨ad, cap, hv, _, _, hl⟩ := rep_list.1 hr
    refine ⟨.bool ad.isNone, ex_eqNil hT hv rfl, rep_bool.2 ?_⟩
    cases l with
    | nil =>
      have := hn rfl
      rw [hv] at this
      injection this with h1
      subst h1; rfl
    | cons y l =>
      cases ad with
      | none => cases hl
      | some ad => rfl
end
section
variable {P : Program} {ops : Array Oper} {fs : Nat} {L : Slots} {B : Owns} {ty : TypeId} {pos : String} {after : Array Edge}
/-- A map goes into a box that was made in the same region. -/
theorem StepOK.storeRow0M {T T' t k : Nat} {y0 : Raw} {R : CPred} {K V : Type} [Rep K] [DecidableEq K] [MKey K] [Rep V] (hT : Ty P T (GMap K V)) (hl : lookB B k = some (cont T' y0)) (hkn : Nat.blt k fs = true) (ht : lookB B t = some R) (hR1 : OneC R) (hkt : (k == t) = false) :
    StepOK P ops fs ⟨none, .store T (.tmp k) (.tmp t), ty, pos, after, none⟩ L B ([k, t], [k, t]) ⟨True, anyV⟩ [(k, some (deep (fun s => cont T' (⟨s⟩ : Raw)) R)), (t, none)] := by
  have hkt : k ≠ t := by simpa using hkt
  refine .doing fun M D a w hsz hm hs hsB => ?_
  obtain ⟨m, old, hvm, hD, hM, hh, hold⟩ := hsB.has k (by simp) _ hl
  have hR := hsB.has t (by simp) _ ht
  have hap := hsB.apart k (by simp) t (by simp) _ _ hl ht hkt
  have hxv : a.eval (.tmp t) = Act.val a t := eval_val
  obtain ⟨ho1, ho2⟩ := hR1 _ _ _ _ hR
  have hz : Rep.cells M (⟨Act.val a t⟩ : Raw) [Act.val a t] w := ⟨rfl, ho1, ho2⟩
  have hat : a.eval (.tmp k) = .pointer (some ⟨m, 0, none⟩) := by
    have hlt : k < a.tmps.size := by rw [hsz]; exact Nat.le_of_ble_eq_true hkn
    rw [Act.eval_tmp (v := Act.val a k) (by unfold Act.val; simp [hlt]), hvm]
  obtain ⟨w', h1, h2, h3, h4, h5, h6, h7⟩ := run_storeAt (w := w) (m := m) (off := 0) (cs := [Act.val a t]) (pre := []) (mid := old) (rest := []) hT rfl (show old.length = 1 from Rep.len hold) rfl (Rep.plain hz) (show (Act.val a t).cells = #[Act.val a t] from ho2) (by simpa using hh)
  have hkeep : Keeps (D k) w w' := ⟨h3, h4, h5, by omega, fun j _ hn => h7 j (fun e => hn ((hD j).2 e))⟩
  have hkM : Keeps M w w' := ⟨h3, h4, h5, by omega, fun j _ hn => h7 j (fun e => hn (e ▸ hM))⟩
  refine Does.skip (w' := w') (ex_store (by rw [hat, hxv]; exact h1)) rfl (.merge hl ht hkeep (fun j h => by rw [h6]; exact hm j h) ⟨fun _ => trivial, fun hf => (hf trivial).elim⟩ ?_)
  rw [val_none]
  refine ⟨Act.val a t, D k, D t, ⟨m, _, hvm, hD, hM, by simpa using h2, rfl, ho1, ho2⟩, ?_, fun _ => Iff.rfl, fun j h1 h2 => hap j h1 h2⟩
  exact R.law M M (D t) _ w w' hkM (fun _ h => .inl h) (fun j hj => ⟨R.inM _ _ _ _ hR j hj, h7 j (fun e => hap j ((hD j).2 e) hj)⟩) hR
end
theorem map_cells {K V : Type} [Rep K] [DecidableEq K] [MKey K] [Rep V] {l : GMap K V} {s : Value} {M : MSet} {cs : List Value} {w : World} (h : Rep.cells M (⟨s⟩ : Raw) cs w) (hl : (rep l).p M s w) : Rep.cells M l cs w := by
  obtain ⟨rfl, _⟩ := h
  obtain ⟨cs, hc, hv⟩ := hl
  have h1 := Rep.len hc
  have : Rep.sz (GMap K V) = 1 := rfl
  match cs, h1 with
  | [c], _ =>
    have : s = c := hv
    rw [this]; exact hc
end Go.DB
