/-
  Rows that are named: their elements; calls that are handed memory of one's own.
-/
import Derived.Test.YthopjimlhjgoiaaDoorCore8
set_option linter.unusedSimpArgs false
set_option linter.unusedVariables false
namespace Go.DB
open Go Go.RowKit

section
variable {P : Program} {Q : Exit → Act → World → Prop} {n : Nat} {F : Fr} {L : Slots} {B : Owns}

/-- A slot's row gets a name. -/
theorem Cod.nameRow {c : Code} {t g T : Nat} {α : Type} [Rep α] {l : List α} (hl : lookB B t = some (rowV T l)) (ht : Nat.blt t n = true) (hg : lookB B g = none)
    (k : ∀ s, Cod P c Q n F ((t, ⟨True, isV s⟩) :: L) ((g, some (CPred.at s (rowV T l))) :: (t, none) :: B)) : Cod P c Q n F L B := by
  intro a w hs
  obtain ⟨M, D, h⟩ := id hs
  have hC := h.hasB t _ hl
  refine k (Act.val a t) a w ⟨M, _, h.rekey hl hg hC fun t' e he => ?_⟩
  simp only [look] at he
  by_cases hne : t = t'
  · subst hne
    simp at he; subst he
    have hlt : t < a.tmps.size := by rw [h.size]; exact Nat.le_of_ble_eq_true ht
    refine ⟨Act.val a t, by unfold Act.val; simp [hlt], fun _ => ?_, fun hf => (hf trivial).elim⟩
    obtain ⟨ad, cap, hv, _⟩ := hC
    rw [hv]
    exact rep_raw.2 ⟨rfl, rfl, rfl⟩
  · rw [beq_ne hne, cond_false] at he; exact h.has t' e he

/-- What has a name is a slot's again. -/
theorem Cod.anon {c : Code} {t g : Nat} {s : Value} {C : CPred} {cd : Prop} (hl : lookB B g = some (CPred.at s C)) (ht : look L t = some ⟨cd, isV s⟩) (hc : cd) (hg : lookB B t = none)
    (k : Cod P c Q n F L ((t, some C) :: (g, none) :: B)) : Cod P c Q n F L B := by
  intro a w hs
  obtain ⟨M, D, h⟩ := id hs
  have hC : C.p M (D g) s w := h.hasB g _ hl
  obtain ⟨v, hv, he⟩ := h.has t _ ht
  obtain ⟨rfl, _⟩ := rep_raw.1 (he.1 hc)
  refine k a w ⟨M, _, h.rekey hl hg ?_ h.has⟩
  have : Act.val a t = v := by unfold Act.val; rw [hv]; rfl
  rw [this]; exact hC

theorem rowV_rep {α : Type} [Rep α] {T : TypeId} {l : List α} (M D : MSet) (w : World) (s : Value) (h : (rowV T l).p M D s w) (hms : ∀ k, M k → k < w.heap.size) : (rep l).p (fun k => M k ∧ ¬ D k) s w := by
  obtain ⟨a, cap, rfl, h1, h2, h3⟩ := h
  refine rep_list.2 ⟨a, cap, rfl, h1, h2, ?_⟩
  cases a with
  | none => exact h3.1
  | some ad =>
    obtain ⟨hsp, hD, hM, pre, cs, rest, hh, hp, he, hr⟩ := h3
    intro i hi
    obtain ⟨c, hc, hj⟩ := he.at l cs i hi
    refine ⟨hsp, fun hf => hf.2 ((hD _).2 rfl), hms _ hM, c, Rep.law (Keeps.refl M w) (fun k h => .inl h.1) hc, fun j hjl => ?_⟩
    have hcl := he.len
    have hlt : i * Rep.sz α + j < cs.length := by
      rw [hcl]
      have := Nat.mul_le_mul_right (Rep.sz α) (show i + 1 ≤ l.length by omega)
      rw [Nat.add_mul] at this; omega
    rw [← hj j hjl, cell_of_heap hh, List.getElem?_toArray, List.append_assoc, List.getElem?_append_right (by omega), List.getElem?_append_left (by omega), hp]
    congr 1; omega

/-- A named row that is written no more. -/
theorem Cod.freezeRow {c : Code} {g T : Nat} {s : Value} {α : Type} [Rep α] {l : List α} {ts : List Nat} {B' : Owns} (hl : lookB B g = some (CPred.at s (rowV T l))) (hts : AllAre L s ts) (hB : SubB B B') (hn : hasKey B' g = false)
    (k : Cod P c Q n F (fillS (rep l) ts L) B') : Cod P c Q n F L B :=
  Cod.freezeAt hl hts hB hn (fun M D w h hms => rowV_rep M D w s h hms) k

end

section
variable {P : Program} {ops : Array Oper} {fs : Nat} {L : Slots} {B : Owns} {G : Prop}
variable {d : Option Tmp} {ty : TypeId} {pos : String} {after : Array Edge} {xr : List Nat} {g : Option (Nat × Bool)}

theorem StepOK.indexAddrO {T E E' k : Nat} {x i : Operand} {s : Value} {α : Type} [Rep α] {l : List α} {j : Int} (hg : Guard ops g L G) (hT : SliceOf P T E) (hE : Ty P E α)
    (hx : Opd L G x (isV s)) (hk : lookB B k = some (CPred.at s (rowV E' l))) (hi : Opd L G i (rep j)) (hb : G → 0 ≤ j ∧ j < l.length) :
    StepOK P ops fs ⟨d, .indexAddr T x i, ty, pos, after, g⟩ L B ([k], []) ⟨G, isV (elemPtr s (j.toNat * Rep.sz α + 0))⟩ [] :=
  .of hg fun M D a w _ hs hsB hG => by
    have hv := (rep_raw.1 (hx.get hs (fun t ht => looksAt_op (by simp [Op.operands, ht])) hG)).1
    obtain ⟨ad, cap, rfl, hcap, _, hl⟩ := hsB.has k (by simp) _ hk
    obtain ⟨hiv, _⟩ := rep_int.1 (hi.get hs (fun t ht => looksAt_op (by simp [Op.operands, ht])) hG)
    obtain ⟨h0, h1⟩ := hb hG
    cases ad with
    | none => obtain ⟨rfl, _⟩ := hl; simp at h1; omega
    | some ad =>
      obtain ⟨blk, off, sp⟩ := ad
      obtain rfl : sp = none := hl.1
      obtain ⟨ti, hti, hsize⟩ := Option.map_eq_some_iff.1 hE.size
      have hsz : (sizeOf E).run P w = .ok (Rep.sz α) w := by simp [sizeOf, typeInfo, hti, hsize, go_sem]
      have hun : (underlying T).run P w = .ok (.slice E) w := by simp [underlying, show P.underlying T = _ from hT, go_sem]
      refine Does.value (v := ptr blk (off + j.toNat * Rep.sz α)) (w' := w) ?_ ⟨Keeps.refl _ _, rep_raw.2 ⟨by simp [elemPtr], rfl, rfl⟩⟩
      simp only [execOp, hv, hiv, Instr.indexAt, asIntOf, Sem.run_bind, hun, Result.andThen, Sem.run_pure]
      rw [if_pos ⟨h0, h1⟩]
      simp only [Sem.run_bind, hsz, Result.andThen, Sem.run_pure, add_none, ptr]

/-- A named row's block. -/
theorem rowAt_block {α : Type} [Rep α] {M D : MSet} {w : World} {s : Value} {T : TypeId} {l : List α} {j : Nat} (h : (rowV T l).p M D s w) (hj : j < l.length) :
    ∃ b off cap pre cs rest, s = .slice (some ⟨b, off, none⟩) l.length cap ∧ l.length ≤ cap ∧ cap ≤ 9223372036854775807 ∧ (∀ k, D k ↔ k = b) ∧ M b ∧ w.heap[b]? = some (.cells (pre ++ cs ++ rest).toArray T (0, 0)) ∧ pre.length = off ∧ Elems M w l cs ∧
      (cap - l.length) * Rep.sz α ≤ rest.length := by
  obtain ⟨a, cap, rfl, h1, h2, h3⟩ := h
  cases a with
  | none => obtain ⟨rfl, _⟩ := h3; simp at hj
  | some ad =>
    obtain ⟨b, off, sp⟩ := ad
    obtain ⟨hsp, hD, hM, pre, cs, rest, hh, hp, he, hr⟩ := h3
    simp only at hsp
    subst hsp
    exact ⟨b, off, cap, pre, cs, rest, rfl, h1, h2, hD, hM, hh, hp, he, hr⟩

theorem StepOK.fieldElem {S f o k off E' : Nat} {x : Operand} {s : Value} {α : Type} [Rep α] {l : List α} {j : Int} (hg : Guard ops g L G) (hF : FieldAt P S f o) (hx : Opd L G x (isV (elemPtr s (j.toNat * Rep.sz α + off))))
    (hk : lookB B k = some (CPred.at s (rowV E' l))) (hb : G → 0 ≤ j ∧ j < l.length) :
    StepOK P ops fs ⟨d, .fieldAddr S x f, ty, pos, after, g⟩ L B ([k], []) ⟨G, isV (elemPtr s (j.toNat * Rep.sz α + (off + o)))⟩ [] :=
  .of hg fun M D a w _ hs hsB hG => by
    obtain ⟨b, of, cap, pre, cs, rest, rfl, _⟩ := rowAt_block (j := j.toNat) (show (rowV E' l).p M (D k) s w from hsB.has k (by simp) _ hk) (by have := hb hG; omega)
    have hv : a.eval x = ptr b (of + (j.toNat * Rep.sz α + off)) := (rep_raw.1 (hx.get hs (fun t ht => looksAt_op (by simp [Op.operands, ht])) hG)).1
    obtain ⟨fds, fd, hu, hf, hoff, hsz0⟩ := hF
    obtain ⟨i, hi, hne⟩ := sizeNe hsz0
    have hsz : (sizeOf fd.type).run P w = .ok i.size w := by simp [sizeOf, typeInfo, hi, go_sem]
    have hpl : (fieldPlace ⟨b, of + (j.toNat * Rep.sz α + off), none⟩ fd).run P w = .ok ⟨b, of + (j.toNat * Rep.sz α + off) + o, none⟩ w := by
      unfold fieldPlace
      rw [Sem.run_bind, hsz]
      simp only [Result.andThen, hne, if_false, Sem.run_pure, add_none, hoff]
    have hun : (underlying S).run P w = .ok (.struct fds) w := by simp [underlying, hu, go_sem]
    refine Does.value (v := ptr b (of + (j.toNat * Rep.sz α + off) + o)) (w' := w) ?_ ⟨Keeps.refl _ _, rep_raw.2 ⟨by simp only [elemPtr, ptr]; congr 3; omega, rfl, rfl⟩⟩
    simp only [execOp, hv, ptr, Instr.fieldAt, Instr.sureAddr, Sem.run_bind, hun, hf, Result.andThen, Sem.run_pure, hpl]

theorem StepOK.loadElem {T k off E' : Nat} {x : Operand} {s : Value} {α β : Type} [Rep α] [Rep β] [Inhabited α] {proj : α → β} {l : List α} {j : Int} (hg : Guard ops g L G) (hT : Ty P T β)
    (hx : Opd L G x (isV (elemPtr s (j.toNat * Rep.sz α + off)))) (hk : lookB B k = some (CPred.at s (rowV E' l))) (hH : HasField α β off proj) (hb : G → 0 ≤ j ∧ j < l.length) :
    StepOK P ops fs ⟨d, .load T x, ty, pos, after, g⟩ L B ([k], []) ⟨G, rep (proj (gx l j))⟩ [] :=
  .of hg fun M D a w _ hs hsB hG => by
    obtain ⟨h0, h1⟩ := hb hG
    have hlt : j.toNat < l.length := by omega
    obtain ⟨b, of, cap, pre, cs, rest, rfl, _, _, _, _, hh, hp, he, _⟩ := rowAt_block (j := j.toNat) (show (rowV E' l).p M (D k) s w from hsB.has k (by simp) _ hk) hlt
    have hv : a.eval x = ptr b (of + (j.toNat * Rep.sz α + off)) := (rep_raw.1 (hx.get hs (fun t ht => looksAt_op (by simp [Op.operands, ht])) hG)).1
    obtain ⟨c, hc, hj⟩ := he.at l cs j.toNat hlt
    obtain ⟨fcs, hf, hfj⟩ := hH.2 M _ c w hc
    have hgx : gx l j = l[j.toNat] := by simp [gx, List.getElem?_eq_getElem hlt]
    rw [hgx]
    refine Does.value (v := mkv (Rep.agg β) fcs) (w' := w) ?_ ⟨Keeps.refl _ _, fcs, hf, rfl⟩
    have hcl := he.len
    have := run_loadAt (P := P) hT hf (w := w) (b := b) (off := of + (j.toNat * Rep.sz α + off)) (fun i hi => by
      have hle := hH.1
      have hlt' : j.toNat * Rep.sz α + (off + i) < cs.length := by
        rw [hcl]
        have := Nat.mul_le_mul_right (Rep.sz α) (show j.toNat + 1 ≤ l.length by omega)
        rw [Nat.add_mul] at this; omega
      rw [hfj i hi, ← hj (off + i) (by omega), cell_of_heap hh, List.getElem?_toArray, List.append_assoc, List.getElem?_append_right (by omega), List.getElem?_append_left (by omega), hp]
      congr 1; omega)
    simp only [execOp, hv, ptr, Sem.run_bind, this, Result.andThen, Sem.run_pure]

theorem StepOK.storeElem {T k off E' : Nat} {p x : Operand} {s : Value} {α β : Type} [Rep α] [Rep β] [Inhabited α] {set : α → β → α} {l : List α} {j : Int} {z : β} (hT : Ty P T β)
    (hp : Opd L True p (isV (elemPtr s (j.toNat * Rep.sz α + off)))) (hk : lookB B k = some (CPred.at s (rowV E' l))) (hF : SetField α β off set) (hx : Opd L True x (rep z)) (hb : 0 ≤ j ∧ j < l.length) :
    StepOK P ops fs ⟨none, .store T p x, ty, pos, after, none⟩ L B ([k], [k]) ⟨True, anyV⟩ [(k, some (CPred.at s (rowV E' (l.set j.toNat (set (gx l j) z)))))] := by
  refine .doing fun M D a w hsz hm hs hsB => ?_
  have hlt : j.toNat < l.length := by omega
  obtain ⟨b, of, cap, pre, cs, rest, rfl, hlc, hcm, hD, hM, hh, hpr, he, hrest⟩ := rowAt_block (j := j.toNat) (show (rowV E' l).p M (D k) s w from hsB.has k (by simp) _ hk) hlt
  have hv : a.eval p = ptr b (of + (j.toNat * Rep.sz α + off)) := (rep_raw.1 (hp.get hs (fun t ht => looksAt_op (by simp [Op.operands, ht])) trivial)).1
  obtain ⟨zs, hz, hxv⟩ := hx.get hs (fun t ht => looksAt_op (by simp [Op.operands, ht])) trivial
  obtain ⟨c, hc, hj⟩ := he.at l cs j.toNat hlt
  have hgx : gx l j = l[j.toNat] := by simp [gx, List.getElem?_eq_getElem hlt]
  have hcl := he.len
  have hce := Rep.len hc
  have hle := hF.1
  have hroom : j.toNat * Rep.sz α + Rep.sz α ≤ cs.length := by
    rw [hcl]
    have := Nat.mul_le_mul_right (Rep.sz α) (show j.toNat + 1 ≤ l.length by omega)
    rw [Nat.add_mul] at this; omega
  have hceq : c = (cs.drop (j.toNat * Rep.sz α)).take (Rep.sz α) := by
    refine List.ext_getElem? fun i => ?_
    by_cases hi : i < Rep.sz α
    · rw [List.getElem?_take_of_lt hi, List.getElem?_drop, hj i hi]
    · rw [List.getElem?_eq_none (by omega), List.getElem?_eq_none (by rw [List.length_take]; omega)]
  -- the cells, split where the store comes
  have hsplit : cs = cs.take (j.toNat * Rep.sz α) ++ (c.take off ++ (c.drop off).take (Rep.sz β) ++ c.drop (off + Rep.sz β)) ++ cs.drop (j.toNat * Rep.sz α + Rep.sz α) := by
    have h2 : c.take off ++ (c.drop off).take (Rep.sz β) ++ c.drop (off + Rep.sz β) = c := by
      rw [← List.drop_drop, List.append_assoc, List.take_append_drop, List.take_append_drop]
    rw [h2, hceq, ← List.drop_drop, List.append_assoc, List.take_append_drop, List.take_append_drop]
  obtain ⟨w', h1, h2, h3, h4, h5, h6, h7⟩ := run_storeAt (P := P) (w := w) (m := b) (off := of + (j.toNat * Rep.sz α + off)) (cs := zs) (pre := pre ++ cs.take (j.toNat * Rep.sz α) ++ c.take off) (mid := (c.drop off).take (Rep.sz β))
    (rest := c.drop (off + Rep.sz β) ++ cs.drop (j.toNat * Rep.sz α + Rep.sz α) ++ rest) hT (Rep.len hz)
    (by rw [List.length_take, List.length_drop]; omega) (by rw [List.length_append, List.length_append, List.length_take, List.length_take]; omega) (Rep.plain hz) (Rep.flat hz) (by
      rw [hh]
      congr 2
      conv => lhs; rw [hsplit]
      simp)
  have hkD : Keeps (D k) w w' := ⟨h3, h4, h5, by omega, fun i _ hn => h7 i (fun e => hn ((hD i).2 e))⟩
  have hkM : Keeps M w w' := ⟨h3, h4, h5, by omega, fun i _ hn => h7 i (fun e => hn (e ▸ hM))⟩
  refine Does.skip (w' := w') (ex_store (by rw [hv, hxv]; exact h1)) rfl (.turn hk hkD (fun i h => by rw [h6]; exact hm i h) ⟨fun _ => trivial, fun hf => (hf trivial).elim⟩ ?_)
  have hl' := Rep.law hkM (fun _ h => .inl h) hc
  have hset := hF.2 M l[j.toNat] z c zs w' hl' (Rep.law hkM (fun _ h => .inl h) hz)
  have hel := Elems.set l cs j.toNat _ _ hlt (Elems.law hkM (fun _ h => .inl h) l cs he) hset
  refine ⟨some ⟨b, of, none⟩, cap, by rw [List.length_set], by rw [List.length_set]; exact hlc, hcm, rfl, hD, hM, pre, _, rest, ?_, hpr, by rw [hgx]; exact hel, by rw [List.length_set]; exact hrest⟩
  rw [h2]
  congr 2
  simp

theorem StepOK.loadElem0 {T k E' : Nat} {x : Operand} {s : Value} {α : Type} [Rep α] [Inhabited α] {l : List α} {j : Int} (hg : Guard ops g L G) (hT : Ty P T α)
    (hx : Opd L G x (isV (elemPtr s (j.toNat * Rep.sz α + 0)))) (hk : lookB B k = some (CPred.at s (rowV E' l))) (hb : G → 0 ≤ j ∧ j < l.length) :
    StepOK P ops fs ⟨d, .load T x, ty, pos, after, g⟩ L B ([k], []) ⟨G, rep (gx l j)⟩ [] := .loadElem (proj := fun x => x) hg hT hx hk .id hb
theorem StepOK.storeElem0 {T k E' : Nat} {p x : Operand} {s : Value} {α : Type} [Rep α] [Inhabited α] {l : List α} {j : Int} {z : α} (hT : Ty P T α)
    (hp : Opd L True p (isV (elemPtr s (j.toNat * Rep.sz α + 0)))) (hk : lookB B k = some (CPred.at s (rowV E' l))) (hx : Opd L True x (rep z)) (hb : 0 ≤ j ∧ j < l.length) :
    StepOK P ops fs ⟨none, .store T p x, ty, pos, after, none⟩ L B ([k], [k]) ⟨True, anyV⟩ [(k, some (CPred.at s (rowV E' (l.set j.toNat z))))] := .storeElem (set := fun _ z => z) hT hp hk .self hx hb
theorem StepOK.loadAt0 {T T' m k : Nat} {x : Operand} {α : Type} [Rep α] {y : α} (hg : Guard ops g L G) (hT : Ty P T α)
    (hl : lookB B k = some (boxAt m T' y)) (hx : Opd L G x (isV (ptr m 0))) : StepOK P ops fs ⟨d, .load T x, ty, pos, after, g⟩ L B ([k], []) ⟨G, rep y⟩ [] := .loadAt (proj := fun x => x) hg hT hl hx .id
theorem StepOK.storeAt0 {T T' m g : Nat} {p x : Operand} {α : Type} [Rep α] {y0 z : α} (hT : Ty P T α) (hl : lookB B g = some (boxAt m T' y0)) (hp : Opd L True p (isV (ptr m 0))) (hx : Opd L True x (rep z)) :
    StepOK P ops fs ⟨none, .store T p x, ty, pos, after, none⟩ L B ([g], [g]) ⟨True, anyV⟩ [(g, some (boxAt m T' z))] := .storeAt (set := fun _ z => z) hT hl hp .self hx

theorem StepOK.passRowM {d k : Nat} {x : Operand} {C : CPred} (hd : Nat.blt d fs = true) (hx : RowArg L B x k C) : StepOK P ops fs ⟨some d, .move x, ty, pos, after, none⟩ L B ([k], [d, k]) ⟨True, anyV⟩ [(d, some C), (k, none)] := by
  refine .doing fun M D a w hsz hm hs hsB => ?_
  obtain ⟨hC, C0, hl⟩ := hx.get hs (fun t ht => looksAt_op (by simp [Op.operands, ht])) hsB (by simp)
  refine Does.value (v := a.eval x) (w' := w) rfl (.pass M (D k) hl (Keeps.refl _ _) (fun _ h => h) (fun _ h => .inl h) hm ⟨fun _ => trivial, fun hf => (hf trivial).elim⟩ ?_ (fun j h => .inl h))
  rw [val_self (by rw [hsz]; exact Nat.le_of_ble_eq_true hd)]
  exact hC

/-- A part of a slice that stays. -/
theorem StepOK.slice {T E : Nat} {x : Operand} {lo hi : Option Operand} {α : Type} [Rep α] {l : List α} {i j : Int} (hg : Guard ops g L G) (hT : SliceOf P T E) (hE : Ty P E α) (hx : Opd L G x (rep l))
    (hlo : match lo with | some o => Opd L G o (rep i) | none => i = 0) (hhi : match hi with | some o => Opd L G o (rep j) | none => j = l.length) (hb : G → 0 ≤ i ∧ i ≤ j ∧ j ≤ l.length) :
    StepOK P ops fs ⟨d, .slice T x lo hi none, ty, pos, after, g⟩ L B (xr, []) ⟨G, rep ((l.take j.toNat).drop i.toNat)⟩ [] :=
  .pure hg fun M a w _ hs hG => by
    obtain ⟨ad, cap, hv, hcap, hcm, hl⟩ := rep_list.1 (hx.get hs (fun t ht => looksAt_op (by simp [Op.operands, ht])) hG)
    obtain ⟨h0, h1, h2⟩ := hb hG
    obtain ⟨ti, hti, hsize⟩ := Option.map_eq_some_iff.1 hE.size
    have hTe : P.underlying T = some (.slice (P.elem T)) ∧ P.elem T = E := by
      have : P.elem T = E := by unfold Program.elem; rw [show P.underlying T = _ from hT]
      exact ⟨by rw [this]; exact hT, this⟩
    have hsz : (sizeOf (P.elem T)).run P w = .ok (Rep.sz α) w := by rw [hTe.2]; simp [sizeOf, typeInfo, hti, hsize, go_sem]
    have hlov : (lo.map a.eval = none ∧ i = 0) ∨ lo.map a.eval = some (.int .i64 i) := by
      cases lo with
      | none => exact .inl ⟨rfl, hlo⟩
      | some o => exact .inr (by rw [Option.map_some, (rep_int.1 (Opd.get hlo hs (fun t ht => looksAt_op (by simp [Op.operands, ht])) hG)).1])
    have hhiv : (hi.map a.eval = none ∧ j = l.length) ∨ hi.map a.eval = some (.int .i64 j) := by
      cases hi with
      | none => exact .inl ⟨rfl, hhi⟩
      | some o => exact .inr (by rw [Option.map_some, (rep_int.1 (Opd.get hhi hs (fun t ht => looksAt_op (by simp [Op.operands, ht])) hG)).1])
    have hrun : (Instr.sliceAt T (.slice ad l.length cap) (lo.map a.eval) (hi.map a.eval) none).run P w = .ok (sliced ad i.toNat j.toNat cap (Rep.sz α)) w := by
      rw [run_sliceAt_slice (h := hTe.1)]
      rcases hlov with ⟨e1, rfl⟩ | e1 <;> rcases hhiv with ⟨e2, rfl⟩ | e2 <;> rw [e1, e2]
      · rw [run_slice_all w T ad l.length cap hTe.1, hsz]; simp [Result.andThen]
      · rw [run_slice_h w T ad l.length cap hTe.1 .i64 j (by omega) (by omega), hsz]; simp [Result.andThen]
      · rw [run_slice_l w T ad l.length cap hTe.1 .i64 i (by omega) (by omega), hsz]; simp [Result.andThen]
      · rw [run_slice_lh w T ad l.length cap hTe.1 .i64 .i64 i j (by omega) (by omega) (by omega), hsz]; simp [Result.andThen]
    refine ⟨sliced ad i.toNat j.toNat cap (Rep.sz α), ?_, rep_list.2 ⟨if cap = i.toNat then ad else ad.map (·.add (i.toNat * Rep.sz α)), cap - i.toNat, ?_, ?_, by omega, ?_⟩⟩
    · simp only [execOp, hv]
      rw [Sem.run_bind]
      simp only [Option.map] at hrun ⊢
      rw [hrun]; rfl
    · simp only [sliced, List.length_drop, List.length_take]
      congr 1; omega
    · simp only [List.length_drop, List.length_take]; omega
    · cases ad with
      | none =>
        have : l = [] := hl
        subst this
        split <;> simp [Lies]
      | some ad =>
        have key : ∀ ad' : Addr, (∀ q, q < ((l.take j.toNat).drop i.toNat).length → ad' = ⟨ad.block, ad.off + i.toNat * Rep.sz α, none⟩) → Lies M ((l.take j.toNat).drop i.toNat) (some ad') w := by
          intro ad' hq q hql
          obtain rfl := hq q hql
          have hql' : i.toNat + q < l.length := by simp only [List.length_drop, List.length_take] at hql; omega
          obtain ⟨g1, g2, g3, cs, g4, g5⟩ := hl (i.toNat + q) hql'
          refine ⟨rfl, g2, g3, cs, ?_, fun k hk => ?_⟩
          · simp only [List.getElem_drop, List.getElem_take]; exact g4
          · rw [← g5 k hk]
            have : ad.spot = none := g1
            simp only [Nat.add_mul]
            congr 2; omega
        have hspot : ∀ q, q < ((l.take j.toNat).drop i.toNat).length → ad.spot = none := fun q hq => (hl (i.toNat + q) (by simp only [List.length_drop, List.length_take] at hq; omega)).1
        split
        · rename_i he
          refine key ad fun q hq => ?_
          simp only [List.length_drop, List.length_take] at hq
          omega
        · refine key _ fun q hq => ?_
          have := hspot q hq
          obtain ⟨b, off, sp⟩ := ad
          simp only at this
          subst this
          exact add_none _ _ _

end

section
variable {P : Program} {Q : Exit → Act → World → Prop} {n : Nat} {F : Fr} {L : Slots} {B : Owns}

theorem Cod.freezeKey {c : Code} {t : Nat} {C : CPred} {S : SPred} {B' : Owns} (hl : lookB B t = some C) (ht : Nat.blt t n = true) (hB : SubB B B') (hn : hasKey B' t = false)
    (hS : ∀ (M D : MSet) (w : World) (s : Value), C.p M D s w → (∀ k, M k → k < w.heap.size) → S.p (fun k => M k ∧ ¬ D k) s w) (k : Cod P c Q n F ((t, ⟨True, S⟩) :: L) B') : Cod P c Q n F L B := by
  intro a w hs
  obtain ⟨M, D, h⟩ := id hs
  have hC := h.hasB t _ hl
  refine k a w ⟨_, D, h.free hl hB hn fun t' e he => ?_⟩
  have hlow : ∀ k, (M k ∧ ¬ D t k) → M k ∨ w.heap.size ≤ k := fun k h => .inl h.1
  simp only [look] at he
  by_cases hne : t = t'
  · subst hne
    simp at he; subst he
    have hlt : t < a.tmps.size := by rw [h.size]; exact Nat.le_of_ble_eq_true ht
    exact ⟨Act.val a t, by unfold Act.val; simp [hlt], fun _ => hS M (D t) w _ hC h.msub, fun hf => (hf trivial).elim⟩
  · rw [beq_ne hne, cond_false] at he
    obtain ⟨v', h1, h2⟩ := h.has t' e he
    exact ⟨v', h1, Ent.holds_law (Keeps.refl M w) hlow h2⟩

/-- A slot's row that is written no more. -/
theorem Cod.freezeRowA {c : Code} {t T : Nat} {α : Type} [Rep α] {l : List α} {B' : Owns} (hl : lookB B t = some (rowV T l)) (ht : Nat.blt t n = true) (hB : SubB B B') (hn : hasKey B' t = false)
    (k : Cod P c Q n F ((t, ⟨True, rep l⟩) :: L) B') : Cod P c Q n F L B :=
  Cod.freezeKey hl ht hB hn (fun M D w s h hms => rowV_rep M D w s h hms) k

/-- A named box that is written no more. -/
theorem Cod.freezeBox {c : Code} {g T m : Nat} {α : Type} [Rep α] {y : α} {ts : List Nat} {B' : Owns} (hl : lookB B g = some (boxAt m T y)) (hts : AllAre L (ptr m 0) ts) (hB : SubB B B') (hn : hasKey B' g = false)
    (k : Cod P c Q n F (fillS (ref y) ts L) B') : Cod P c Q n F L B :=
  Cod.freezeAt hl hts hB hn (fun M D w h hms => cont_ref h hms) k

theorem Ends.anon {e : Exit} {t g : Nat} {s : Value} {C : CPred} {cd : Prop} (hl : lookB B g = some (CPred.at s C)) (ht : look L t = some ⟨cd, isV s⟩) (hc : cd) (hg : lookB B t = none)
    (k : Ends Q e n F L ((t, some C) :: (g, none) :: B)) : Ends Q e n F L B := by
  intro a w hs
  obtain ⟨M, D, h⟩ := id hs
  have hC : C.p M (D g) s w := h.hasB g _ hl
  obtain ⟨v, hv, he⟩ := h.has t _ ht
  obtain ⟨rfl, _⟩ := rep_raw.1 (he.1 hc)
  refine k a w ⟨M, _, h.rekey hl hg ?_ h.has⟩
  have : Act.val a t = v := by unfold Act.val; rw [hv]; rfl
  rw [this]; exact hC

theorem lookB_row {t T : Nat} {α : Type} [Rep α] {x y : List α} (h : lookB B t = some (rowV T x)) (e : x = y) : lookB B t = some (rowV T y) := e ▸ h
theorem lookB_rowAt {t T : Nat} {s : Value} {α : Type} [Rep α] {x y : List α} (h : lookB B t = some (CPred.at s (rowV T x))) (e : x = y) : lookB B t = some (CPred.at s (rowV T y)) := e ▸ h

/-- What comes behind is shown once, from what every road there tells. -/
theorem Cod.seqJ {x y : Code} {ι : Type} (Ls : ι → Slots) (Bs : ι → Owns) (prop : ι → Prop) {keep : Slots} {keepB : Owns} (hk : Sub L keep) (hkB : SubB B keepB)
    (h : Cod P x (Exit.then (fun a w => ∃ j, prop j ∧ Sat n F (Ls j ++ keep) (Bs j ++ keepB) a w) Q) n F L B)
    (k : ∀ i, prop i → Cod P y Q n F (Ls i ++ keep) (Bs i ++ keepB)) : Cod P (.seq x y) Q n F L B := fun a w hs => wp_seq (wp_mono (h a w hs) (fun e a w hq => by
  cases e with
  | normal => obtain ⟨j, h1, h2⟩ := hq; exact k j h1 a w h2
  | _ => exact hq))

theorem Ends.join {ι : Type} {Ls : ι → Slots} {Bs : ι → Owns} {prop : ι → Prop} {keep : Slots} {keepB : Owns} (j : ι) (hp : prop j) (h : Sub L (Ls j ++ keep)) (hB : SubB B (Bs j ++ keepB)) :
    Ends (Exit.then (fun a w => ∃ j, prop j ∧ Sat n F (Ls j ++ keep) (Bs j ++ keepB) a w) Q) .normal n F L B := fun _ _ hs => ⟨j, hp, hs.weaken h hB⟩

end
end Go.DB
