/-
  Operations on boxes that hold rows of one's own; closures that write.
-/
import Derived.Test.YthopjimlhjgoiaaDoorCore14
set_option linter.unusedSimpArgs false
set_option linter.unusedVariables false
namespace Go.DB
open Go Go.RowKit

section
variable {P : Program} {ops : Array Oper} {fs : Nat} {L : Slots} {B : Owns} {G : Prop}
variable {d : Option Tmp} {ty : TypeId} {pos : String} {after : Array Edge} {g : Option (Nat × Bool)} {xr : List Nat}

/-- Two keys' memory becomes one's. -/
theorem Leaves.merge {o : Oper} {D : Nat → MSet} {E : Ent} {M : MSet} {a : Act} {w : World} {v : Value} {w' : World} {k t : Nat} {C Ck Ct : CPred} (hlk : lookB B k = some Ck) (hlt : lookB B t = some Ct)
    (hk : Keeps (D k) w w') (h3 : ∀ j, M j → j < w'.heap.size) (h4 : E.holds M v w') (h5 : C.p M (fun j => D k j ∨ D t j) (Act.val (a.put o.dst v) k) w') :
    Leaves o B D [k, t] E [(k, some C), (t, none)] M a w v w' := by
  have m1 : ∀ j, D k j → Mine [k, t] B D j := fun j hj => ⟨k, by simp, Ck, hlk, hj⟩
  have m2 : ∀ j, D t j → Mine [k, t] B D j := fun j hj => ⟨t, by simp, Ct, hlt, hj⟩
  refine ⟨M, fun _ => fun j => D k j ∨ D t j, hk.mono (fun j _ h => m1 j h), fun j h => .inl h, fun j h => .inl h, h3, h4, fun t' c hc => ?_, fun t1 t2 c1 c2 hc1 hc2 hne => ?_⟩
  · obtain ⟨rfl, hc'⟩ := lookB2 (C := some C) hc
    obtain rfl : C = c := Option.some.inj hc'
    exact ⟨h5, fun j hj => .inl (hj.elim (m1 j) (m2 j))⟩
  · exact absurd ((lookB2 hc1).1.trans (lookB2 hc2).1.symm) hne

/-- A row goes into a box. -/
theorem StepOK.storeRow {T T' m off k t E : Nat} {p : Operand} {α γ : Type} [Rep α] [Rep γ] {y0 : γ} {l : List α} {set : γ → Raw → γ} (hT : Ty P T (List α)) (hl : lookB B k = some (boxAt m T' y0)) (hp : Opd L True p (isV (ptr m off)))
    (hF : SetField γ Raw off set) (ht : lookB B t = some (rowV E l)) (hkt : (k == t) = false) :
    StepOK P ops fs ⟨none, .store T p (.tmp t), ty, pos, after, none⟩ L B ([k, t], [k, t]) ⟨True, anyV⟩ [(k, some (CPred.at (ptr m 0) (deep (fun s => cont T' (set y0 ⟨s⟩)) (rowV E l)))), (t, none)] := by
  have hkt : k ≠ t := by simpa using hkt
  refine .doing fun M D a w hsz hm hs hsB => ?_
  obtain ⟨m', old, hvm, hD, hM, hh, hold⟩ := hsB.has k (by simp) _ hl
  obtain rfl : m = m' := by simp [ptr] at hvm; exact hvm
  have hR := hsB.has t (by simp) _ ht
  have hap := hsB.apart k (by simp) t (by simp) _ _ hl ht hkt
  have hxv : a.eval (.tmp t) = Act.val a t := eval_val
  obtain ⟨ad, cap, hsl, _⟩ := id hR
  have hz : Rep.cells M (⟨Act.val a t⟩ : Raw) [Act.val a t] w := ⟨rfl, by rw [hsl]; rfl, by rw [hsl]; rfl⟩
  have hat : a.eval p = ptr m off := (rep_raw.1 (hp.get hs (fun t ht => looksAt_op (by simp [Op.operands, ht])) trivial)).1
  have hlo := Rep.len hold
  have hle := hF.1
  have hs1 : Rep.sz Raw = 1 := rfl
  have hsplit : old = old.take off ++ (old.drop off).take 1 ++ old.drop (off + 1) := by
    rw [← List.drop_drop, List.append_assoc, List.take_append_drop, List.take_append_drop]
  obtain ⟨w', h1, h2, h3, h4, h5, h6, h7⟩ := run_storeAt (w := w) (m := m) (off := off) (cs := [Act.val a t]) (pre := old.take off) (mid := (old.drop off).take 1) (rest := old.drop (off + 1)) hT rfl
    (by rw [List.length_take, List.length_drop]; show _ = 1; omega) (by rw [List.length_take]; omega) (Rep.plain hz) (show (Act.val a t).cells = #[Act.val a t] by rw [hsl]; rfl) (by rw [← hsplit]; exact hh)
  have hkeep : Keeps (D k) w w' := ⟨h3, h4, h5, by omega, fun j _ hn => h7 j (fun e => hn ((hD j).2 e))⟩
  have hkM : Keeps M w w' := ⟨h3, h4, h5, by omega, fun j _ hn => h7 j (fun e => hn (e ▸ hM))⟩
  refine Does.skip (w' := w') (ex_store (by rw [hat, hxv]; exact h1)) rfl (.merge hl ht hkeep (fun j h => by rw [h6]; exact hm j h) ⟨fun _ => trivial, fun hf => (hf trivial).elim⟩ ?_)
  refine ⟨Act.val a t, D k, D t, ⟨m, _, rfl, hD, hM, h2, hF.2 M y0 ⟨Act.val a t⟩ old [Act.val a t] w' (Rep.law hkM (fun _ h => .inl h) hold) (Rep.law hkM (fun _ h => .inl h) hz)⟩, ?_, fun _ => Iff.rfl, fun j h1 h2 => hap j h1 h2⟩
  exact (rowV E l).law M M (D t) _ w w' hkM (fun _ h => .inl h) (fun j hj => ⟨(rowV E l).inM _ _ _ _ hR j hj, h7 j (fun e => hap j ((hD j).2 e) hj)⟩) hR

/-- A value of a kind goes into a box that holds one cell. -/
theorem StepOK.storeS {T T' m k : Nat} {p x : Operand} {S : SPred} {C0 : CPred} (hT : Ty P T Raw) (hl : lookB B k = some (CPred.at (ptr m 0) C0)) (hC : ∀ M D w, C0.p M D (ptr m 0) w → (∀ j, D j ↔ j = m) ∧ M m ∧ ∃ u, w.heap[m]? = some (.cells #[u] T' (0, 0)))
    (hp : Opd L True p (isV (ptr m 0))) (hx : Opd L True x S) (hS : ∀ M v w, S.p M v w → isOne v = true ∧ v.cells = #[v]) :
    StepOK P ops fs ⟨none, .store T p x, ty, pos, after, none⟩ L B ([k], [k]) ⟨True, anyV⟩ [(k, some (CPred.at (ptr m 0) (contS T' S)))] := by
  refine .doing fun M D a w hsz hm hs hsB => ?_
  obtain ⟨hD, hM, u, hh⟩ := hC M (D k) w (hsB.has k (by simp) _ hl)
  have hSv := hx.get hs (fun t ht => looksAt_op (by simp [Op.operands, ht])) trivial
  obtain ⟨q1, q2⟩ := hS _ _ _ hSv
  have hz : Rep.cells M (⟨a.eval x⟩ : Raw) [a.eval x] w := ⟨rfl, q1, q2⟩
  have hat : a.eval p = ptr m 0 := (rep_raw.1 (hp.get hs (fun t ht => looksAt_op (by simp [Op.operands, ht])) trivial)).1
  obtain ⟨w', h1, h2, h3, h4, h5, h6, h7⟩ := run_storeAt (w := w) (m := m) (off := 0) (cs := [a.eval x]) (pre := []) (mid := [u]) (rest := []) hT rfl rfl rfl (Rep.plain hz) (Rep.flat hz) (by simpa using hh)
  have hkeep : Keeps (D k) w w' := ⟨h3, h4, h5, by omega, fun j _ hn => h7 j (fun e => hn ((hD j).2 e))⟩
  have hkM : Keeps M w w' := ⟨h3, h4, h5, by omega, fun j _ hn => h7 j (fun e => hn (e ▸ hM))⟩
  refine Does.skip (w' := w') (ex_store (by rw [hat]; exact h1)) rfl (.turn hl hkeep (fun j h => by rw [h6]; exact hm j h) ⟨fun _ => trivial, fun hf => (hf trivial).elim⟩ ?_)
  exact ⟨m, _, rfl, hD, hM, by simpa using h2, S.law M M _ w w' hkM (fun _ h => .inl h) hSv⟩

theorem contS_cells {T m : Nat} {S : SPred} : ∀ M D w, (contS T S).p M D (ptr m 0) w → (∀ j, D j ↔ j = m) ∧ M m ∧ ∃ u, w.heap[m]? = some (.cells #[u] T (0, 0)) :=
  fun M D w ⟨m', u, hv, hD, hM, hh, _⟩ => by
    obtain rfl : m = m' := by simp [ptr] at hv; exact hv
    exact ⟨hD, hM, u, hh⟩
theorem cont_cells {T m : Nat} {s : Value} : ∀ M D w, (cont T (⟨s⟩ : Raw)).p M D (ptr m 0) w → (∀ j, D j ↔ j = m) ∧ M m ∧ ∃ u, w.heap[m]? = some (.cells #[u] T (0, 0)) :=
  fun M D w ⟨m', cs, hv, hD, hM, hh, hc⟩ => by
    obtain rfl : m = m' := by simp [ptr] at hv; exact hv
    obtain ⟨rfl, _⟩ := hc
    exact ⟨hD, hM, s, hh⟩

theorem StepOK.loadS {T T' m k : Nat} {x : Operand} {S : SPred} (hg : Guard ops g L G) (hT : Ty P T Raw) (hl : lookB B k = some (CPred.at (ptr m 0) (contS T' S))) (hx : Opd L G x (isV (ptr m 0))) (hS : ∀ M v w, S.p M v w → isOne v = true ∧ v.cells = #[v]) :
    StepOK P ops fs ⟨d, .load T x, ty, pos, after, g⟩ L B ([k], []) ⟨G, S⟩ [] :=
  .of hg fun M D a w _ hs hsB hG => by
    obtain ⟨m', u, hv, hD, hM, hh, hSu⟩ := hsB.has k (by simp) _ hl
    obtain rfl : m = m' := by simp [ptr] at hv; exact hv
    obtain ⟨q1, q2⟩ := hS _ _ _ hSu
    have hz : Rep.cells M (⟨u⟩ : Raw) [u] w := ⟨rfl, q1, q2⟩
    have hat : a.eval x = ptr m 0 := (rep_raw.1 (hx.get hs (fun t ht => looksAt_op (by simp [Op.operands, ht])) hG)).1
    refine Does.value (v := u) (w' := w) ?_ ⟨Keeps.refl _ _, hSu⟩
    have := run_loadAt (P := P) hT hz (b := m) (off := 0) (fun j hj => by rw [cell_of_heap hh]; simp)
    simp only [execOp, hat, ptr, Sem.run_bind, this, Result.andThen, Sem.run_pure]; rfl

theorem cloV_one {f : Nat} {Cs : List SPred} : ∀ M v w, (cloV f Cs).p M v w → isOne v = true ∧ v.cells = #[v] := fun M v w ⟨caps, h, _⟩ => by rw [h]; exact ⟨rfl, rfl⟩

/-- A closure is made. -/
theorem StepOK.makeFuncC {f : Nat} {cs : Array Operand} {Cs : List SPred} (hg : Guard ops g L G) (hc : OpdL L G cs.toList Cs) : StepOK P ops fs ⟨d, .makeFunc (.func f) #[] cs, ty, pos, after, g⟩ L B (xr, []) ⟨G, cloV f Cs⟩ [] :=
  .pure hg fun M a w hm hs hG => by
    have ha := hc.get hs (fun x hxm t ht => looksAt_op (by subst ht; simpa [Op.operands] using hxm)) hG
    exact ⟨_, ex_makeFunc, cs.toList.map a.eval, by rw [← List.map_toArray], ha⟩

/-- A closure is called. -/
theorem StepOK.callClo {d : Option Nat} {f t : Nat} {xs : Array Operand} {ts : Array TypeId} {Ss Cs : List SPred} {Os : Given} {S : SPred} {outs : List (Option CPred)} {W : Nat × Option CPred} {Ws : Writes} {xk : List Nat} (ks : List Nat)
    (hf : Opd L True (.tmp t) (cloV f Cs)) (hspec : FSpecO P f (Ss ++ Cs) Os S outs)
    (hx : OpdL L True xs.toList Ss) (hH : Holds B ks Os) (hW : outW (Os.map (·.1)) ks d outs = W :: Ws) (hnd : (ks ++ d.toList).Nodup) (hxk : ∀ k ∈ ks, k ∈ xk) (hd : ∀ d', d = some d' → d' < fs) :
    StepOK P ops fs ⟨d, .call { callee := .value (.tmp t), args := xs, argTypes := ts }, ty, pos, after, none⟩ L B (ks, xk) ⟨True, S⟩ (W :: Ws) :=
  .doing fun M D a w hsz hm hs hsB => by
    have ha := hx.get hs (fun x hxm t ht => looksAt_op (call_ops (by subst ht; simpa using hxm))) trivial
    obtain ⟨caps, hfv, hc⟩ := hf.get hs (fun t' ht => looksAt_op (by cases ht; simp [Op.operands, Call.operands])) trivial
    have hr : (execOp a.eval ⟨d, .call { callee := .value (.tmp t), args := xs, argTypes := ts }, ty, pos, after, none⟩).run P w = .ok (.enter f (xs.toList.map a.eval ++ caps).toArray) w := by
      rw [show (xs.toList.map a.eval ++ caps).toArray = xs.map a.eval ++ caps.toArray by simp]
      exact ex_callV hspec.ok hfv
    have hnd' : ks.Nodup := (List.nodup_append.1 hnd).1
    refine Does.enterO hr (hspec.calls M _ w _ hm (All2.append _ _ _ _ ha hc) (OwnL.of hH hnd' hsB (fun k hk => List.mem_append_left _ hk))) fun e w' he => ?_
    obtain ⟨v, M', D', rfl, rest⟩ := he
    exact ⟨v, rfl, .call hH hW hxk hnd (fun d' h => by rw [hsz]; exact hd d' h) ⟨v, M', D', rfl, rest⟩⟩

/-- A value that owns nothing itself. -/
def valV {α : Type} [Rep α] (y : α) : CPred where
  p := fun M D v w => (∀ k, ¬ D k) ∧ (rep y).p M v w
  inM := fun M D v w h k hk => absurd hk (h.1 k)
  law := fun M M' D v w w' hk hm _ h => ⟨h.1, (rep y).law M M' v w w' hk hm h.2⟩

theorem SatOn.extend {ts : List Nat} {M : MSet} {a : Act} {w : World} {t : Nat} (h : SatOn ts M L a w) (ht : t < a.tmps.size) (h1 : isOne (Act.val a t) = true) (h2 : (Act.val a t).cells = #[Act.val a t]) :
    SatOn ts M ((t, ⟨True, isV (Act.val a t)⟩) :: L) a w := by
  intro t' ht' e he
  simp only [look] at he
  by_cases hne : t = t'
  · subst hne
    simp at he; subst he
    exact ⟨Act.val a t, by unfold Act.val; simp [ht], fun _ => rep_raw.2 ⟨rfl, h1, h2⟩, fun hf => (hf trivial).elim⟩
  · rw [beq_ne hne, cond_false] at he; exact h t' ht' e he
theorem row_one {α : Type} [Rep α] {E : Nat} {l : List α} {M D : MSet} {v : Value} {w : World} (h : (rowV E l).p M D v w) : isOne v = true ∧ v.cells = #[v] := by
  obtain ⟨ad, cap, rfl, _⟩ := h; exact ⟨rfl, rfl⟩

theorem ex_buildF {T : Nat} {α : Type} [Rep α] {parts : Array (Nat × Operand)} {x0 y : α} {zero : List Value} {places : List (Nat × Nat)} {Ss : List SPred} {M : MSet} {w : World} {a : Act} (hb : BuildAt P T zero places) (hz : ∀ M w, Rep.cells M x0 zero w) (hagg : Rep.agg α = true)
    (ha : All2 M w Ss ((parts.toList.map (·.2)).map a.eval)) (hf : Fills places x0 (parts.toList.map (·.1)) Ss y) :
    ∃ v, (execOp a.eval ⟨d, .build T parts, ty, pos, after, g⟩).run P w = .ok (.value v) w ∧ (rep y).p M v w := by
  obtain ⟨cs, h1, h2⟩ := hf.run (hz M w) ha
  refine ⟨.agg cs.toArray, ex_build hb ?_, cs, h2, by rw [hagg]; rfl⟩
  rw [← h1, List.map_map, List.zip_map']
  rfl

/-- A struct that is made of rows of one's own (two of them). -/
theorem StepOK.buildO2 {T d t1 t2 E1 E2 : Nat} {α β1 β2 : Type} [Rep α] [Rep β1] [Rep β2] {l1 : List β1} {l2 : List β2} {parts : Array (Nat × Operand)} {x0 : α} (mk : Value → Value → α) {zero : List Value} {places : List (Nat × Nat)} {Ss : Value → Value → List SPred} (hb : BuildAt P T zero places) (hz : ∀ M w, Rep.cells M x0 zero w) (hagg : Rep.agg α = true)
    (hd : Nat.blt d fs = true) (h1 : lookB B t1 = some (rowV E1 l1)) (h2 : lookB B t2 = some (rowV E2 l2)) (hn1 : Nat.blt t1 fs = true) (hn2 : Nat.blt t2 fs = true) (h12 : (t1 == t2) = false) (hd1 : (d == t1) = false) (hd2 : (d == t2) = false)
    (hx : ∀ s1 s2, OpdL ((t1, ⟨True, isV s1⟩) :: (t2, ⟨True, isV s2⟩) :: L) True (parts.toList.map (·.2)) (Ss s1 s2)) (hf : ∀ s1 s2, Fills places x0 (parts.toList.map (·.1)) (Ss s1 s2) (mk s1 s2)) :
    StepOK P ops fs ⟨some d, .build T parts, ty, pos, after, none⟩ L B ([t1, t2], [d, t1, t2]) ⟨True, anyV⟩ [(d, some (deep (fun s1 => deep (fun s2 => valV (mk s1 s2)) (rowV E2 l2)) (rowV E1 l1))), (t1, none), (t2, none)] := by
  have h12 : t1 ≠ t2 := by simpa using h12
  have hd1 : d ≠ t1 := by simpa using hd1
  have hd2 : d ≠ t2 := by simpa using hd2
  refine .doing fun M D a w hsz hm hs hsB => ?_
  have hR1 := hsB.has t1 (by simp) _ h1
  have hR2 := hsB.has t2 (by simp) _ h2
  have hap := hsB.apart t1 (by simp) t2 (by simp) _ _ h1 h2 h12
  have e1 := row_one hR1
  have e2 := row_one hR2
  have hs2 := (hs.extend (t := t2) (by rw [hsz]; exact Nat.le_of_ble_eq_true hn2) e2.1 e2.2).extend (t := t1) (by rw [hsz]; exact Nat.le_of_ble_eq_true hn1) e1.1 e1.2
  have ha := (hx (Act.val a t1) (Act.val a t2)).get hs2 (fun x hxm t ht => looksAt_op (by
    subst ht
    obtain ⟨p, hp, he⟩ := List.mem_map.1 hxm
    simp only [Op.operands]
    rw [List.mem_toArray]
    exact List.mem_map.2 ⟨p, hp, he⟩)) trivial
  obtain ⟨v, hr, hv⟩ := ex_buildF (P := P) (d := some d) (ty := ty) (pos := pos) (after := after) (g := none) (T := T) hb hz hagg ha (hf _ _)
  refine Does.value hr ?_
  have m1 : ∀ j, D t1 j → Mine [d, t1, t2] B D j := fun j hj => ⟨t1, by simp, _, h1, hj⟩
  have m2 : ∀ j, D t2 j → Mine [d, t1, t2] B D j := fun j hj => ⟨t2, by simp, _, h2, hj⟩
  have cs : ∀ t c, lookB [(d, some (deep (fun s1 => deep (fun s2 => valV (mk s1 s2)) (rowV E2 l2)) (rowV E1 l1))), (t1, none), (t2, none)] t = some c → t = d ∧ c = deep (fun s1 => deep (fun s2 => valV (mk s1 s2)) (rowV E2 l2)) (rowV E1 l1) := by
    intro t c hc
    simp only [lookB] at hc
    by_cases q1 : d = t
    · subst q1; simp at hc; exact ⟨rfl, hc.symm⟩
    · rw [beq_ne q1, cond_false] at hc
      by_cases q2 : t1 = t
      · subst q2; simp at hc
      · rw [beq_ne q2, cond_false] at hc
        by_cases q3 : t2 = t
        · subst q3; simp at hc
        · rw [beq_ne q3, cond_false] at hc; cases hc
  refine ⟨M, fun _ j => D t1 j ∨ D t2 j, Keeps.refl _ _, fun j h => .inl h, fun j h => .inl h, hm, ⟨fun _ => trivial, fun hf => (hf trivial).elim⟩, fun t c hc => ?_, fun t t' c c' hc hc' hne => ?_⟩
  · obtain ⟨rfl, rfl⟩ := cs t c hc
    refine ⟨?_, fun j hj => .inl (hj.elim (m1 j) (m2 j))⟩
    rw [val_self (by rw [hsz]; exact Nat.le_of_ble_eq_true hd)]
    refine ⟨Act.val a t1, D t2, D t1, ⟨Act.val a t2, NoM, D t2, ⟨fun k h => h, hv⟩, hR2, fun j => ⟨fun h => .inr h, fun h => h.elim (fun h => h.elim) id⟩, fun j h => h.elim⟩, hR1, fun j => ⟨fun h => h.symm, fun h => h.symm⟩, fun j a b => hap j b a⟩
  · exact absurd ((cs t c hc).1.trans (cs t' c' hc').1.symm) hne

/-- What owns rows goes into a box. -/
theorem StepOK.boxD2 {T d t E1 E2 : Nat} {α β1 β2 : Type} [Rep α] [Rep β1] [Rep β2] {l1 : List β1} {l2 : List β2} {mk : Value → Value → α} (hd : Nat.blt d fs = true) (h1 : lookB B t = some (deep (fun s1 => deep (fun s2 => valV (mk s1 s2)) (rowV E2 l2)) (rowV E1 l1))) :
    StepOK P ops fs ⟨some d, .box T (.tmp t), ty, pos, after, none⟩ L B ([t], [d, t]) ⟨True, anyV⟩ [(d, some (deep (fun s1 => deep (fun s2 => cont T (mk s1 s2)) (rowV E2 l2)) (rowV E1 l1))), (t, none)] := by
  refine .doing fun M D a w hsz hm hs hsB => ?_
  have hC := hsB.has t (by simp) _ h1
  obtain ⟨s1, D1, D2, ⟨s2, D3, D4, ⟨hn, cs, hc, hv⟩, hR2, e1, a1⟩, hR1, e2, a2⟩ := id hC
  have hx : a.eval (.tmp t) = Act.val a t := eval_val
  have hcs : (a.eval (.tmp t)).cells = cs.toArray := by rw [hx, hv]; exact Rep.flat hc
  have hin : ∀ j, D t j → M j := fun j hj => CPred.inM _ M (D t) _ w hC j hj
  have hext := Ext.alloc w (.cells cs.toArray T)
  have hmm : ∀ k, (M k ∨ k = w.heap.size) → M k ∨ w.heap.size ≤ k := fun k h => h.imp id (by omega)
  have hblk : ∀ j, D t j → j < w.heap.size := fun j hj => hm j (hin j hj)
  refine Does.value (ex_box hcs) (.pass (fun k => M k ∨ k = w.heap.size) (fun j => D t j ∨ j = w.heap.size) h1 hext.keeps (fun k h => .inl h) hmm (fun k h => ?_) ⟨fun _ => trivial, fun hf => (hf trivial).elim⟩ ?_ (fun j h => h.imp id (by omega)))
  · rw [size_new]
    rcases h with h | h
    · have := hm k h; omega
    · omega
  · rw [val_self (by rw [hsz]; exact Nat.le_of_ble_eq_true hd)]
    have d1 : ∀ j, D1 j → D t j := fun j h => (e2 j).2 (.inl h)
    have d2 : ∀ j, D2 j → D t j := fun j h => (e2 j).2 (.inr h)
    have d4 : ∀ j, D4 j → D1 j := fun j h => (e1 j).2 (.inr h)
    have old : ∀ j, D t j → (M j ∨ j = w.heap.size) ∧ (w.alloc (.cells cs.toArray T)).heap[j]? = w.heap[j]? := fun j hj => ⟨.inl (hin j hj), hext.block j (hblk j hj) (fun f => f)⟩
    refine ⟨s1, fun j => D4 j ∨ j = w.heap.size, D2, ⟨s2, fun j => j = w.heap.size, D4, ⟨w.heap.size, cs, rfl, fun _ => Iff.rfl, .inr rfl, ?_, Rep.law hext.keeps hmm hc⟩, ?_, fun j => Or.comm, fun j h1 h2 => ?_⟩, ?_, fun j => ?_, fun j h1 h2 => ?_⟩
    · show (w.heap.push _)[w.heap.size]? = _
      rw [Array.getElem?_push_size]
    · exact (rowV E2 l2).law M _ D4 s2 w _ hext.keeps hmm (fun j hj => old j (d1 j (d4 j hj))) hR2
    · have := hblk j (d1 j (d4 j h2)); omega
    · exact (rowV E1 l1).law M _ D2 s1 w _ hext.keeps hmm (fun j hj => old j (d2 j hj)) hR1
    · constructor
      · rintro (h | h)
        · rcases (e2 j).1 h with h | h
          · rcases (e1 j).1 h with h | h
            · exact absurd h (hn j)
            · exact .inl (.inl h)
          · exact .inr h
        · exact .inl (.inr h)
      · rintro ((h | h) | h)
        · exact .inl (d1 j (d4 j h))
        · exact .inr h
        · exact .inl (d2 j h)
    · rcases h1 with h1 | h1
      · exact a2 j (d4 j h1) h2
      · have := hblk j (d2 j h2); omega

end

section
variable {P : Program} {Q : Exit → Act → World → Prop} {n : Nat} {F : Fr} {L : Slots} {B : Owns}

/-- What stands behind a pointer. -/
def IsBox (C : CPred) : Prop := ∀ M D v w, C.p M D v w → ∃ m, v = ptr m 0
theorem isBox_cont {T : Nat} {α : Type} [Rep α] {y : α} : IsBox (cont T y) := fun M D v w ⟨m, cs, hv, _⟩ => ⟨m, hv⟩
theorem isBox_deep {C : Value → CPred} {R : CPred} (h : ∀ s, IsBox (C s)) : IsBox (deep C R) := fun M D v w ⟨s, D1, D2, h1, _⟩ => h s M D1 v w h1

theorem Cod.nameAt {c : Code} {t g : Nat} {C : CPred} (hl : lookB B t = some C) (ht : Nat.blt t n = true) (hC : IsBox C) (hg : lookB B g = none)
    (k : ∀ m, Cod P c Q n F ((t, ⟨True, isV (ptr m 0)⟩) :: L) ((g, some (CPred.at (ptr m 0) C)) :: (t, none) :: B)) : Cod P c Q n F L B := by
  intro a w hs
  obtain ⟨M, D, h⟩ := id hs
  have h1 := h.hasB t _ hl
  obtain ⟨m, hv⟩ := hC _ _ _ _ h1
  refine k m a w ⟨M, _, h.rekey hl hg (C' := CPred.at (ptr m 0) C) (by rw [← hv]; exact h1) fun t' e he => ?_⟩
  simp only [look] at he
  by_cases hne : t = t'
  · subst hne
    simp at he; subst he
    have hlt : t < a.tmps.size := by rw [h.size]; exact Nat.le_of_ble_eq_true ht
    refine ⟨Act.val a t, by unfold Act.val; simp [hlt], fun _ => ?_, fun hf => (hf trivial).elim⟩
    rw [hv]; exact rep_raw.2 ⟨rfl, rfl, rfl⟩
  · rw [beq_ne hne, cond_false] at he; exact h.has t' e he

/-- A box with a row of its own that nobody writes any more. -/
theorem deep_ref {T E m : Nat} {α β : Type} [Rep α] [Rep β] {l : List β} {mk : Value → α} {γ : Type} [Rep γ] {y : γ} (hsz : Rep.sz γ = Rep.sz α) (hy : ∀ M s cs w, Rep.cells M (mk s) cs w → (rep l).p M s w → Rep.cells M y cs w) (M D : MSet) (w : World)
    (h : (deep (fun s => cont T (mk s)) (rowV E l)).p M D (ptr m 0) w) (hms : ∀ k, M k → k < w.heap.size) : (ref y).p (fun k => M k ∧ ¬ D k) (ptr m 0) w := by
  obtain ⟨s, D1, D2, ⟨m', cs, hv, hD, hM, hh, hc⟩, hR, e1, a1⟩ := h
  have hsub : ∀ k, (M k ∧ ¬ D k) → M k ∨ w.heap.size ≤ k := fun k h => .inl h.1
  refine ⟨m', 0, cs, hv, fun hk => hk.2 ((e1 m').2 (.inl ((hD m').2 rfl))), hms _ hM, hy _ s cs w (Rep.law (Keeps.refl M w) hsub hc) ?_, fun j _ => by rw [cell_of_heap hh]; simp⟩
  exact (rep l).law _ _ s w w (Keeps.refl _ _) (fun k h => .inl ⟨h.1, fun h2 => h.2 ((e1 k).2 (.inr h2))⟩) (rowV_rep M D2 w s hR hms)
end

end Go.DB
