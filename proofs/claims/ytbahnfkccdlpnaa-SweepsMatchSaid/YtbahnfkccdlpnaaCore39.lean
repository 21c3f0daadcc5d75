/-
  Rows of rows of one's own grow.
-/
import Derived.Test.YtbahnfkccdlpnaaCore38
set_option linter.unusedVariables false
set_option linter.unusedSimpArgs false
namespace Go.DB
open Go Go.RowKit
section
variable {P : Program} {ops : Array Oper} {fs : Nat} {L : Slots} {B : Owns} {ty : TypeId} {pos : String} {after : Array Edge}

theorem lookB3 {C : Option CPred} {d k k2 t : Nat} {c : CPred} (h : lookB [(d, C), (k, none), (k2, none)] t = some c) : d = t ∧ C = some c := by
  simp only [lookB] at h
  by_cases e : d = t
  · subst e; simp at h; exact ⟨rfl, h⟩
  · rw [beq_ne e, cond_false] at h
    cases hk : Nat.beq k t <;> cases hk2 : Nat.beq k2 t <;> simp [hk, hk2] at h
/-- Two keys' memory becomes one's. -/
theorem Leaves.pass2 {o : Oper} {D : Nat → MSet} {E : Ent} {M : MSet} {a : Act} {w : World} {v : Value} {w' : World} {d k k2 : Nat} {C C0 C1 : CPred} (M' Dd : MSet) (hl : lookB B k = some C0) (hl2 : lookB B k2 = some C1)
    (hk : Keeps (D k) w w') (h1 : ∀ j, M j → M' j) (h2 : ∀ j, M' j → M j ∨ w.heap.size ≤ j) (h3 : ∀ j, M' j → j < w'.heap.size) (h4 : E.holds M' v w') (h5 : C.p M' Dd (Act.val (a.put o.dst v) d) w')
    (h6 : ∀ j, Dd j → (D k j ∨ D k2 j) ∨ w.heap.size ≤ j) : Leaves o B D [d, k, k2] E [(d, some C), (k, none), (k2, none)] M a w v w' := by
  have hm : ∀ j, D k j → Mine [d, k, k2] B D j := fun j hj => ⟨k, by simp, C0, hl, hj⟩
  have hm2 : ∀ j, D k2 j → Mine [d, k, k2] B D j := fun j hj => ⟨k2, by simp, C1, hl2, hj⟩
  refine ⟨M', fun _ => Dd, hk.mono (fun j _ h => hm j h), fun j h => .inl (h1 j h), h2, h3, h4, fun t c hc => ?_, fun t1 t2 c1 c2 hc1 hc2 hne => ?_⟩
  · obtain ⟨rfl, hc'⟩ := lookB3 (C := some C) hc
    obtain rfl : C = c := Option.some.inj hc'
    exact ⟨h5, fun j hj => (h6 j hj).imp (fun h => h.elim (hm j) (hm2 j)) id⟩
  · exact absurd ((lookB3 hc1).1.symm.trans (lookB3 hc2).1) (fun e => hne (by simpa using e))

/-- A row of one row of one's own. -/
theorem StepOK.buildD {T E E2 d t : Nat} {β : Type} [Rep β] {x : List β} (hd : Nat.blt d fs = true) (hT : SliceOf P T E) (hE : Ty P E Raw) (hz : HasZero P E) (h1 : lookB B t = some (rowV E2 x)) :
    StepOK P ops fs ⟨some d, .buildSlice T 1 #[(0, .tmp t)], ty, pos, after, none⟩ L B ([t], [d, t]) ⟨True, anyV⟩ [(d, some (rowD E E2 mkR subR [] [x])), (t, none)] := by
  refine .doing fun M D a w hsz hm hs hsB => ?_
  have hC := hsB.has t (by simp) _ h1
  obtain ⟨ad, cap, hv, _⟩ := id hC
  have hraw : (rep (⟨Act.val a t⟩ : Raw)).p M (Act.val a t) w := rep_raw.2 ⟨rfl, by rw [hv]; rfl, by rw [hv]; rfl⟩
  obtain ⟨cs, hrun, hel⟩ := ex_buildSlice (P := P) (ρ := a.eval) (d := some d) (ty := ty) (pos := pos) (after := after) (g := none) (n := 1) (parts := #[(0, .tmp t)]) (xs := [(⟨Act.val a t⟩ : Raw)]) hT hE hz rfl (by decide) rfl (by
    refine ⟨?_, trivial⟩
    show (rep (⟨Act.val a t⟩ : Raw)).p M (a.eval (.tmp t)) w
    rw [eval_val]; exact hraw)
  have hext := Ext.alloc w (.cells cs.toArray E)
  have hin : ∀ j, D t j → M j := fun j hj => CPred.inM _ M (D t) _ w hC j hj
  have hblk : ∀ j, D t j → j < w.heap.size := fun j hj => hm j (hin j hj)
  refine Does.value hrun (.pass (fun k => M k ∨ k = w.heap.size) (fun j => D t j ∨ j = w.heap.size) h1 hext.keeps (fun k h => .inl h) (fun k h => h.imp id (by omega)) (fun k h => ?_) ⟨fun _ => trivial, fun hf => (hf trivial).elim⟩ ?_ (fun j h => h.imp id (by omega)))
  · rw [size_new]
    rcases h with h | h
    · have := hm k h; omega
    · omega
  · rw [val_self (by rw [hsz]; exact Nat.le_of_ble_eq_true hd)]
    refine ⟨[Act.val a t], fun k => k = w.heap.size, fun i q => i = 0 ∧ D t q, rfl, ?_, by simp, fun i b s hb hs' _ => ?_, fun j h => ?_, fun j h => ?_, fun i j h e => ?_, fun i i' j h h' => h.1.trans h'.1.symm⟩
    · refine ⟨some ⟨w.heap.size, 0, none⟩, 1, rfl, by simp, by omega, rfl, fun k => Iff.rfl, .inr rfl, [], cs, [], ?_, rfl, ?_, by simp⟩
      · show (w.heap.push _)[w.heap.size]? = _
        rw [Array.getElem?_push_size]; simp
      · exact Elems.law hext.keeps (fun k h => h.imp id (by omega)) _ cs hel
    · match i, hb, hs' with
      | 0, hb, hs' =>
        simp only [List.getElem?_cons_zero, Option.some.injEq] at hb hs'
        subst hb; subst hs'
        show (rowV E2 x).p _ (fun q => 0 = 0 ∧ D t q) _ _
        have : (fun q => 0 = 0 ∧ D t q) = D t := by funext q; simp
        rw [this]
        exact (rowV E2 x).law M _ (D t) _ w _ hext.keeps (fun k h => h.imp id (by omega)) (fun q hq => ⟨.inl (hin q hq), (hext.keeps (M := NoM)).block q (hblk q hq) (fun h => h.elim)⟩) hC
      | i + 1, hb, _ => simp at hb
    · exact h.imp (hin j) id
    · rcases h with h | ⟨i, _, h⟩
      · exact .inr h
      · exact .inl h
    · have := hblk j h.2; omega
/-- Rows of rows are joined. -/
theorem StepOK.appendD {d k k2 : Nat} {s : Operand} {t E E2 : TypeId} {β : Type} [Rep β] {l1 l2 : List (List β)} (hT : RowOK P t E Raw) (hd : Nat.blt d fs = true) (hs : RowArg L B s k (rowD E E2 mkR subR [] l1)) (hl2 : lookB B k2 = some (rowD E E2 mkR subR [] l2))
    (hb : l1.length + l2.length ≤ 1073741824) (hne : k ≠ k2) :
    StepOK P ops fs ⟨some d, .call { callee := .builtin .append, args := #[s, .tmp k2], argTypes := #[t, t] }, ty, pos, after, none⟩ L B ([k, k2], [d, k, k2]) ⟨True, anyV⟩ [(d, some (rowD E E2 mkR subR [] (l1 ++ l2))), (k, none), (k2, none)] := by
  refine .doing fun M D a w hsz hm hsat hsB => ?_
  obtain ⟨hC, C0, hl⟩ := hs.get hsat (fun t ht => looksAt_op (call_ops (by simp [ht]))) hsB (by simp)
  have hX := hsB.has k2 (by simp) _ hl2
  have hap := hsB.apart k (by simp) k2 (by simp) _ _ hl hl2 hne
  obtain ⟨ss1, Dm1, Dr1, a1, a2, _, a4, a5, a6, a7, a8⟩ := hC
  obtain ⟨ss2, Dm2, Dr2, b1, b2, _, b4, b5, b6, b7, b8⟩ := hX
  have hX2 : (rep (List.zipWith mkR l2 ss2)).p (fun j => M j ∧ ¬ Dm2 j) (a.eval (.tmp k2)) w := by rw [eval_val]; exact rowV_rep M Dm2 w _ b2 hm
  have hC2 : (rowV E (List.zipWith mkR l1 ss1)).p (fun j => M j ∧ ¬ Dm2 j) Dm1 (a.eval s) w :=
    (rowV E _).law M _ Dm1 _ w w (Keeps.refl _ _) (fun j h => .inl h.1) (fun j hj => ⟨⟨(rowV E _).inM _ _ _ _ a2 j hj, fun h2 => hap j (a6 j (.inl hj)) (b6 j (.inl h2))⟩, rfl⟩) a2
  obtain ⟨v, w', M', D', hr, h1, h2, h3, h4, h5, h6⟩ := run_append (P := P) (ty := ty) hT (fun j h => hm j h.1) hC2 hX2 (by rw [List.length_zipWith, List.length_zipWith]; omega)
  have hkD : Keeps (D k) w w' := h2.mono (fun j _ h => a6 j (.inl h))
  have hkM : Keeps M w w' := h2.mono (fun j _ h => (rowV E _).inM _ _ _ _ a2 j h)
  have hM'' : ∀ j, (M' j ∨ M j) → M j ∨ w.heap.size ≤ j := fun j h => h.elim (fun h => (h4 j h).imp (fun h => h.1) id) .inl
  refine Does.value (ex_append hr) (.pass2 (fun j => M' j ∨ M j) (fun j => D' j ∨ (∃ i, Dr1 i j) ∨ ∃ i, Dr2 i j) hl hl2 hkD (fun j h => .inr h) hM'' (fun j h => ?_) ⟨fun _ => trivial, fun hf => (hf trivial).elim⟩ ?_ (fun j h => ?_))
  · rcases h with h | h
    · exact h5 j h
    · exact Nat.lt_of_lt_of_le (hm j h) h2.size
  · rw [val_self (by rw [hsz]; exact Nat.le_of_ble_eq_true hd)]
    have hz : List.zipWith (mkR (β := β)) (l1 ++ l2) (ss1 ++ ss2) = List.zipWith mkR l1 ss1 ++ List.zipWith mkR l2 ss2 := List.zipWith_append a1.symm
    refine ⟨ss1 ++ ss2, D', fun i => if i < l1.length then Dr1 i else Dr2 (i - l1.length), by simp [a1, b1], ?_, by simp, fun i x z hx hz' _ => ?_, fun j h => ?_, fun j h => ?_, fun i j h => ?_, fun i i' j h h' => ?_⟩
    · rw [hz]
      obtain ⟨ad, cap, e1, e2, e3, e4⟩ := h1
      refine ⟨ad, cap, e1, e2, e3, ?_⟩
      cases ad with
      | none => exact e4
      | some ad =>
        obtain ⟨f1, f2, f3, pre, cs, rest, f4, f5, f6, f7⟩ := e4
        refine ⟨f1, f2, .inl f3, pre, cs, rest, f4, f5, ?_, f7⟩
        have key : ∀ (ys : List Raw) (cs : List Value), Elems M' w' ys cs → Elems (fun j => M' j ∨ M j) w' ys cs := by
          intro ys
          induction ys with
          | nil => intro cs h; exact h
          | cons y ys ih => rintro cs ⟨c, r, h, hc, hr⟩; exact ⟨c, r, h, hc, ih r hr⟩
        exact key _ _ f6
    · by_cases c : i < l1.length
      · rw [List.getElem?_append_left c] at hx
        rw [List.getElem?_append_left (by omega)] at hz'
        show (rowV E2 x).p _ (if i < l1.length then Dr1 i else Dr2 (i - l1.length)) z w'
        rw [if_pos c]
        refine (rowV E2 x).law M _ (Dr1 i) _ w w' hkM hM'' (fun q hq => ?_) (a4 i x z hx hz' (by simp))
        have hq' := a5 q (a6 q (.inr ⟨i, hq⟩))
        exact ⟨.inr hq', h2.block q (hm q hq') (a7 i q hq)⟩
      · rw [List.getElem?_append_right (by omega)] at hx hz'
        rw [a1] at hz'
        show (rowV E2 x).p _ (if i < l1.length then Dr1 i else Dr2 (i - l1.length)) z w'
        rw [if_neg c]
        refine (rowV E2 x).law M _ (Dr2 (i - l1.length)) _ w w' hkM hM'' (fun q hq => ?_) (b4 _ x z hx hz' (by simp))
        have hq2 := b6 q (.inr ⟨_, hq⟩)
        have hq' := b5 q hq2
        exact ⟨.inr hq', h2.block q (hm q hq') (fun h => hap q (a6 q (.inl h)) hq2)⟩
    · rcases h with h | ⟨i, h⟩ | ⟨i, h⟩
      · exact .inl ((rowV E _).inM _ _ _ _ h1 j h)
      · exact .inr (a5 j (a6 j (.inr ⟨i, h⟩)))
      · exact .inr (b5 j (b6 j (.inr ⟨i, h⟩)))
    · rcases h with h | ⟨i, h⟩
      · exact .inl h
      · by_cases c : i < l1.length
        · rw [if_pos c] at h; exact .inr (.inl ⟨i, h⟩)
        · rw [if_neg c] at h; exact .inr (.inr ⟨_, h⟩)
    · intro hd'
      by_cases c : i < l1.length
      · simp only [if_pos c] at h
        have hq := hm j (a5 j (a6 j (.inr ⟨i, h⟩)))
        rcases h6 j hd' with h' | h'
        · exact a7 i j h h'
        · omega
      · simp only [if_neg c] at h
        have hq2 := b6 j (.inr ⟨_, h⟩)
        have hq := hm j (b5 j hq2)
        rcases h6 j hd' with h' | h'
        · exact hap j (a6 j (.inl h')) hq2
        · omega
    · by_cases c : i < l1.length <;> by_cases c' : i' < l1.length
      · simp only [if_pos c] at h
        simp only [if_pos c'] at h'
        exact a8 i i' j h h'
      · simp only [if_pos c] at h
        simp only [if_neg c'] at h'
        exact absurd (b6 j (.inr ⟨_, h'⟩)) (hap j (a6 j (.inr ⟨_, h⟩)))
      · simp only [if_neg c] at h
        simp only [if_pos c'] at h'
        exact absurd (b6 j (.inr ⟨_, h⟩)) (hap j (a6 j (.inr ⟨_, h'⟩)))
      · simp only [if_neg c] at h
        simp only [if_neg c'] at h'
        have := b8 _ _ j h h'
        omega
  · rcases h with h | ⟨i, h⟩ | ⟨i, h⟩
    · exact (h6 j h).imp (fun h => .inl (a6 j (.inl h))) id
    · exact .inl (.inl (a6 j (.inr ⟨i, h⟩)))
    · exact .inl (.inr (b6 j (.inr ⟨i, h⟩)))
/-- What owns memory goes into a box, whatever lay there. -/
theorem StepOK.storeRowB {T T' m k t : Nat} {p : Operand} {α γ : Type} [Rep α] [Rep γ] {y0 : γ} {R : CPred} (hT : Ty P T (List α)) (hl : lookB B k = some (boxAt m T' y0)) (hp : Opd L True p (isV (ptr m 0)))
    (h1 : Rep.sz γ = 1) (ht : lookB B t = some R) (hR1 : OneC R) (hkt : (k == t) = false) :
    StepOK P ops fs ⟨none, .store T p (.tmp t), ty, pos, after, none⟩ L B ([k, t], [k, t]) ⟨True, anyV⟩ [(k, some (CPred.at (ptr m 0) (deep (fun s => cont T' (⟨s⟩ : Raw)) R))), (t, none)] := by
  have hkt : k ≠ t := by simpa using hkt
  refine .doing fun M D a w hsz hm hs hsB => ?_
  obtain ⟨m', old, hvm, hD, hM, hh, hold⟩ := hsB.has k (by simp) _ hl
  obtain rfl : m = m' := by simp [ptr] at hvm; exact hvm
  have hR := hsB.has t (by simp) _ ht
  have hap := hsB.apart k (by simp) t (by simp) _ _ hl ht hkt
  have hxv : a.eval (.tmp t) = Act.val a t := eval_val
  obtain ⟨hv1, hv2⟩ := hR1 _ _ _ _ hR
  have hz : Rep.cells M (⟨Act.val a t⟩ : Raw) [Act.val a t] w := ⟨rfl, hv1, hv2⟩
  have hat : a.eval p = ptr m 0 := (rep_raw.1 (hp.get hs (fun t ht => looksAt_op (by simp [Op.operands, ht])) trivial)).1
  have hlo := Rep.len hold
  obtain ⟨w', g1, g2, g3, g4, g5, g6, g7⟩ := run_storeAt (w := w) (m := m) (off := 0) (cs := [Act.val a t]) (pre := []) (mid := old) (rest := []) hT rfl
    (by rw [hlo, h1]; rfl) rfl (Rep.plain hz) (show (Act.val a t).cells = #[Act.val a t] from hv2) (by simpa using hh)
  have hkeep : Keeps (D k) w w' := ⟨g3, g4, g5, by omega, fun j _ hn => g7 j (fun e => hn ((hD j).2 e))⟩
  have hkM : Keeps M w w' := ⟨g3, g4, g5, by omega, fun j _ hn => g7 j (fun e => hn (e ▸ hM))⟩
  refine Does.skip (w' := w') (ex_store (by rw [hat, hxv]; exact g1)) rfl (.merge hl ht hkeep (fun j h => by rw [g6]; exact hm j h) ⟨fun _ => trivial, fun hf => (hf trivial).elim⟩ ?_)
  refine ⟨Act.val a t, D k, D t, ⟨m, _, rfl, hD, hM, by simpa using g2, Rep.law hkM (fun _ h => .inl h) hz⟩, ?_, fun _ => Iff.rfl, fun j h1 h2 => hap j h1 h2⟩
  exact R.law M M (D t) _ w w' hkM (fun _ h => .inl h) (fun j hj => ⟨R.inM _ _ _ _ hR j hj, g7 j (fun e => hap j ((hD j).2 e) hj)⟩) hR
theorem FlatC.rowR {β : Type} [Rep β] [Flat β] {E E2 : Nat} {l : List (List β)} : FlatC (rowD E E2 mkR subR [] l) := by
  rintro M M1 D v w hM ⟨ss, Dm, Dr, h1, h2, h3, h4, h5, h6, h7, h8⟩
  refine ⟨ss, Dm, Dr, h1, ?_, h3, fun i a s ha hs hn => FlatC.row M M1 _ _ _ hM (h4 i a s ha hs hn), fun j h => hM j (h5 j h), h6, h7, h8⟩
  obtain ⟨ad, cap, e1, e2, e3, e4⟩ := h2
  refine ⟨ad, cap, e1, e2, e3, ?_⟩
  cases ad with
  | none => exact e4
  | some ad =>
    obtain ⟨f1, f2, f3, pre, cs, rest, f4, f5, f6, f7⟩ := e4
    have key : ∀ (ys : List Raw) (cs : List Value), Elems M w ys cs → Elems M1 w ys cs := by
      intro ys
      induction ys with
      | nil => intro cs h; exact h
      | cons y ys ih => rintro cs ⟨c, r, h, hc, hr⟩; exact ⟨c, r, h, hc, ih r hr⟩
    exact ⟨f1, f2, hM _ f3, pre, cs, rest, f4, f5, key _ _ f6, f7⟩
/-- A closure that only reads memory that is lent, and hands out memory of its own. -/
theorem StepOK.callCLO {d f t : Nat} {xs : Array Operand} {ts : Array TypeId} {Ss Cs Cs' : List SPred} {R : CPred} {ks : List Nat} (hx : Opd L True (.tmp t) (cloV f Cs)) (hf : FnOK P f) (hc : CapsTo B Cs Cs' ks) (hspec : FSpecO P f (Ss ++ Cs') [] anyV [some R]) (hR : FlatC R) (ha : OpdL L True xs.toList Ss) (hd : Nat.blt d fs = true) :
    StepOK P ops fs ⟨some d, .call { callee := .value (.tmp t), args := xs, argTypes := ts }, ty, pos, after, none⟩ L B (ks, [d]) ⟨True, anyV⟩ [(d, some R)] :=
  .doing fun M D a w hsz hm hs hsB => by
    let M' : MSet := fun j => M j ∧ ∀ k ∈ ks, ¬ D k j
    have ha := ha.get hs (fun x hxm t ht => looksAt_op (call_ops (by subst ht; simpa using hxm))) trivial
    obtain ⟨caps, hfv, hcc⟩ := hx.get hs (fun t' ht => looksAt_op (by cases ht; simp [Op.operands, Call.operands])) trivial
    have hc' := hc.get hsB (fun k h => List.mem_append_left _ h) hm M' (fun k h => h.1) (fun k hk j hd h => h.2 k hk hd) caps hcc
    have ha' := All2.law (M' := M') (Keeps.refl M w) (fun k h => .inl h.1) _ _ ha
    have hr : (execOp a.eval ⟨some d, .call { callee := .value (.tmp t), args := xs, argTypes := ts }, ty, pos, after, none⟩).run P w = .ok (.enter f (xs.toList.map a.eval ++ caps).toArray) w := by
      rw [show (xs.toList.map a.eval ++ caps).toArray = xs.map a.eval ++ caps.toArray by simp]
      exact ex_callV hf hfv
    have hgive := hspec.calls M' (fun _ => NoM) w _ (hm.less fun k h => h.1) (All2.append _ _ _ _ ha' hc') ⟨fun i s c h => by simp at h, fun i j x y h => by simp at h⟩
    refine Does.enterO hr hgive fun e w' he => ?_
    obtain ⟨v, M1, D1, rfl, hk, hml, hmh, hms, hSv, hC, hA⟩ := he
    have hout := hC 0 R rfl
    refine ⟨v, rfl, .one (fun j => M1 j ∨ M j) (D1 0) (hk.mono fun k _ h => by obtain ⟨i, hi, _⟩ := h; exact absurd hi (by simp)) (fun j h => .inr h) (fun j h => ?_) (fun j h => ?_) ⟨fun _ => trivial, fun hf => (hf trivial).elim⟩ ?_ (fun j h => ?_)⟩
    · rcases h with h | h
      · exact (hmh j h).imp (fun h => h.1) id
      · exact .inl h
    · rcases h with h | h
      · exact hms j h
      · exact Nat.lt_of_lt_of_le (hm j h) hk.size
    · rw [val_self (by rw [hsz]; exact Nat.le_of_ble_eq_true hd)]
      exact hR _ _ _ _ _ (fun k h => .inl h) (by simpa using hout.1)
    · rcases hout.2 j h with h' | h'
      · obtain ⟨i, hi, _⟩ := h'; exact absurd hi (by simp)
      · exact h'
/-- The same, where what is handed out is written no more. -/
theorem StepOK.callCLZ {d : Option Nat} {f t : Nat} {xs : Array Operand} {ts : Array TypeId} {Ss Cs Cs' : List SPred} {R : CPred} {ks : List Nat} {α : Type} [Rep α] {l : α} (hx : Opd L True (.tmp t) (cloV f Cs)) (hf : FnOK P f) (hc : CapsTo B Cs Cs' ks) (hspec : FSpecO P f (Ss ++ Cs') [] anyV [some R]) (hR : FlatC R) (hF : FrzC R l) (ha : OpdL L True xs.toList Ss) :
    StepOK P ops fs ⟨d, .call { callee := .value (.tmp t), args := xs, argTypes := ts }, ty, pos, after, none⟩ L B (ks, []) ⟨True, rep l⟩ [] :=
  .of .none fun M D a w hm hs hsB hG => by
    let M' : MSet := fun j => M j ∧ ∀ k ∈ ks, ¬ D k j
    have ha := ha.get hs (fun x hxm t ht => looksAt_op (call_ops (by subst ht; simpa using hxm))) trivial
    obtain ⟨caps, hfv, hcc⟩ := hx.get hs (fun t' ht => looksAt_op (by cases ht; simp [Op.operands, Call.operands])) trivial
    have hc' := hc.get hsB (fun k h => h) hm M' (fun k h => h.1) (fun k hk j hd h => h.2 k hk hd) caps hcc
    have ha' := All2.law (M' := M') (Keeps.refl M w) (fun k h => .inl h.1) _ _ ha
    have hr : (execOp a.eval ⟨d, .call { callee := .value (.tmp t), args := xs, argTypes := ts }, ty, pos, after, none⟩).run P w = .ok (.enter f (xs.toList.map a.eval ++ caps).toArray) w := by
      rw [show (xs.toList.map a.eval ++ caps).toArray = xs.map a.eval ++ caps.toArray by simp]
      exact ex_callV hf hfv
    have hgive := hspec.calls M' (fun _ => NoM) w _ (hm.less fun k h => h.1) (All2.append _ _ _ _ ha' hc') ⟨fun i s c h => by simp at h, fun i j x y h => by simp at h⟩
    refine Does.enterO hr hgive fun e w' he => ?_
    obtain ⟨v, M1, D1, rfl, hk, hml, hmh, hms, hSv, hC, hA⟩ := he
    have hout := hC 0 R rfl
    have hnew : ∀ j, D1 0 j → w.heap.size ≤ j := fun j h => by
      rcases hout.2 j h with h' | h'
      · obtain ⟨i, hi, _⟩ := h'; exact absurd hi (by simp)
      · exact h'
    refine ⟨v, rfl, hk.mono fun k _ h => by obtain ⟨i, hi, _⟩ := h; exact absurd hi (by simp), ?_⟩
    have h1 : R.p (fun j => M1 j ∨ M j) (D1 0) v w' := hR _ _ _ _ _ (fun k h => .inl h) (by simpa using hout.1)
    have h2 := hF _ _ _ _ h1 (fun j h => h.elim (hms j) (fun h => Nat.lt_of_lt_of_le (hm j h) hk.size))
    exact rep_less h2 (fun j h => ⟨.inr h, fun hd => by have := hnew j hd; have := hm j h; omega⟩)
/-- Rows of rows are lent. -/
theorem lentRowR {G : Prop} {β : Type} [Rep β] {x : Operand} {k E E2 : Nat} {l : List (List β)} (h1 : RowArg L B x k (rowD E E2 mkR subR [] l)) : LentTo L B G x (rep l) [k] := fun {ts kz M D a w} hs hx hB hk hG hm M' hM hD => by
  obtain ⟨hC, _⟩ := h1.get hs hx hB (hk _ List.mem_cons_self)
  exact rep_less (rowR_rep hC hm) (fun j h => ⟨hM j h, fun hd => hD _ List.mem_cons_self j hd h⟩)
theorem isBox_contS {T : Nat} {S : SPred} : IsBox (contS T S) := fun M D v w ⟨m, u, hv, _⟩ => ⟨m, hv⟩
end
end Go.DB
