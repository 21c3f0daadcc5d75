/-
  Plain rules on the program's operations, code and memory (texts laid together).
-/
import Derived.Test.YtlbbcehlhbaggaaGreatDoorCoreE
/-
  Maps whose elements are rows of one's own; pointers that may be nil; rows that a call keeps.
-/
set_option linter.unusedVariables false
set_option linter.unusedSimpArgs false
namespace Go.DB
open Go Go.RowKit

section
variable {K α : Type} [Rep K] [Rep α]

/-- What an entry's row is. -/
def FitR (E : Nat) (M D : MSet) (w : World) : Option (List α) → Option Raw → Prop
  | some l, some s => (rowV E l).p M D s.v w
  | none, none => ∀ j, ¬ D j
  | _, _ => False

theorem FitR.law {E : Nat} {M M' D : MSet} {w w' : World} {a : Option (List α)} {b : Option Raw} (hk : Keeps M w w') (hm : ∀ k, M' k → M k ∨ w.heap.size ≤ k) (ho : ∀ k, D k → M' k ∧ w'.heap[k]? = w.heap[k]?) (h : FitR E M D w a b) : FitR E M' D w' a b := by
  match a, b, h with
  | some l, some s, h => exact (rowV E l).law M M' D s.v w w' hk hm ho h
  | none, none, h => exact h

/-- A map whose elements are rows of one's own; at the keys of the hole nothing is told. -/
def mapH (E : Nat) (hole : K → Prop) (m : GMap K (List α)) : CPred where
  p := fun M D v w => ∃ (r : GMap K Raw) (Dm : MSet) (Dr : K → MSet), (mapV r).p M Dm v w ∧ (∀ k, ¬ hole k → FitR E M (Dr k) w (m.f k) (r.f k)) ∧ (∀ j, D j → M j) ∧
    (∀ j, (Dm j ∨ ∃ k, Dr k j) → D j) ∧ (∀ k j, Dr k j → ¬ Dm j) ∧ ∀ k k' j, Dr k j → Dr k' j → k = k'
  inM := fun M D v w ⟨r, Dm, Dr, h1, _, h3, h4, _⟩ k hk => h3 k hk
  law := fun M M' D v w w' hk hm hown ⟨r, Dm, Dr, h1, h2, h3, h4, h5, h6⟩ => by
    have o1 : ∀ j, Dm j → D j := fun j h => h4 j (.inl h)
    have o2 : ∀ k j, Dr k j → D j := fun k j h => h4 j (.inr ⟨k, h⟩)
    exact ⟨r, Dm, Dr, (mapV r).law M M' Dm v w w' hk hm (fun j h => hown j (o1 j h)) h1, fun k hn => (h2 k hn).law hk hm (fun j h => hown j (o2 k j h)), fun j h => (hown j h).1, h4, h5, h6⟩
abbrev mapW (E : Nat) (m : GMap K (List α)) : CPred := mapH E (fun _ => False) m

theorem mapW_map {E : Nat} {m : GMap K (List α)} {M D : MSet} {s : Value} {w : World} (h : (mapW E m).p M D s w) : ∃ b, s = .map (some b) := by
  obtain ⟨r, Dm, Dr, h1, _⟩ := h
  exact mapV_map h1
theorem oneMapW {E : Nat} {m : GMap K (List α)} : OneC (mapW E m) := fun _ _ _ _ h => by
  obtain ⟨b, hv⟩ := mapW_map h
  rw [hv]; exact ⟨rfl, rfl⟩

theorem mapW_rep {E : Nat} {m : GMap K (List α)} {M D : MSet} {w : World} {s : Value} (h : (mapW E m).p M D s w) (hms : ∀ k, M k → k < w.heap.size) : (rep m).p (fun k => M k ∧ ¬ D k) s w := by
  obtain ⟨r, Dm, Dr, ⟨b, es, clock, l, hv, hD, hM, hh, hi⟩, h2, h3, h4, h5, h6⟩ := h
  have hfit : ∀ k s, r.f k = some s → ∃ v, m.f k = some v ∧ (rowV E v).p M (Dr k) s.v w := fun k s hk => by
    have := h2 k (fun h => h)
    rw [hk] at this
    cases hm : m.f k with
    | none => rw [hm] at this; exact this.elim
    | some v => rw [hm] at this; exact ⟨v, rfl, this⟩
  have hnone : ∀ k, r.f k = none → m.f k = none := fun k hk => by
    have := h2 k (fun h => h)
    rw [hk] at this
    cases hm : m.f k with
    | none => rfl
    | some v => rw [hm] at this; exact this.elim
  refine rep_map.2 (.inr ⟨b, es, clock, l.map (fun x => (x.1, (m.f x.1).getD [])), hv, fun hb => hb.2 (h4 b (.inl ((hD b).2 rfl))), hms b hM, hh, ⟨?_, ?_, hi.born, hi.low⟩⟩)
  · refine ⟨by rw [List.length_map]; exact hi.ents.1, fun j e x hj hx => ?_⟩
    rw [List.getElem?_map] at hx
    obtain ⟨y, hy, rfl⟩ := Option.map_eq_some_iff.1 hx
    obtain ⟨g1, g2⟩ := hi.ents.2 j e y hj hy
    have hr := (hi.lists.mem y.1 y.2).1 (List.mem_of_getElem? hy)
    obtain ⟨v, hm, hR⟩ := hfit _ _ hr
    have hval : e.val = y.2.v := (rep_raw.1 g2).1
    refine ⟨rep_less g1 (fun k hk => hk.1), ?_⟩
    show (rep ((m.f y.1).getD [])).p _ e.val w
    rw [hm, Option.getD_some, hval]
    refine rep_less (rowV_rep M (Dr y.1) w _ hR hms) (fun k hk => ⟨hk.1, fun hd => hk.2 (h4 k (.inr ⟨_, hd⟩))⟩)
  · refine ⟨?_, fun k v => ?_⟩
    · rw [List.map_map]
      exact hi.lists.nodup
    · constructor
      · intro hin
        obtain ⟨x, hx, he⟩ := List.mem_map.1 hin
        have hr := (hi.lists.mem x.1 x.2).1 hx
        obtain ⟨v', hm, _⟩ := hfit _ _ hr
        simp only [Prod.mk.injEq] at he
        obtain ⟨rfl, rfl⟩ := he
        rw [hm]; rfl
      · intro hm
        cases hr : r.f k with
        | none => rw [hnone k hr] at hm; cases hm
        | some s => exact List.mem_map.2 ⟨(k, s), (hi.lists.mem k s).2 hr, by simp [hm]⟩
theorem frzMapW {E : Nat} {m : GMap K (List α)} : FrzC (mapW E m) m := fun M D s w h hms => mapW_rep h hms
end

section
variable {P : Program} {ops : Array Oper} {fs : Nat} {L : Slots} {B : Owns} {G : Prop}
variable {ty : TypeId} {pos : String} {after : Array Edge} {g : Option (Nat × Bool)} {xr : List Nat} {d : Option Tmp}
variable {K α : Type} [Rep K] [DecidableEq K] [MKey K] [Rep α] {T kt et : TypeId} {m : GMap K (List α)} {k : K}

omit [DecidableEq K] [MKey K] in
theorem StepOK.makeMapW {E d : Nat} (hd : Nat.blt d fs = true) :
    StepOK P ops fs ⟨some d, .makeMap T none, ty, pos, after, none⟩ L B ([], [d]) ⟨True, anyV⟩ [(d, some (mapW E (GMap.nil : GMap K (List α))))] := by
  refine .doing fun M D a w hsz hm hs _ => ?_
  refine Does.value (v := .map (some w.heap.size)) (w' := w.alloc (.map #[] 0)) rfl (.one (fun k => M k ∨ k = w.heap.size) (fun k => k = w.heap.size) (Ext.alloc _ _) (fun k h => .inl h) (fun k h => h.imp id (by omega)) (fun k h => ?_) ⟨fun _ => trivial, fun hf => (hf trivial).elim⟩ ?_ (fun k h => by omega))
  · rw [size_new]
    rcases h with h | h
    · have := hm k h; omega
    · omega
  · rw [val_self (by rw [hsz]; exact Nat.le_of_ble_eq_true hd)]
    refine ⟨GMap.nil, fun k => k = w.heap.size, fun _ _ => False, ⟨w.heap.size, #[], 0, [], rfl, fun k => Iff.rfl, .inr rfl, ?_, ⟨Ents.nil, Lists.nil, by simp, by simp⟩⟩, fun k _ => fun _ h => h, fun j h => .inr h, fun j h => h.elim id (fun ⟨_, h⟩ => h.elim), fun _ _ h => h.elim, fun _ _ _ h => h.elim⟩
    show (w.heap.push _)[w.heap.size]? = _
    rw [Array.getElem?_push_size]

/-- A row is taken out of the map. -/
theorem StepOK.mapTake {E d q : Nat} {x y : Operand} {s : Value} (hT : MapOf P T kt et (MKey.desc K)) (hz : ZeroOf P et (⟨.slice none 0 0⟩ : Raw)) (hd : Nat.blt d fs = true) (hdq : (d == q) = false) (hx : Opd L True x (isV s)) (hq : lookB B q = some (CPred.at s (mapW E m))) (hy : Opd L True y (rep k)) :
    StepOK P ops fs ⟨some d, .lookup T x y false, ty, pos, after, none⟩ L B ([q], [d, q]) ⟨True, anyV⟩ [(d, some (rowV E (m.getD k []))), (q, some (CPred.at s (mapH E (fun z => z = k) m)))] := by
  have hdq : d ≠ q := by simpa using hdq
  refine .doing fun M D a w hsz hm hs hsB => ?_
  have he : a.eval x = s := (rep_raw.1 (hx.get hs (fun t ht => looksAt_op (by simp [Op.operands, ht])) trivial)).1
  obtain ⟨r, Dm, Dr, ⟨b, es, clock, l, hv, hD, hM, hh, hi⟩, h2, h3, h4, h5, h6⟩ := hsB.has q (by simp) _ hq
  have hk := hy.get hs (fun t ht => looksAt_op (by simp [Op.operands, ht])) trivial
  obtain ⟨u, hu, hr⟩ := run_lookupAt (z := (⟨.slice none 0 0⟩ : Raw)) hT hz hk hh hi false
  have hu' : u = (r.getD k ⟨.slice none 0 0⟩).v := (rep_raw.1 hu).1
  refine Does.value (v := u) (w' := w) ?_ ?_
  · simp only [execOp, he, hv]; rw [Sem.run_bind, hr]; rfl
  have mine : ∀ j, D q j → Mine [d, q] B D j := fun j hj => ⟨q, by simp, _, hq, hj⟩
  have cs : ∀ t c, lookB [(d, some (rowV E (m.getD k []))), (q, some (CPred.at s (mapH E (fun z => z = k) m)))] t = some c → (t = d ∧ c = rowV E (m.getD k [])) ∨ (t = q ∧ c = CPred.at s (mapH E (fun z => z = k) m)) := by
    intro t c hc
    simp only [lookB] at hc
    by_cases q1 : d = t
    · subst q1; simp at hc; exact .inl ⟨rfl, hc.symm⟩
    · rw [beq_ne q1, cond_false] at hc
      by_cases q2 : q = t
      · subst q2; simp at hc; exact .inr ⟨rfl, hc.symm⟩
      · rw [beq_ne q2, cond_false] at hc; cases hc
  refine ⟨M, fun t j => if t = d then Dr k j else (D q j ∧ ¬ Dr k j), Keeps.refl _ _, fun j h => .inl h, fun j h => .inl h, hm, ⟨fun _ => trivial, fun hf => (hf trivial).elim⟩, fun t c hc => ?_, fun t t' c c' hc hc' hne => ?_⟩
  · rcases cs t c hc with ⟨rfl, rfl⟩ | ⟨rfl, rfl⟩
    · simp only [if_pos rfl]
      refine ⟨?_, fun j hj => .inl (mine j (h4 j (.inr ⟨k, hj⟩)))⟩
      rw [val_self (by rw [hsz]; exact Nat.le_of_ble_eq_true hd)]
      have hf := h2 k (fun h => h)
      cases hmk : m.f k with
      | none =>
        rw [hmk] at hf
        cases hrk : r.f k with
        | none =>
          rw [hrk] at hf
          have hu2 : u = .slice none 0 0 := by rw [hu']; simp [GMap.getD, hrk]
          have e : m.getD k [] = [] := by simp [GMap.getD, hmk]
          rw [hu2, e]
          exact ⟨none, 0, rfl, Nat.le_refl _, by omega, rfl, rfl, hf⟩
        | some z => rw [hrk] at hf; exact hf.elim
      | some v =>
        rw [hmk] at hf
        cases hrk : r.f k with
        | none => rw [hrk] at hf; exact hf.elim
        | some z =>
          rw [hrk] at hf
          have hu2 : u = z.v := by rw [hu']; simp [GMap.getD, hrk]
          have e : m.getD k [] = v := by simp [GMap.getD, hmk]
          rw [hu2, e]
          exact hf
    · have hne : t ≠ d := fun e => hdq e.symm
      simp only [if_neg hne]
      refine ⟨⟨r, Dm, fun k' j => k' ≠ k ∧ Dr k' j, ⟨b, es, clock, l, hv, hD, hM, hh, hi⟩, fun k' hn => ?_, fun j h => h3 j h.1, fun j h => ⟨h4 j (h.imp id (fun ⟨k', h⟩ => ⟨k', h.2⟩)), fun hd => h.elim (fun h => h5 _ _ hd h) (fun ⟨k', h, h'⟩ => h (h6 _ _ _ h' hd))⟩, fun k' j h => h5 k' j h.2, fun k1 k2 j a1 a2 => h6 k1 k2 j a1.2 a2.2⟩, fun j hj => .inl (mine j hj.1)⟩
      have hf := h2 k' (fun h => h)
      have e : (fun j => k' ≠ k ∧ Dr k' j) = Dr k' := by
        funext j; exact propext ⟨fun h => h.2, fun h => ⟨hn, h⟩⟩
      show FitR E M (fun j => k' ≠ k ∧ Dr k' j) w _ _
      rw [e]; exact hf
  · intro j hj hj'
    rcases cs t c hc with ⟨rfl, _⟩ | ⟨rfl, _⟩ <;> rcases cs t' c' hc' with ⟨rfl, _⟩ | ⟨rfl, _⟩
    · exact hne rfl
    · simp only [if_pos rfl] at hj
      simp only [if_neg (Ne.symm hdq)] at hj'
      exact hj'.2 hj
    · simp only [if_pos rfl] at hj'
      simp only [if_neg (Ne.symm hdq)] at hj
      exact hj.2 hj'
    · exact hne rfl

/-- A row is put into the map. -/
theorem StepOK.mapPut {E q t : Nat} {x y : Operand} {s : Value} {hole : K → Prop} {l : List α} (hT : MapOf P T kt et (MKey.desc K)) (hqt : (q == t) = false) (hx : Opd L True x (isV s)) (hq : lookB B q = some (CPred.at s (mapH E hole m))) (hh : ∀ z, hole z → z = k) (ht : lookB B t = some (rowV E l)) (htn : Nat.blt t fs = true) (hy : Opd L True y (rep k)) :
    StepOK P ops fs ⟨none, .mapUpdate T x y (.tmp t), ty, pos, after, none⟩ L B ([q, t], [q, t]) ⟨True, anyV⟩ [(q, some (CPred.at s (mapW E (m.set k l)))), (t, none)] := by
  have hqt : q ≠ t := by simpa using hqt
  refine .doing fun M D a w hsz hm hs hsB => ?_
  have he : a.eval x = s := (rep_raw.1 (hx.get hs (fun t ht => looksAt_op (by simp [Op.operands, ht])) trivial)).1
  obtain ⟨r, Dm, Dr, ⟨b, es, clock, es0, hv, hD, hM, hb, hi⟩, h2, h3, h4, h5, h6⟩ := hsB.has q (by simp) _ hq
  have hR := hsB.has t (by simp) _ ht
  have hap := hsB.apart q (by simp) t (by simp) _ _ hq ht hqt
  have hk := hy.get hs (fun t ht => looksAt_op (by simp [Op.operands, ht])) trivial
  obtain ⟨o1, o2⟩ := row_one hR
  have hx2 : (rep (⟨Act.val a t⟩ : Raw)).p M (Act.val a t) w := rep_raw.2 ⟨rfl, o1, o2⟩
  obtain ⟨es', clock', l', hr, hi'⟩ := run_updateAt (x := (⟨Act.val a t⟩ : Raw)) hT hk hx2 hb hi
  have hkm : Keeps Dm w { w with heap := w.heap.setIfInBounds b (.map es' clock') } := keeps_set hD
  have hkq : Keeps (D q) w { w with heap := w.heap.setIfInBounds b (.map es' clock') } := hkm.mono (fun j _ h => h4 j (.inl h))
  have hkM : Keeps M w { w with heap := w.heap.setIfInBounds b (.map es' clock') } := hkm.mono (fun j _ h => (hD j).1 h ▸ hM)
  have same : ∀ j, j ≠ b → (w.heap.setIfInBounds b (.map es' clock'))[j]? = w.heap[j]? := fun j hj => by simp [Array.getElem?_setIfInBounds, Ne.symm hj]
  have inR : ∀ j, D t j → M j := fun j hj => CPred.inM _ M (D t) _ w hR j hj
  have nb : ∀ j, D t j → j ≠ b := fun j hj e => hap j (h4 j (.inl ((hD j).2 e))) hj
  refine Does.skip (w' := { w with heap := w.heap.setIfInBounds b (.map es' clock') }) ?_ rfl (.merge hq ht hkq (fun j h => by simpa using hm j h) ⟨fun _ => trivial, fun hf => (hf trivial).elim⟩ ?_)
  · have : a.eval (.tmp t) = Act.val a t := eval_val
    simp only [execOp, he, hv, this]; rw [Sem.run_bind, hr]; rfl
  · rw [val_none]
    have outR : ∀ k' j, Dr k' j → j ≠ b := fun k' j h e => h5 k' j h ((hD j).2 e)
    refine ⟨r.set k ⟨Act.val a t⟩, Dm, fun k' => if k' = k then D t else Dr k', ⟨b, es', clock', l', hv, hD, hM, set_self hb, hi'.stay hkM (fun _ h => h)⟩, fun k' _ => ?_, fun j h => h.elim (h3 j) (inR j), fun j h => ?_, fun k' j h => ?_, fun k1 k2 j a1 a2 => ?_⟩
    · show FitR E M (if k' = k then D t else Dr k') _ (if k' = k then some l else m.f k') (if k' = k then some ⟨Act.val a t⟩ else r.f k')
      by_cases hkk : k' = k
      · rw [if_pos hkk, if_pos hkk, if_pos hkk]
        exact (rowV E l).law M M (D t) _ w _ hkM (fun _ h => .inl h) (fun j hj => ⟨inR j hj, same j (nb j hj)⟩) hR
      · rw [if_neg hkk, if_neg hkk, if_neg hkk]
        exact (h2 k' (fun h => hkk (hh k' h))).law hkM (fun _ h => .inl h) (fun j hj => ⟨h3 j (h4 j (.inr ⟨k', hj⟩)), same j (outR k' j hj)⟩)
    · rcases h with h | ⟨k', h⟩
      · exact .inl (h4 j (.inl h))
      · by_cases hkk : k' = k
        · rw [if_pos hkk] at h; exact .inr h
        · rw [if_neg hkk] at h; exact .inl (h4 j (.inr ⟨k', h⟩))
    · intro hd
      simp only at h
      by_cases hkk : k' = k
      · rw [if_pos hkk] at h; exact hap j (h4 j (.inl hd)) h
      · rw [if_neg hkk] at h; exact h5 k' j h hd
    · simp only at a1 a2
      by_cases c1 : k1 = k <;> by_cases c2 : k2 = k
      · rw [c1, c2]
      · rw [if_pos c1] at a1; rw [if_neg c2] at a2
        exact absurd a1 (hap j (h4 j (.inr ⟨k2, a2⟩)))
      · rw [if_neg c1] at a1; rw [if_pos c2] at a2
        exact absurd a2 (hap j (h4 j (.inr ⟨k1, a1⟩)))
      · rw [if_neg c1] at a1; rw [if_neg c2] at a2
        exact h6 k1 k2 j a1 a2
end

section
variable {P : Program} {Q : Exit → Act → World → Prop} {n : Nat} {F : Fr} {L : Slots} {B : Owns} {K α : Type} [Rep K] [Rep α] {m : GMap K (List α)}
end


/-- A slot that is told without a condition. -/
theorem Opd.s {L : Slots} {G : Prop} {t : Nat} {S : SPred} (h : look L t = some ⟨True, S⟩) : Opd L G (.tmp t) S := .tmp h fun _ => trivial

/-! Pointers that may be nil. -/
instance {α : Type} [Rep α] : Rep (Option α) where
  sz := 1
  agg := false
  cells := fun M o cs w => ∃ v, cs = [v] ∧ ((v = .pointer none ∧ o = none) ∨ ∃ x, o = some x ∧ (ref x).p M v w)
  len := fun ⟨v, h, _⟩ => by rw [h]; rfl
  pos := by decide
  flat := fun ⟨v, h, hv⟩ => by
    subst h
    rcases hv with ⟨rfl, _⟩ | ⟨x, _, b, off, cs, rfl, _⟩ <;> rfl
  plain := fun ⟨v, h, hv⟩ c hc => by
    subst h; simp at hc; subst hc
    rcases hv with ⟨rfl, _⟩ | ⟨x, _, b, off, cs, rfl, _⟩ <;> rfl
  law := fun {M M' x cs w w'} hk hm ⟨v, h, hv⟩ => ⟨v, h, by
    rcases hv with hv | ⟨x, h1, h2⟩
    · exact .inl hv
    · exact .inr ⟨x, h1, (ref x).law _ _ _ _ _ hk hm h2⟩⟩
theorem rep_ptr {α : Type} [Rep α] {o : Option α} {M : MSet} {v : Value} {w : World} : (rep o).p M v w ↔ (v = .pointer none ∧ o = none) ∨ ∃ x, o = some x ∧ (ref x).p M v w := by
  constructor
  · rintro ⟨cs, ⟨u, h, hu⟩, hv⟩
    subst h
    have : v = u := hv
    rw [this]; exact hu
  · intro h
    exact ⟨[v], ⟨v, rfl, h⟩, rfl⟩
theorem ref_of {α : Type} [Rep α] {x : α} {o : Option α} (h : o = some x) {M : MSet} {v : Value} {w : World} (hr : (rep o).p M v w) : (ref x).p M v w := by
  subst h
  rcases rep_ptr.1 hr with ⟨_, h⟩ | ⟨y, h, hy⟩
  · cases h
  · cases h; exact hy
theorem ptr_zero {α : Type} [Rep α] {M : MSet} {w : World} : Rep.cells M (none : Option α) [.pointer none] w := ⟨_, rfl, .inl ⟨rfl, rfl⟩⟩
theorem Imp.refSome {α : Type} [Rep α] {x : α} : Imp (ref x) (rep (some x)) := fun M v w h => rep_ptr.2 (.inr ⟨x, rfl, h⟩)
section
variable {P : Program} {ops : Array Oper} {fs : Nat} {L : Slots} {B : Owns} {G : Prop}
theorem StepOK.isRef {o : Oper} {x : Aux} {α : Type} [Rep α] {e : Option α} {v : α} {Ws : Writes} (hv : e = some v) (h : StepOK P ops fs o L B x ⟨G, rep e⟩ Ws) : StepOK P ops fs o L B x ⟨G, ref v⟩ Ws := by
  intro M D a w h1 h2 h3 h4
  have q := h M D a w h1 h2 h3 h4
  have hh : ∀ M' u w', (⟨G, rep e⟩ : Ent).holds M' u w' → (⟨G, ref v⟩ : Ent).holds M' u w' := fun M' u w' hp => ⟨fun hc => ref_of hv (hp.1 hc), hp.2⟩
  split
  · rename_i hw
    rw [if_pos hw] at q
    refine Does.mono q fun u w' hL => ?_
    cases Ws with
    | nil => exact ⟨hL.1, hh _ _ _ hL.2⟩
    | cons W Ws =>
      obtain ⟨M', D', a1, a2, a3, a4, a5, a6⟩ := hL
      exact ⟨M', D', a1, a2, a3, a4, hh _ _ _ a5, a6⟩
  · rename_i hw
    rw [if_neg hw] at q
    exact ⟨q.1, hh _ _ _ q.2⟩

variable {d : Option Tmp} {ty : TypeId} {pos : String} {after : Array Edge}
end

section
variable {P : Program} {Q : Exit → Act → World → Prop} {n : Nat} {F : Fr} {L : Slots} {B : Owns}
/-- A pointer that is not nil. -/
theorem Cod.isRef {α : Type} [Rep α] {c : Code} {t : Nat} {e : Option α} {v : α} {q : Prop} (hv : e = some v) (hl : look L t = some ⟨q, rep e⟩) (hq : q)
    (k : Cod P c Q n F ((t, ⟨True, ref v⟩) :: L) B) : Cod P c Q n F L B := by
  intro a w hs
  obtain ⟨M, D, h⟩ := id hs
  refine k a w ⟨M, D, { h with has := fun t' en he => ?_ }⟩
  simp only [look] at he
  by_cases hne : t = t'
  · subst hne
    simp at he; subst he
    obtain ⟨u, h1, h2⟩ := h.has t _ hl
    exact ⟨u, h1, fun _ => ref_of hv (h2.1 hq), fun hf => (hf trivial).elim⟩
  · rw [beq_ne hne, cond_false] at he; exact h.has t' en he
end
end Go.DB

/-
  Arrays in place.
-/
set_option linter.unusedVariables false
set_option linter.unusedSimpArgs false
namespace Go.DB
open Go Go.RowKit

abbrev Arr.at0 {n : Nat} {α : Type} [Inhabited α] (x : Arr n α) : α := gx x.l 0
abbrev Arr.at1 {n : Nat} {α : Type} [Inhabited α] (x : Arr n α) : α := gx x.l 1
abbrev Arr.at2 {n : Nat} {α : Type} [Inhabited α] (x : Arr n α) : α := gx x.l 2
abbrev Arr.at3 {n : Nat} {α : Type} [Inhabited α] (x : Arr n α) : α := gx x.l 3
instance : Inhabited Raw := ⟨⟨.slice none 0 0⟩⟩
section
variable {P : Program} {ops : Array Oper} {fs : Nat} {L : Slots} {B : Owns} {G : Prop}
variable {d : Option Tmp} {ty : TypeId} {pos : String} {after : Array Edge} {g : Option (Nat × Bool)} {xr : List Nat}
end
end Go.DB

/-
  Structs that hold rows of one's own: they are stored, and handed back.
-/
set_option linter.unusedVariables false
set_option linter.unusedSimpArgs false
namespace Go.DB
open Go Go.RowKit

section
variable {P : Program} {ops : Array Oper} {fs : Nat} {L : Slots} {B : Owns} {G : Prop}
variable {ty : TypeId} {pos : String} {after : Array Edge} {g : Option (Nat × Bool)} {xr : List Nat} {d : Option Tmp}

end

section
variable {P : Program} {fn : Func} {n : Nat} {F : Fr} {L : Slots} {B : Owns}
end
end Go.DB

/-
  A row of one's own of which parts are moved within it, and of which the beginning is handed back.
-/
set_option linter.unusedVariables false
set_option linter.unusedSimpArgs false
namespace Go.DB
open Go Go.RowKit

section
variable {P : Program} {ops : Array Oper} {fs : Nat} {L : Slots} {B : Owns} {G : Prop}
variable {ty : TypeId} {pos : String} {after : Array Edge} {g : Option (Nat × Bool)} {xr : List Nat} {d : Option Tmp}

theorem part_head {b off n cap m sz : Nat} : sliced (some ⟨b, off, none⟩) 0 m cap sz = .slice (some ⟨b, off, none⟩) m cap := by
  simp only [sliced]
  have : (if cap = 0 then (some ⟨b, off, none⟩ : Option Addr) else (some ⟨b, off, none⟩ : Option Addr).map (·.add (0 * sz))) = some ⟨b, off, none⟩ := by
    split
    · rfl
    · rw [Option.map_some, add_none]; simp
  rw [this]
  rfl
theorem part_head0 {m cap sz : Nat} : sliced none 0 m cap sz = .slice none m cap := by
  simp only [sliced]
  split <;> rfl

end

section
variable {Q : Exit → Act → World → Prop} {n : Nat} {F : Fr} {L : Slots} {B : Owns}

/-- The beginning of a row becomes a row of its own. -/
theorem Ends.head {e : Exit} {t k E : Nat} {s : Value} {α : Type} [Rep α] {l : List α} {m : Int} {cd : Prop} (hl : lookB B k = some (CPred.at s (rowV E l))) (ht : look L t = some ⟨cd, isV (partV s 0 m (Rep.sz α))⟩) (hc : cd) (hg : lookB B t = none) (hm : segR l.length 0 m)
    (c : Ends Q e n F L ((t, some (rowV E (l.take m.toNat))) :: (k, none) :: B)) : Ends Q e n F L B := by
  intro a w hs
  obtain ⟨M, D, h⟩ := id hs
  obtain ⟨ad, cap, hsl, hlc, hcm, ho⟩ : (rowV E l).p M (D k) s w := h.hasB k _ hl
  obtain ⟨v, hv, he⟩ := h.has t _ ht
  obtain ⟨rfl, _⟩ := rep_raw.1 (he.1 hc)
  refine c a w ⟨M, _, h.rekey hl hg ?_ h.has⟩
  have hav : Act.val a t = partV s 0 m (Rep.sz α) := by unfold Act.val; rw [hv]; rfl
  rw [hav]
  obtain ⟨m0, m1, m2⟩ := hm
  have hlen : (l.take m.toNat).length = m.toNat := by rw [List.length_take]; omega
  subst hsl
  cases ad with
  | none =>
    obtain ⟨e, e2, e3⟩ := ho
    subst e
    have : m.toNat = 0 := by simp at m2; omega
    refine ⟨none, cap, ?_, by simp, hcm, by simp, e2, e3⟩
    show sliced _ _ _ _ _ = _
    rw [hlen]; exact part_head0
  | some ad =>
    obtain ⟨b, off, sp⟩ := ad
    obtain ⟨hsp, hD, hM, pre, cs, rest, hh, hp, hel, hr⟩ := ho
    simp only at hsp hD hM hh hp
    subst hsp
    obtain ⟨t1, t2⟩ := Elems.take l cs m.toNat (by omega) hel
    refine ⟨some ⟨b, off, none⟩, cap, ?_, by rw [hlen]; omega, hcm, rfl, hD, hM, pre, cs.take (m.toNat * Rep.sz α), cs.drop (m.toNat * Rep.sz α) ++ rest, ?_, hp, t1, ?_⟩
    · show sliced _ _ _ _ _ = _
      rw [hlen]; exact part_head (n := l.length)
    · refine hh.re ?_
      conv => lhs; rw [← List.take_append_drop (m.toNat * Rep.sz α) cs]
      simp only [List.append_assoc]
    · have hcl := hel.len
      have e1 : (cap - m.toNat) * Rep.sz α = (cap - l.length) * Rep.sz α + (l.length - m.toNat) * Rep.sz α := by rw [← Nat.add_mul]; congr 1; omega
      have e2 : (l.length - m.toNat) * Rep.sz α = l.length * Rep.sz α - m.toNat * Rep.sz α := Nat.sub_mul _ _ _
      rw [hlen, List.length_append, List.length_drop, hcl, e1, e2]
      omega

end
end Go.DB

/-
  Calls that are handed memory of one's own while other memory is lent to them.
-/
set_option linter.unusedVariables false
set_option linter.unusedSimpArgs false
namespace Go.DB
open Go Go.RowKit

/-- What is held says nothing of other memory. -/
def FlatC (C : CPred) : Prop := ∀ (M M1 D : MSet) (v : Value) (w : World), (∀ k, M k → M1 k) → C.p M D v w → C.p M1 D v w
theorem FlatC.box {T : Nat} {α : Type} [Rep α] [Flat α] {y : α} : FlatC (cont T y) := by
  rintro M M1 D v w hM ⟨m, cs, hv, hD, hMm, hh, hc⟩
  exact ⟨m, cs, hv, hD, hM _ hMm, hh, Flat.cells hc⟩
theorem FlatO.nil : ∀ c, some c ∈ ([] : List (Option CPred)) → FlatC c := fun c h => by cases h
theorem FlatO.some {x : CPred} {l : List (Option CPred)} (h : FlatC x) (t : ∀ c, Option.some c ∈ l → FlatC c) : ∀ c, Option.some c ∈ (Option.some x :: l) → FlatC c := fun c hc => by
  rcases List.mem_cons.1 hc with e | e
  · obtain rfl := Option.some.inj e; exact h
  · exact t c e
theorem FlatO.none {l : List (Option CPred)} (t : ∀ c, Option.some c ∈ l → FlatC c) : ∀ c, Option.some c ∈ (Option.none :: l) → FlatC c := fun c hc => by
  rcases List.mem_cons.1 hc with e | e
  · cases e
  · exact t c e

section
variable {P : Program} {ops : Array Oper} {fs : Nat} {L : Slots} {B : Owns} {G : Prop}
variable {ty : TypeId} {pos : String} {after : Array Edge} {g : Option (Nat × Bool)} {xr : List Nat}

end
end Go.DB

/-
  Rows whose elements hold rows of one's own.
-/
set_option linter.unusedVariables false
set_option linter.unusedSimpArgs false
namespace Go.DB
open Go Go.RowKit

section
variable {α β ρ : Type} [Rep β] [Rep ρ]

/-- A row of what mk makes of a plain element and of the value of a row of one's own; the rows at hs are told, and taken out. -/
def rowD (E E2 : Nat) (mk : α → Value → ρ) (sub : α → List β) (hs : List (Nat × Value)) (l : List α) : CPred where
  p := fun M D v w => ∃ (ss : List Value) (Dm : MSet) (Dr : Nat → MSet), ss.length = l.length ∧ (rowV E (List.zipWith mk l ss)).p M Dm v w ∧ (∀ x ∈ hs, ss[x.1]? = some x.2) ∧
    (∀ (i : Nat) a s, l[i]? = some a → ss[i]? = some s → (∀ x ∈ hs, x.1 ≠ i) → (rowV E2 (sub a)).p M (Dr i) s w) ∧ (∀ j, D j → M j) ∧ (∀ j, (Dm j ∨ ∃ i, Dr i j) → D j) ∧ (∀ i j, Dr i j → ¬ Dm j) ∧ ∀ i i' j, Dr i j → Dr i' j → i = i'
  inM := fun M D v w ⟨ss, Dm, Dr, _, _, _, _, h, _⟩ k hk => h k hk
  law := fun M M' D v w w' hk hm hown ⟨ss, Dm, Dr, h1, h2, h3, h4, h5, h6, h7, h8⟩ =>
    ⟨ss, Dm, Dr, h1, (rowV E _).law M M' Dm v w w' hk hm (fun j h => hown j (h6 j (.inl h))) h2, h3, fun i a s ha hs hn => (rowV E2 _).law M M' (Dr i) s w w' hk hm (fun j h => hown j (h6 j (.inr ⟨i, h⟩))) (h4 i a s ha hs hn), fun j h => (hown j h).1, h6, h7, h8⟩

variable {E E2 : Nat} {mk : α → Value → ρ} {sub : α → List β} {hs : List (Nat × Value)} {l : List α} {M D : MSet} {v : Value} {w : World}

end

/-- The rows of rows. -/
abbrev mkR {β : Type} : List β → Value → Raw := fun _ s => ⟨s⟩
abbrev subR {β : Type} : List β → List β := fun x => x
section
variable {Q : Exit → Act → World → Prop} {P : Program} {n : Nat} {F : Fr} {L : Slots} {B : Owns}

variable {α β ρ : Type} [Rep β] [Rep ρ] [Inhabited α] {E E2 : Nat} {mk : α → Value → ρ} {sub : α → List β} {hs : List (Nat × Value)} {l : List α} {s : Value}

end

section
variable {P : Program} {ops : Array Oper} {fs : Nat} {L : Slots} {B : Owns} {G : Prop}
variable {ty : TypeId} {pos : String} {after : Array Edge} {g : Option (Nat × Bool)} {xr : List Nat} {d : Option Tmp}
variable {α β ρ : Type} [Rep β] [Rep ρ] [Inhabited α] {E E2 : Nat} {mk : α → Value → ρ} {sub : α → List β} {hs : List (Nat × Value)} {l : List α} {s : Value}

theorem StepOK.post1 {o : Oper} {x : Aux} {e : Ent} {d : Nat} {C C' : CPred} (h : StepOK P ops fs o L B x e [(d, some C)]) (hC : ∀ M D v w, C.p M D v w → C'.p M D v w) : StepOK P ops fs o L B x e [(d, some C')] := by
  intro M D a w h1 h2 h3 h4
  have := h M D a w h1 h2 h3 h4
  split at this
  · rename_i hw
    rw [if_pos hw]
    refine Does.mono this fun v w' hl => ?_
    obtain ⟨M', D', a1, a2, a3, a4, a5, a6, a7⟩ := hl
    refine ⟨M', D', a1, a2, a3, a4, a5, fun t c hc => ?_, fun t1 t2 c1 c2 q1 q2 hne => ?_⟩
    · simp only [lookB] at hc
      by_cases e : d = t
      · subst e; simp at hc; subst hc
        obtain ⟨b1, b2⟩ := a6 d C (by simp [lookB])
        exact ⟨hC _ _ _ _ b1, b2⟩
      · rw [beq_ne e] at hc; cases hc
    · simp only [lookB] at q1 q2
      by_cases e1 : d = t1
      · by_cases e2 : d = t2
        · exact absurd (e1.symm.trans e2) hne
        · rw [beq_ne e2] at q2; cases q2
      · rw [beq_ne e1] at q1; cases q1
  · exact absurd this.1 (by simp)

end

section
variable {P : Program} {Q : Exit → Act → World → Prop} {n : Nat} {F : Fr} {L : Slots} {B : Owns}
end
/-! Loops whose rounds are walked one by one. -/
/-- What is to come at a loop's head. -/
def inLp (P : Program) (c : Code) (Q : Exit → Act → World → Prop) (a : Act) (w : World) : Prop :=
  ∀ (b : Frame) (k : List Item) (cs : List Frame), ∃ e a' w', Q e a' w' ∧ Arrives P (lone (b.at a (.code c :: .inLoop c :: k)) cs w) b k cs e a' w'
section
variable {Q : Exit → Act → World → Prop} {P : Program} {n : Nat} {F : Fr} {L : Slots} {B : Owns}
end

/-! A result of one's own that nobody writes. -/
end Go.DB

/-
  Arrays in place, looked into at any index; arrays of arrays.
-/
set_option linter.unusedVariables false
set_option linter.unusedSimpArgs false
namespace Go.DB
open Go Go.RowKit

theorem HasField.comp {α β γ : Type} [Rep α] [Rep β] [Rep γ] {o1 o2 : Nat} {p : α → β} {q : β → γ} (h : HasField α β o1 p) (h' : HasField β γ (0 + o2) q) : HasField α γ (o1 + o2) (fun x => q (p x)) := by
  rw [Nat.zero_add] at h'
  refine ⟨by have := h.1; have := h'.1; omega, fun M x cs w hc => ?_⟩
  obtain ⟨c1, hc1, hj1⟩ := h.2 M x cs w hc
  obtain ⟨c2, hc2, hj2⟩ := h'.2 M _ c1 w hc1
  refine ⟨c2, hc2, fun j hj => ?_⟩
  rw [hj2 j hj, hj1 (o2 + j) (by have := h'.1; omega), Nat.add_assoc]
theorem SetField.comp {α β γ : Type} [Rep α] [Rep β] [Rep γ] {o1 o2 : Nat} {p : α → β} {s : α → β → α} {q : β → γ → β} (h : HasField α β o1 p) (hs : SetField α β o1 s) (h' : SetField β γ (0 + o2) q) : SetField α γ (o1 + o2) (fun x z => s x (q (p x) z)) := by
  rw [Nat.zero_add] at h'
  refine ⟨by have := h.1; have := h'.1; omega, fun M x z cs zs w hc hz => ?_⟩
  obtain ⟨c1, hc1, hj1⟩ := h.2 M x cs w hc
  have l1 := Rep.len hc1
  have l0 := Rep.len hc
  have b1 := h.1
  have b2 := h'.1
  have e : c1 = (cs.drop o1).take (Rep.sz β) := by
    apply List.ext_getElem?
    intro j
    by_cases hj : j < Rep.sz β
    · rw [hj1 j hj, List.getElem?_take_of_lt hj, List.getElem?_drop]
    · rw [List.getElem?_eq_none (by omega), List.getElem?_eq_none (by simp; omega)]
  have := hs.2 M x (q (p x) z) cs _ w hc (h'.2 M _ z c1 zs w hc1 hz)
  have e2 : cs.take o1 ++ (c1.take o2 ++ zs ++ c1.drop (o2 + Rep.sz γ)) ++ cs.drop (o1 + Rep.sz β) = cs.take (o1 + o2) ++ zs ++ cs.drop (o1 + o2 + Rep.sz γ) := by
    rw [e]
    have t1 : ((cs.drop o1).take (Rep.sz β)).take o2 = (cs.drop o1).take o2 := by rw [List.take_take, Nat.min_eq_left (by omega)]
    have t2 : cs.take (o1 + o2) = cs.take o1 ++ (cs.drop o1).take o2 := List.take_add
    have t3 : ((cs.drop o1).take (Rep.sz β)).drop (o2 + Rep.sz γ) ++ cs.drop (o1 + Rep.sz β) = cs.drop (o1 + o2 + Rep.sz γ) := by
      have : cs.drop (o1 + Rep.sz β) = (cs.drop o1).drop (Rep.sz β) := by rw [List.drop_drop]
      rw [this, ← List.drop_append_of_le_length (by simp; omega), List.take_append_drop, List.drop_drop]
      congr 1; omega
    rw [t1, t2]
    simp only [List.append_assoc]
    rw [t3]
  rw [e2] at this
  exact this

section
variable {P : Program} {ops : Array Oper} {fs : Nat} {L : Slots} {B : Owns} {G : Prop}
variable {d : Option Tmp} {ty : TypeId} {pos : String} {after : Array Edge} {g : Option (Nat × Bool)} {xr : List Nat}
end
end Go.DB

/-
  Results that are nil exactly when they are empty.
-/
set_option linter.unusedVariables false
set_option linter.unusedSimpArgs false
namespace Go.DB
open Go Go.RowKit

/-- A list that is nil when it is empty. -/
def repN {α : Type} [Rep α] (l : List α) : SPred where
  p := fun M v w => (rep l).p M v w ∧ (l = [] → v = .slice none 0 0)
  law := fun M M' v w w' k hm h => ⟨(rep l).law M M' v w w' k hm h.1, h.2⟩
section
variable {P : Program} {ops : Array Oper} {fs : Nat} {L : Slots} {B : Owns} {G : Prop}
variable {d : Option Tmp} {ty : TypeId} {pos : String} {after : Array Edge} {g : Option (Nat × Bool)} {xr : List Nat}
variable {T T' E : TypeId} {x : Operand} {α : Type} [Rep α] {l : List α}
end
section
variable {P : Program} {ops : Array Oper} {fs : Nat} {L : Slots} {B : Owns} {ty : TypeId} {pos : String} {after : Array Edge}
end
end Go.DB

