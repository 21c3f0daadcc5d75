/-
  Plain rules on the program's operations, code and memory (texts laid together).
-/
import Derived.Test.YtbogpbomhmabhaaGreatDoorCoreE
/-
  Maps whose elements are rows of one's own; pointers that may be nil; rows that a call keeps.
-/
set_option linter.unusedVariables false
set_option linter.unusedSimpArgs false
namespace Go.DB
open Go Go.RowKit

section
variable {K α : Type} [Rep K] [Rep α]

/-- What an entry's row is. -/
def FitR (E : Nat) (M D : MSet) (w : World) : Option (List α) → Option Raw → Prop
  | some l, some s => (rowV E l).p M D s.v w
  | none, none => ∀ j, ¬ D j
  | _, _ => False

theorem FitR.law {E : Nat} {M M' D : MSet} {w w' : World} {a : Option (List α)} {b : Option Raw} (hk : Keeps M w w') (hm : ∀ k, M' k → M k ∨ w.heap.size ≤ k) (ho : ∀ k, D k → M' k ∧ w'.heap[k]? = w.heap[k]?) (h : FitR E M D w a b) : FitR E M' D w' a b := by
  match a, b, h with
  | some l, some s, h => exact (rowV E l).law M M' D s.v w w' hk hm ho h
  | none, none, h => exact h

/-- A map whose elements are rows of one's own; at the keys of the hole nothing is told. -/
def mapH (E : Nat) (hole : K → Prop) (m : GMap K (List α)) : CPred where
  p := fun M D v w => ∃ (r : GMap K Raw) (Dm : MSet) (Dr : K → MSet), (mapV r).p M Dm v w ∧ (∀ k, ¬ hole k → FitR E M (Dr k) w (m.f k) (r.f k)) ∧ (∀ j, D j → M j) ∧
    (∀ j, (Dm j ∨ ∃ k, Dr k j) → D j) ∧ (∀ k j, Dr k j → ¬ Dm j) ∧ ∀ k k' j, Dr k j → Dr k' j → k = k'
  inM := fun M D v w ⟨r, Dm, Dr, h1, _, h3, h4, _⟩ k hk => h3 k hk
  law := fun M M' D v w w' hk hm hown ⟨r, Dm, Dr, h1, h2, h3, h4, h5, h6⟩ => by
    have o1 : ∀ j, Dm j → D j := fun j h => h4 j (.inl h)
    have o2 : ∀ k j, Dr k j → D j := fun k j h => h4 j (.inr ⟨k, h⟩)
    exact ⟨r, Dm, Dr, (mapV r).law M M' Dm v w w' hk hm (fun j h => hown j (o1 j h)) h1, fun k hn => (h2 k hn).law hk hm (fun j h => hown j (o2 k j h)), fun j h => (hown j h).1, h4, h5, h6⟩
abbrev mapW (E : Nat) (m : GMap K (List α)) : CPred := mapH E (fun _ => False) m

theorem mapW_map {E : Nat} {m : GMap K (List α)} {M D : MSet} {s : Value} {w : World} (h : (mapW E m).p M D s w) : ∃ b, s = .map (some b) := by
  obtain ⟨r, Dm, Dr, h1, _⟩ := h
  exact mapV_map h1
theorem oneMapW {E : Nat} {m : GMap K (List α)} : OneC (mapW E m) := fun _ _ _ _ h => by
  obtain ⟨b, hv⟩ := mapW_map h
  rw [hv]; exact ⟨rfl, rfl⟩

theorem mapW_rep {E : Nat} {m : GMap K (List α)} {M D : MSet} {w : World} {s : Value} (h : (mapW E m).p M D s w) (hms : ∀ k, M k → k < w.heap.size) : (rep m).p (fun k => M k ∧ ¬ D k) s w := by
  obtain ⟨r, Dm, Dr, ⟨b, es, clock, l, hv, hD, hM, hh, hi⟩, h2, h3, h4, h5, h6⟩ := h
  have hfit : ∀ k s, r.f k = some s → ∃ v, m.f k = some v ∧ (rowV E v).p M (Dr k) s.v w := fun k s hk => by
    have := h2 k (fun h => h)
    rw [hk] at this
    cases hm : m.f k with
    | none => rw [hm] at this; exact this.elim
    | some v => rw [hm] at this; exact ⟨v, rfl, this⟩
  have hnone : ∀ k, r.f k = none → m.f k = none := fun k hk => by
    have := h2 k (fun h => h)
    rw [hk] at this
    cases hm : m.f k with
    | none => rfl
    | some v => rw [hm] at this; exact this.elim
  refine rep_map.2 (.inr ⟨b, es, clock, l.map (fun x => (x.1, (m.f x.1).getD [])), hv, fun hb => hb.2 (h4 b (.inl ((hD b).2 rfl))), hms b hM, hh, ⟨?_, ?_, hi.born, hi.low⟩⟩)
  · refine ⟨by rw [List.length_map]; exact hi.ents.1, fun j e x hj hx => ?_⟩
    rw [List.getElem?_map] at hx
    obtain ⟨y, hy, rfl⟩ := Option.map_eq_some_iff.1 hx
    obtain ⟨g1, g2⟩ := hi.ents.2 j e y hj hy
    have hr := (hi.lists.mem y.1 y.2).1 (List.mem_of_getElem? hy)
    obtain ⟨v, hm, hR⟩ := hfit _ _ hr
    have hval : e.val = y.2.v := (rep_raw.1 g2).1
    refine ⟨rep_less g1 (fun k hk => hk.1), ?_⟩
    show (rep ((m.f y.1).getD [])).p _ e.val w
    rw [hm, Option.getD_some, hval]
    refine rep_less (rowV_rep M (Dr y.1) w _ hR hms) (fun k hk => ⟨hk.1, fun hd => hk.2 (h4 k (.inr ⟨_, hd⟩))⟩)
  · refine ⟨?_, fun k v => ?_⟩
    · rw [List.map_map]
      exact hi.lists.nodup
    · constructor
      · intro hin
        obtain ⟨x, hx, he⟩ := List.mem_map.1 hin
        have hr := (hi.lists.mem x.1 x.2).1 hx
        obtain ⟨v', hm, _⟩ := hfit _ _ hr
        simp only [Prod.mk.injEq] at he
        obtain ⟨rfl, rfl⟩ := he
        rw [hm]; rfl
      · intro hm
        cases hr : r.f k with
        | none => rw [hnone k hr] at hm; cases hm
        | some s => exact List.mem_map.2 ⟨(k, s), (hi.lists.mem k s).2 hr, by simp [hm]⟩
theorem frzMapW {E : Nat} {m : GMap K (List α)} : FrzC (mapW E m) m := fun M D s w h hms => mapW_rep h hms
end

section
variable {P : Program} {ops : Array Oper} {fs : Nat} {L : Slots} {B : Owns} {G : Prop}
variable {ty : TypeId} {pos : String} {after : Array Edge} {g : Option (Nat × Bool)} {xr : List Nat} {d : Option Tmp}
variable {K α : Type} [Rep K] [DecidableEq K] [MKey K] [Rep α] {T kt et : TypeId} {m : GMap K (List α)} {k : K}

omit [DecidableEq K] [MKey K] in
theorem StepOK.makeMapW {E d : Nat} (hd : Nat.blt d fs = true) :
    StepOK P ops fs ⟨some d, .makeMap T none, ty, pos, after, none⟩ L B ([], [d]) ⟨True, anyV⟩ [(d, some (mapW E (GMap.nil : GMap K (List α))))] := by
  refine .doing fun M D a w hsz hm hs _ => ?_
  refine Does.value (v := .map (some w.heap.size)) (w' := w.alloc (.map #[] 0)) rfl (.one (fun k => M k ∨ k = w.heap.size) (fun k => k = w.heap.size) (Ext.alloc _ _) (fun k h => .inl h) (fun k h => h.imp id (by omega)) (fun k h => ?_) ⟨fun _ => trivial, fun hf => (hf trivial).elim⟩ ?_ (fun k h => by omega))
  · rw [size_new]
    rcases h with h | h
    · have := hm k h; omega
    · omega
  · rw [val_self (by rw [hsz]; exact Nat.le_of_ble_eq_true hd)]
    refine ⟨GMap.nil, fun k => k = w.heap.size, fun _ _ => False, ⟨w.heap.size, #[], 0, [], rfl, fun k => Iff.rfl, .inr rfl, ?_, ⟨Ents.nil, Lists.nil, by simp, by simp⟩⟩, fun k _ => fun _ h => h, fun j h => .inr h, fun j h => h.elim id (fun ⟨_, h⟩ => h.elim), fun _ _ h => h.elim, fun _ _ _ h => h.elim⟩
    show (w.heap.push _)[w.heap.size]? = _
    rw [Array.getElem?_push_size]

/-- A row is taken out of the map. -/
theorem StepOK.mapTake {E d q : Nat} {x y : Operand} {s : Value} (hT : MapOf P T kt et (MKey.desc K)) (hz : ZeroOf P et (⟨.slice none 0 0⟩ : Raw)) (hd : Nat.blt d fs = true) (hdq : (d == q) = false) (hx : Opd L True x (isV s)) (hq : lookB B q = some (CPred.at s (mapW E m))) (hy : Opd L True y (rep k)) :
    StepOK P ops fs ⟨some d, .lookup T x y false, ty, pos, after, none⟩ L B ([q], [d, q]) ⟨True, anyV⟩ [(d, some (rowV E (m.getD k []))), (q, some (CPred.at s (mapH E (fun z => z = k) m)))] := by
  have hdq : d ≠ q := by simpa using hdq
  refine .doing fun M D a w hsz hm hs hsB => ?_
  have he : a.eval x = s := (rep_raw.1 (hx.get hs (fun t ht => looksAt_op (by simp [Op.operands, ht])) trivial)).1
  obtain ⟨r, Dm, Dr, ⟨b, es, clock, l, hv, hD, hM, hh, hi⟩, h2, h3, h4, h5, h6⟩ := hsB.has q (by simp) _ hq
  have hk := hy.get hs (fun t ht => looksAt_op (by simp [Op.operands, ht])) trivial
  obtain ⟨u, hu, hr⟩ := run_lookupAt (z := (⟨.slice none 0 0⟩ : Raw)) hT hz hk hh hi false
  have hu' : u = (r.getD k ⟨.slice none 0 0⟩).v := (rep_raw.1 hu).1
  refine Does.value (v := u) (w' := w) ?_ ?_
  · simp only [execOp, he, hv]; rw [Sem.run_bind, hr]; rfl
  have mine : ∀ j, D q j → Mine [d, q] B D j := fun j hj => ⟨q, by simp, _, hq, hj⟩
  have cs : ∀ t c, lookB [(d, some (rowV E (m.getD k []))), (q, some (CPred.at s (mapH E (fun z => z = k) m)))] t = some c → (t = d ∧ c = rowV E (m.getD k [])) ∨ (t = q ∧ c = CPred.at s (mapH E (fun z => z = k) m)) := by
    intro t c hc
    simp only [lookB] at hc
    by_cases q1 : d = t
    · subst q1; simp at hc; exact .inl ⟨rfl, hc.symm⟩
    · rw [beq_ne q1, cond_false] at hc
      by_cases q2 : q = t
      · subst q2; simp at hc; exact .inr ⟨rfl, hc.symm⟩
      · rw [beq_ne q2, cond_false] at hc; cases hc
  refine ⟨M, fun t j => if t = d then Dr k j else (D q j ∧ ¬ Dr k j), Keeps.refl _ _, fun j h => .inl h, fun j h => .inl h, hm, ⟨fun _ => trivial, fun hf => (hf trivial).elim⟩, fun t c hc => ?_, fun t t' c c' hc hc' hne => ?_⟩
  · rcases cs t c hc with ⟨rfl, rfl⟩ | ⟨rfl, rfl⟩
    · simp only [if_pos rfl]
      refine ⟨?_, fun j hj => .inl (mine j (h4 j (.inr ⟨k, hj⟩)))⟩
      rw [val_self (by rw [hsz]; exact Nat.le_of_ble_eq_true hd)]
      have hf := h2 k (fun h => h)
      cases hmk : m.f k with
      | none =>
        rw [hmk] at hf
        cases hrk : r.f k with
        | none =>
          rw [hrk] at hf
          have hu2 : u = .slice none 0 0 := by rw [hu']; simp [GMap.getD, hrk]
          have e : m.getD k [] = [] := by simp [GMap.getD, hmk]
          rw [hu2, e]
          exact ⟨none, 0, rfl, Nat.le_refl _, by omega, rfl, rfl, hf⟩
        | some z => rw [hrk] at hf; exact hf.elim
      | some v =>
        rw [hmk] at hf
        cases hrk : r.f k with
        | none => rw [hrk] at hf; exact hf.elim
        | some z =>
          rw [hrk] at hf
          have hu2 : u = z.v := by rw [hu']; simp [GMap.getD, hrk]
          have e : m.getD k [] = v := by simp [GMap.getD, hmk]
          rw [hu2, e]
          exact hf
    · have hne : t ≠ d := fun e => hdq e.symm
      simp only [if_neg hne]
      refine ⟨⟨r, Dm, fun k' j => k' ≠ k ∧ Dr k' j, ⟨b, es, clock, l, hv, hD, hM, hh, hi⟩, fun k' hn => ?_, fun j h => h3 j h.1, fun j h => ⟨h4 j (h.imp id (fun ⟨k', h⟩ => ⟨k', h.2⟩)), fun hd => h.elim (fun h => h5 _ _ hd h) (fun ⟨k', h, h'⟩ => h (h6 _ _ _ h' hd))⟩, fun k' j h => h5 k' j h.2, fun k1 k2 j a1 a2 => h6 k1 k2 j a1.2 a2.2⟩, fun j hj => .inl (mine j hj.1)⟩
      have hf := h2 k' (fun h => h)
      have e : (fun j => k' ≠ k ∧ Dr k' j) = Dr k' := by
        funext j; exact propext ⟨fun h => h.2, fun h => ⟨hn, h⟩⟩
      show FitR E M (fun j => k' ≠ k ∧ Dr k' j) w _ _
      rw [e]; exact hf
  · intro j hj hj'
    rcases cs t c hc with ⟨rfl, _⟩ | ⟨rfl, _⟩ <;> rcases cs t' c' hc' with ⟨rfl, _⟩ | ⟨rfl, _⟩
    · exact hne rfl
    · simp only [if_pos rfl] at hj
      simp only [if_neg (Ne.symm hdq)] at hj'
      exact hj'.2 hj
    · simp only [if_pos rfl] at hj'
      simp only [if_neg (Ne.symm hdq)] at hj
      exact hj.2 hj'
    · exact hne rfl

/-- A row is put into the map. -/
theorem StepOK.mapPut {E q t : Nat} {x y : Operand} {s : Value} {hole : K → Prop} {l : List α} (hT : MapOf P T kt et (MKey.desc K)) (hqt : (q == t) = false) (hx : Opd L True x (isV s)) (hq : lookB B q = some (CPred.at s (mapH E hole m))) (hh : ∀ z, hole z → z = k) (ht : lookB B t = some (rowV E l)) (htn : Nat.blt t fs = true) (hy : Opd L True y (rep k)) :
    StepOK P ops fs ⟨none, .mapUpdate T x y (.tmp t), ty, pos, after, none⟩ L B ([q, t], [q, t]) ⟨True, anyV⟩ [(q, some (CPred.at s (mapW E (m.set k l)))), (t, none)] := by
  have hqt : q ≠ t := by simpa using hqt
  refine .doing fun M D a w hsz hm hs hsB => ?_
  have he : a.eval x = s := (rep_raw.1 (hx.get hs (fun t ht => looksAt_op (by simp [Op.operands, ht])) trivial)).1
  obtain ⟨r, Dm, Dr, ⟨b, es, clock, es0, hv, hD, hM, hb, hi⟩, h2, h3, h4, h5, h6⟩ := hsB.has q (by simp) _ hq
  have hR := hsB.has t (by simp) _ ht
  have hap := hsB.apart q (by simp) t (by simp) _ _ hq ht hqt
  have hk := hy.get hs (fun t ht => looksAt_op (by simp [Op.operands, ht])) trivial
  obtain ⟨o1, o2⟩ := row_one hR
  have hx2 : (rep (⟨Act.val a t⟩ : Raw)).p M (Act.val a t) w := rep_raw.2 ⟨rfl, o1, o2⟩
  obtain ⟨es', clock', l', hr, hi'⟩ := run_updateAt (x := (⟨Act.val a t⟩ : Raw)) hT hk hx2 hb hi
  have hkm : Keeps Dm w { w with heap := w.heap.setIfInBounds b (.map es' clock') } := keeps_set hD
  have hkq : Keeps (D q) w { w with heap := w.heap.setIfInBounds b (.map es' clock') } := hkm.mono (fun j _ h => h4 j (.inl h))
  have hkM : Keeps M w { w with heap := w.heap.setIfInBounds b (.map es' clock') } := hkm.mono (fun j _ h => (hD j).1 h ▸ hM)
  have same : ∀ j, j ≠ b → (w.heap.setIfInBounds b (.map es' clock'))[j]? = w.heap[j]? := fun j hj => by simp [Array.getElem?_setIfInBounds, Ne.symm hj]
  have inR : ∀ j, D t j → M j := fun j hj => CPred.inM _ M (D t) _ w hR j hj
  have nb : ∀ j, D t j → j ≠ b := fun j hj e => hap j (h4 j (.inl ((hD j).2 e))) hj
  refine Does.skip (w' := { w with heap := w.heap.setIfInBounds b (.map es' clock') }) ?_ rfl (.merge hq ht hkq (fun j h => by simpa using hm j h) ⟨fun _ => trivial, fun hf => (hf trivial).elim⟩ ?_)
  · have : a.eval (.tmp t) = Act.val a t := eval_val
    simp only [execOp, he, hv, this]; rw [Sem.run_bind, hr]; rfl
  · rw [val_none]
    have outR : ∀ k' j, Dr k' j → j ≠ b := fun k' j h e => h5 k' j h ((hD j).2 e)
    refine ⟨r.set k ⟨Act.val a t⟩, Dm, fun k' => if k' = k then D t else Dr k', ⟨b, es', clock', l', hv, hD, hM, set_self hb, hi'.stay hkM (fun _ h => h)⟩, fun k' _ => ?_, fun j h => h.elim (h3 j) (inR j), fun j h => ?_, fun k' j h => ?_, fun k1 k2 j a1 a2 => ?_⟩
    · show FitR E M (if k' = k then D t else Dr k') _ (if k' = k then some l else m.f k') (if k' = k then some ⟨Act.val a t⟩ else r.f k')
      by_cases hkk : k' = k
      · rw [if_pos hkk, if_pos hkk, if_pos hkk]
        exact (rowV E l).law M M (D t) _ w _ hkM (fun _ h => .inl h) (fun j hj => ⟨inR j hj, same j (nb j hj)⟩) hR
      · rw [if_neg hkk, if_neg hkk, if_neg hkk]
        exact (h2 k' (fun h => hkk (hh k' h))).law hkM (fun _ h => .inl h) (fun j hj => ⟨h3 j (h4 j (.inr ⟨k', hj⟩)), same j (outR k' j hj)⟩)
    · rcases h with h | ⟨k', h⟩
      · exact .inl (h4 j (.inl h))
      · by_cases hkk : k' = k
        · rw [if_pos hkk] at h; exact .inr h
        · rw [if_neg hkk] at h; exact .inl (h4 j (.inr ⟨k', h⟩))
    · intro hd
      simp only at h
      by_cases hkk : k' = k
      · rw [if_pos hkk] at h; exact hap j (h4 j (.inl hd)) h
      · rw [if_neg hkk] at h; exact h5 k' j h hd
    · simp only at a1 a2
      by_cases c1 : k1 = k <;> by_cases c2 : k2 = k
      · rw [c1, c2]
      · rw [if_pos c1] at a1; rw [if_neg c2] at a2
        exact absurd a1 (hap j (h4 j (.inr ⟨k2, a2⟩)))
      · rw [if_neg c1] at a1; rw [if_pos c2] at a2
        exact absurd a2 (hap j (h4 j (.inr ⟨k1, a1⟩)))
      · rw [if_neg c1] at a1; rw [if_neg c2] at a2
        exact h6 k1 k2 j a1 a2
end

section
variable {P : Program} {Q : Exit → Act → World → Prop} {n : Nat} {F : Fr} {L : Slots} {B : Owns} {K α : Type} [Rep K] [Rep α] {m : GMap K (List α)}
end


/-- A slot that is told without a condition. -/
theorem Opd.s {L : Slots} {G : Prop} {t : Nat} {S : SPred} (h : look L t = some ⟨True, S⟩) : Opd L G (.tmp t) S := .tmp h fun _ => trivial

/-! Pointers that may be nil. -/
instance {α : Type} [Rep α] : Rep (Option α) where
  sz := 1
  agg := false
  cells := fun M o cs w => ∃ v, cs = [v] ∧ ((v = .pointer none ∧ o = none) ∨ ∃ x, o = some x ∧ (ref x).p M v w)
  len := fun ⟨v, h, _⟩ => by rw [h]; rfl
  pos := by decide
  flat := fun ⟨v, h, hv⟩ => by
    subst h
    rcases hv with ⟨rfl, _⟩ | ⟨x, _, b, off, cs, rfl, _⟩ <;> rfl
  plain := fun ⟨v, h, hv⟩ c hc => by
    subst h; simp at hc; subst hc
    rcases hv with ⟨rfl, _⟩ | ⟨x, _, b, off, cs, rfl, _⟩ <;> rfl
  law := fun {M M' x cs w w'} hk hm ⟨v, h, hv⟩ => ⟨v, h, by
    rcases hv with hv | ⟨x, h1, h2⟩
    · exact .inl hv
    · exact .inr ⟨x, h1, (ref x).law _ _ _ _ _ hk hm h2⟩⟩
theorem rep_ptr {α : Type} [Rep α] {o : Option α} {M : MSet} {v : Value} {w : World} : (rep o).p M v w ↔ (v = .pointer none ∧ o = none) ∨ ∃ x, o = some x ∧ (ref x).p M v w := by
  constructor
  · rintro ⟨cs, ⟨u, h, hu⟩, hv⟩
    subst h
    have : v = u := hv
    rw [this]; exact hu
  · intro h
    exact ⟨[v], ⟨v, rfl, h⟩, rfl⟩
theorem ref_of {α : Type} [Rep α] {x : α} {o : Option α} (h : o = some x) {M : MSet} {v : Value} {w : World} (hr : (rep o).p M v w) : (ref x).p M v w := by
  subst h
  rcases rep_ptr.1 hr with ⟨_, h⟩ | ⟨y, h, hy⟩
  · cases h
  · cases h; exact hy
theorem ptr_zero {α : Type} [Rep α] {M : MSet} {w : World} : Rep.cells M (none : Option α) [.pointer none] w := ⟨_, rfl, .inl ⟨rfl, rfl⟩⟩
theorem Imp.refSome {α : Type} [Rep α] {x : α} : Imp (ref x) (rep (some x)) := fun M v w h => rep_ptr.2 (.inr ⟨x, rfl, h⟩)
section
variable {P : Program} {ops : Array Oper} {fs : Nat} {L : Slots} {B : Owns} {G : Prop}
theorem StepOK.isRef {o : Oper} {x : Aux} {α : Type} [Rep α] {e : Option α} {v : α} {Ws : Writes} (hv : e = some v) (h : StepOK P ops fs o L B x ⟨G, rep e⟩ Ws) : StepOK P ops fs o L B x ⟨G, ref v⟩ Ws := by
  intro M D a w h1 h2 h3 h4
  have q := h M D a w h1 h2 h3 h4
  have hh : ∀ M' u w', (⟨G, rep e⟩ : Ent).holds M' u w' → (⟨G, ref v⟩ : Ent).holds M' u w' := fun M' u w' hp => ⟨fun hc => ref_of hv (hp.1 hc), hp.2⟩
  split
  · rename_i hw
    rw [if_pos hw] at q
    refine Does.mono q fun u w' hL => ?_
    cases Ws with
    | nil => exact ⟨hL.1, hh _ _ _ hL.2⟩
    | cons W Ws =>
      obtain ⟨M', D', a1, a2, a3, a4, a5, a6⟩ := hL
      exact ⟨M', D', a1, a2, a3, a4, hh _ _ _ a5, a6⟩
  · rename_i hw
    rw [if_neg hw] at q
    exact ⟨q.1, hh _ _ _ q.2⟩

variable {d : Option Tmp} {ty : TypeId} {pos : String} {after : Array Edge}
/-- A pointer that is captured lies in a box. -/
theorem StepOK.boxRef {T : TypeId} {x : Operand} {α : Type} [Rep α] {y : α} {g : Option (Nat × Bool)} {xr : List Nat} (hg : Guard ops g L G) (hx : Opd L G x (ref y)) :
    StepOK P ops fs ⟨d, .box T x, ty, pos, after, g⟩ L B (xr, []) ⟨G, ref (some y)⟩ [] :=
  .of hg fun M D a w hm hs _ hG => by
    obtain ⟨cs, hc, hv⟩ := rep_ptr.2 (.inr ⟨y, rfl, hx.get hs (fun t ht => looksAt_op (by simp [Op.operands, ht])) hG⟩)
    have hcs : (a.eval x).cells = cs.toArray := by rw [hv]; exact Rep.flat hc
    refine Does.value (ex_box hcs) ⟨Ext.alloc _ _, w.heap.size, 0, cs, rfl, fun h => absurd (hm _ h) (by omega), by rw [size_new]; omega, Rep.law (Ext.alloc _ _).keeps (fun _ h => .inl h) hc, fun j _ => ?_⟩
    rw [Nat.zero_add, cell_new, List.getElem?_toArray]
end

section
variable {P : Program} {Q : Exit → Act → World → Prop} {n : Nat} {F : Fr} {L : Slots} {B : Owns}
/-- A pointer that is not nil. -/
theorem Cod.isRef {α : Type} [Rep α] {c : Code} {t : Nat} {e : Option α} {v : α} {q : Prop} (hv : e = some v) (hl : look L t = some ⟨q, rep e⟩) (hq : q)
    (k : Cod P c Q n F ((t, ⟨True, ref v⟩) :: L) B) : Cod P c Q n F L B := by
  intro a w hs
  obtain ⟨M, D, h⟩ := id hs
  refine k a w ⟨M, D, { h with has := fun t' en he => ?_ }⟩
  simp only [look] at he
  by_cases hne : t = t'
  · subst hne
    simp at he; subst he
    obtain ⟨u, h1, h2⟩ := h.has t _ hl
    exact ⟨u, h1, fun _ => ref_of hv (h2.1 hq), fun hf => (hf trivial).elim⟩
  · rw [beq_ne hne, cond_false] at he; exact h.has t' en he
end
end Go.DB

/-
  Arrays in place.
-/
set_option linter.unusedVariables false
set_option linter.unusedSimpArgs false
namespace Go.DB
open Go Go.RowKit

abbrev Arr.at0 {n : Nat} {α : Type} [Inhabited α] (x : Arr n α) : α := gx x.l 0
abbrev Arr.at1 {n : Nat} {α : Type} [Inhabited α] (x : Arr n α) : α := gx x.l 1
abbrev Arr.at2 {n : Nat} {α : Type} [Inhabited α] (x : Arr n α) : α := gx x.l 2
abbrev Arr.at3 {n : Nat} {α : Type} [Inhabited α] (x : Arr n α) : α := gx x.l 3
instance : Inhabited Raw := ⟨⟨.slice none 0 0⟩⟩
theorem HasField.arr {n i : Nat} {α : Type} [Rep α] [Inhabited α] (hi : i < n + 1) : HasField (Arr n α) α (i * Rep.sz α) (fun x => gx x.l (i : Int)) := by
  refine ⟨?_, fun M x cs w h => ?_⟩
  · show i * Rep.sz α + Rep.sz α ≤ (n + 1) * Rep.sz α
    rw [← Nat.succ_mul]; exact Nat.mul_le_mul_right _ hi
  · obtain ⟨hln, hel⟩ := h
    obtain ⟨c, hc, hj⟩ := Elems.at _ _ i (by omega) hel
    refine ⟨c, ?_, fun j hlt => (hj j hlt).symm⟩
    show Rep.cells M (gx x.l (i : Int)) c w
    have : gx x.l (i : Int) = x.l[i]'(by omega) := by simp [gx, List.getElem?_eq_getElem (show i < x.l.length by omega)]
    rw [this]; exact hc
theorem SetField.arr {n i : Nat} {α : Type} [Rep α] (hi : i < n + 1) : SetField (Arr n α) α (i * Rep.sz α) (fun x z => ⟨x.l.set i z⟩) := by
  refine ⟨?_, fun M x z cs zs w h hz => ?_⟩
  · show i * Rep.sz α + Rep.sz α ≤ (n + 1) * Rep.sz α
    rw [← Nat.succ_mul]; exact Nat.mul_le_mul_right _ hi
  · obtain ⟨hln, hel⟩ := h
    exact ⟨by rw [List.length_set]; exact hln, Elems.set _ _ i z zs (by omega) hel hz⟩

section
variable {P : Program} {ops : Array Oper} {fs : Nat} {L : Slots} {B : Owns} {G : Prop}
variable {d : Option Tmp} {ty : TypeId} {pos : String} {after : Array Edge} {g : Option (Nat × Bool)} {xr : List Nat}
theorem StepOK.indexAddrA {T n E : Nat} {x i : Operand} {α : Type} [Rep α] [Inhabited α] {y : Arr n α} {k : Int} (hg : Guard ops g L G) (hT : ArrOf P T n E) (hE : Ty P E α)
    (hx : Opd L G x (ref y)) (hi : Opd L G i (rep k)) (hb : G → 0 ≤ k ∧ k < (n + 1 : Nat)) :
    StepOK P ops fs ⟨d, .indexAddr T x i, ty, pos, after, g⟩ L B (xr, []) ⟨G, ref (gx y.l k)⟩ [] :=
  .pure hg fun M a w _ hs hG => by
    obtain ⟨b, o, cs, hv, hM, hbk, hc, hr⟩ := hx.get hs (fun t ht => looksAt_op (by simp [Op.operands, ht])) hG
    obtain ⟨hk, _⟩ := rep_int.1 (hi.get hs (fun t ht => looksAt_op (by simp [Op.operands, ht])) hG)
    obtain ⟨h0, h1⟩ := hb hG
    obtain ⟨j, rfl⟩ : ∃ j : Nat, k = j := ⟨k.toNat, by omega⟩
    have hF := HasField.arr (n := n) (i := j) (α := α) (by omega)
    obtain ⟨fcs, hfc, hj⟩ := hF.2 M y cs w hc
    obtain ⟨ti, hti, hsize⟩ := Option.map_eq_some_iff.1 hE.size
    have hsz : (sizeOf E).run P w = .ok (Rep.sz α) w := by simp [sizeOf, typeInfo, hti, hsize, go_sem]
    have hun : (underlying T).run P w = .ok (.array (n + 1) E) w := by simp [underlying, show P.underlying T = _ from hT, go_sem]
    refine ⟨.pointer (some ⟨b, o + j * Rep.sz α, none⟩), ?_, b, o + j * Rep.sz α, fcs, rfl, hM, hbk, hfc, fun q hq => ?_⟩
    · simp only [execOp, hv, hk, Instr.indexAt, Instr.sureAddr, asIntOf, Sem.run_bind, hun, Result.andThen, Sem.run_pure]
      rw [if_pos ⟨h0, h1⟩]
      simp only [Sem.run_bind, hsz, Result.andThen, Sem.run_pure, add_none]
      rfl
    · have := hr (j * Rep.sz α + q) (by have := hF.1; omega)
      rw [hj q hq, ← this]
      congr 2; omega
end
end Go.DB

/-
  Structs that hold rows of one's own: they are stored, and handed back.
-/
set_option linter.unusedVariables false
set_option linter.unusedSimpArgs false
namespace Go.DB
open Go Go.RowKit

section
variable {P : Program} {ops : Array Oper} {fs : Nat} {L : Slots} {B : Owns} {G : Prop}
variable {ty : TypeId} {pos : String} {after : Array Edge} {g : Option (Nat × Bool)} {xr : List Nat} {d : Option Tmp}

end

section
variable {P : Program} {fn : Func} {n : Nat} {F : Fr} {L : Slots} {B : Owns}
end
end Go.DB

/-
  A row of one's own of which parts are moved within it, and of which the beginning is handed back.
-/
set_option linter.unusedVariables false
set_option linter.unusedSimpArgs false
namespace Go.DB
open Go Go.RowKit

section
variable {P : Program} {ops : Array Oper} {fs : Nat} {L : Slots} {B : Owns} {G : Prop}
variable {ty : TypeId} {pos : String} {after : Array Edge} {g : Option (Nat × Bool)} {xr : List Nat} {d : Option Tmp}

theorem part_head {b off n cap m sz : Nat} : sliced (some ⟨b, off, none⟩) 0 m cap sz = .slice (some ⟨b, off, none⟩) m cap := by
  simp only [sliced]
  have : (if cap = 0 then (some ⟨b, off, none⟩ : Option Addr) else (some ⟨b, off, none⟩ : Option Addr).map (·.add (0 * sz))) = some ⟨b, off, none⟩ := by
    split
    · rfl
    · rw [Option.map_some, add_none]; simp
  rw [this]
  rfl
theorem part_head0 {m cap sz : Nat} : sliced none 0 m cap sz = .slice none m cap := by
  simp only [sliced]
  split <;> rfl

end

section
variable {Q : Exit → Act → World → Prop} {n : Nat} {F : Fr} {L : Slots} {B : Owns}

/-- The beginning of a row becomes a row of its own. -/
theorem Ends.head {e : Exit} {t k E : Nat} {s : Value} {α : Type} [Rep α] {l : List α} {m : Int} {cd : Prop} (hl : lookB B k = some (CPred.at s (rowV E l))) (ht : look L t = some ⟨cd, isV (partV s 0 m (Rep.sz α))⟩) (hc : cd) (hg : lookB B t = none) (hm : segR l.length 0 m)
    (c : Ends Q e n F L ((t, some (rowV E (l.take m.toNat))) :: (k, none) :: B)) : Ends Q e n F L B := by
  intro a w hs
  obtain ⟨M, D, h⟩ := id hs
  obtain ⟨ad, cap, hsl, hlc, hcm, ho⟩ : (rowV E l).p M (D k) s w := h.hasB k _ hl
  obtain ⟨v, hv, he⟩ := h.has t _ ht
  obtain ⟨rfl, _⟩ := rep_raw.1 (he.1 hc)
  refine c a w ⟨M, _, h.rekey hl hg ?_ h.has⟩
  have hav : Act.val a t = partV s 0 m (Rep.sz α) := by unfold Act.val; rw [hv]; rfl
  rw [hav]
  obtain ⟨m0, m1, m2⟩ := hm
  have hlen : (l.take m.toNat).length = m.toNat := by rw [List.length_take]; omega
  subst hsl
  cases ad with
  | none =>
    obtain ⟨e, e2, e3⟩ := ho
    subst e
    have : m.toNat = 0 := by simp at m2; omega
    refine ⟨none, cap, ?_, by simp, hcm, by simp, e2, e3⟩
    show sliced _ _ _ _ _ = _
    rw [hlen]; exact part_head0
  | some ad =>
    obtain ⟨b, off, sp⟩ := ad
    obtain ⟨hsp, hD, hM, pre, cs, rest, hh, hp, hel, hr⟩ := ho
    simp only at hsp hD hM hh hp
    subst hsp
    obtain ⟨t1, t2⟩ := Elems.take l cs m.toNat (by omega) hel
    refine ⟨some ⟨b, off, none⟩, cap, ?_, by rw [hlen]; omega, hcm, rfl, hD, hM, pre, cs.take (m.toNat * Rep.sz α), cs.drop (m.toNat * Rep.sz α) ++ rest, ?_, hp, t1, ?_⟩
    · show sliced _ _ _ _ _ = _
      rw [hlen]; exact part_head (n := l.length)
    · refine hh.re ?_
      conv => lhs; rw [← List.take_append_drop (m.toNat * Rep.sz α) cs]
      simp only [List.append_assoc]
    · have hcl := hel.len
      have e1 : (cap - m.toNat) * Rep.sz α = (cap - l.length) * Rep.sz α + (l.length - m.toNat) * Rep.sz α := by rw [← Nat.add_mul]; congr 1; omega
      have e2 : (l.length - m.toNat) * Rep.sz α = l.length * Rep.sz α - m.toNat * Rep.sz α := Nat.sub_mul _ _ _
      rw [hlen, List.length_append, List.length_drop, hcl, e1, e2]
      omega

end
end Go.DB

/-
  Calls that are handed memory of one's own while other memory is lent to them.
-/
set_option linter.unusedVariables false
set_option linter.unusedSimpArgs false
namespace Go.DB
open Go Go.RowKit

/-- What is held says nothing of other memory. -/
def FlatC (C : CPred) : Prop := ∀ (M M1 D : MSet) (v : Value) (w : World), (∀ k, M k → M1 k) → C.p M D v w → C.p M1 D v w
theorem FlatC.box {T : Nat} {α : Type} [Rep α] [Flat α] {y : α} : FlatC (cont T y) := by
  rintro M M1 D v w hM ⟨m, cs, hv, hD, hMm, hh, hc⟩
  exact ⟨m, cs, hv, hD, hM _ hMm, hh, Flat.cells hc⟩
theorem FlatO.nil : ∀ c, some c ∈ ([] : List (Option CPred)) → FlatC c := fun c h => by cases h
theorem FlatO.some {x : CPred} {l : List (Option CPred)} (h : FlatC x) (t : ∀ c, Option.some c ∈ l → FlatC c) : ∀ c, Option.some c ∈ (Option.some x :: l) → FlatC c := fun c hc => by
  rcases List.mem_cons.1 hc with e | e
  · obtain rfl := Option.some.inj e; exact h
  · exact t c e
theorem FlatO.none {l : List (Option CPred)} (t : ∀ c, Option.some c ∈ l → FlatC c) : ∀ c, Option.some c ∈ (Option.none :: l) → FlatC c := fun c hc => by
  rcases List.mem_cons.1 hc with e | e
  · cases e
  · exact t c e

section
variable {P : Program} {ops : Array Oper} {fs : Nat} {L : Slots} {B : Owns} {G : Prop}
variable {ty : TypeId} {pos : String} {after : Array Edge} {g : Option (Nat × Bool)} {xr : List Nat}

end
end Go.DB

/-
  Rows whose elements hold rows of one's own.
-/
set_option linter.unusedVariables false
set_option linter.unusedSimpArgs false
namespace Go.DB
open Go Go.RowKit

section
variable {α β ρ : Type} [Rep β] [Rep ρ]

/-- A row of what mk makes of a plain element and of the value of a row of one's own; the rows at hs are told, and taken out. -/
def rowD (E E2 : Nat) (mk : α → Value → ρ) (sub : α → List β) (hs : List (Nat × Value)) (l : List α) : CPred where
  p := fun M D v w => ∃ (ss : List Value) (Dm : MSet) (Dr : Nat → MSet), ss.length = l.length ∧ (rowV E (List.zipWith mk l ss)).p M Dm v w ∧ (∀ x ∈ hs, ss[x.1]? = some x.2) ∧
    (∀ (i : Nat) a s, l[i]? = some a → ss[i]? = some s → (∀ x ∈ hs, x.1 ≠ i) → (rowV E2 (sub a)).p M (Dr i) s w) ∧ (∀ j, D j → M j) ∧ (∀ j, (Dm j ∨ ∃ i, Dr i j) → D j) ∧ (∀ i j, Dr i j → ¬ Dm j) ∧ ∀ i i' j, Dr i j → Dr i' j → i = i'
  inM := fun M D v w ⟨ss, Dm, Dr, _, _, _, _, h, _⟩ k hk => h k hk
  law := fun M M' D v w w' hk hm hown ⟨ss, Dm, Dr, h1, h2, h3, h4, h5, h6, h7, h8⟩ =>
    ⟨ss, Dm, Dr, h1, (rowV E _).law M M' Dm v w w' hk hm (fun j h => hown j (h6 j (.inl h))) h2, h3, fun i a s ha hs hn => (rowV E2 _).law M M' (Dr i) s w w' hk hm (fun j h => hown j (h6 j (.inr ⟨i, h⟩))) (h4 i a s ha hs hn), fun j h => (hown j h).1, h6, h7, h8⟩

variable {E E2 : Nat} {mk : α → Value → ρ} {sub : α → List β} {hs : List (Nat × Value)} {l : List α} {M D : MSet} {v : Value} {w : World}

omit [Rep β] [Rep ρ] in
theorem zw_len {ss : List Value} (h : ss.length = l.length) : (List.zipWith mk l ss).length = l.length := by rw [List.length_zipWith]; omega

theorem rowD_slice (h : (rowD E E2 mk sub hs l).p M D v w) : ∃ a cap, v = .slice a l.length cap := by
  obtain ⟨ss, Dm, Dr, h1, ⟨a, cap, h2, _⟩, _⟩ := h
  rw [zw_len h1] at h2
  exact ⟨a, cap, h2⟩
theorem oneRowD : OneC (rowD E E2 mk sub hs l) := fun _ _ _ _ h => by
  obtain ⟨a, cap, hv⟩ := rowD_slice h
  rw [hv]; exact ⟨rfl, rfl⟩

/-- An element's row is taken out. -/
theorem rowD_open [Inhabited α] {i : Int} (hi : inR l i) (hn : ∀ x ∈ hs, x.1 ≠ i.toNat) (h : (rowD E E2 mk sub hs l).p M D v w) :
    (deep (fun z => rowD E E2 mk sub ((i.toNat, z) :: hs) l) (rowV E2 (sub (gx l i)))).p M D v w := by
  obtain ⟨h0, h1'⟩ := hi
  obtain ⟨k, rfl⟩ : ∃ k : Nat, i = k := ⟨i.toNat, by omega⟩
  have hk : k < l.length := by omega
  simp only [Int.toNat_natCast] at hn ⊢
  obtain ⟨ss, Dm, Dr, h1, h2, h3, h4, h5, h6, h7, h8⟩ := h
  have hks : k < ss.length := by omega
  have hg : gx l (k : Int) = l[k] := by simp [gx, hk]
  refine ⟨ss[k], fun j => D j ∧ ¬ Dr k j, Dr k, ⟨ss, Dm, fun i j => i ≠ k ∧ Dr i j, h1, h2, fun x hx => ?_, fun i a s ha hs' hx => ?_, fun j h => h5 j h.1, fun j h => ?_, fun i j h => h7 i j h.2, fun i i' j h h' => h8 i i' j h.2 h'.2⟩, ?_, fun j => ?_, fun j h h' => h.2 h'⟩
  · rcases List.mem_cons.1 hx with e | e
    · subst e; exact List.getElem?_eq_getElem hks
    · exact h3 x e
  · have hik : i ≠ k := fun e => hx (k, ss[k]) List.mem_cons_self e.symm
    have e := h4 i a s ha hs' (fun x h => hx x (List.mem_cons_of_mem _ h))
    have : (fun j => i ≠ k ∧ Dr i j) = Dr i := by funext j; simp [hik]
    show (rowV E2 (sub a)).p M (fun j => i ≠ k ∧ Dr i j) s w
    rw [this]; exact e
  · rcases h with h | ⟨i, h, h'⟩
    · exact ⟨h6 j (.inl h), fun hd => h7 k j hd h⟩
    · exact ⟨h6 j (.inr ⟨i, h'⟩), fun hd => h (h8 i k j h' hd)⟩
  · rw [hg]
    exact h4 k l[k] ss[k] (List.getElem?_eq_getElem hk) (List.getElem?_eq_getElem hks) hn
  · constructor
    · intro h
      by_cases hd : Dr k j
      · exact .inr hd
      · exact .inl ⟨h, hd⟩
    · rintro (h | h)
      · exact h.1
      · exact h6 j (.inr ⟨k, h⟩)

omit [Rep β] [Rep ρ] in
theorem zw_set {ss : List Value} {k : Nat} {a a' : α} (hk : k < l.length) (ha : l[k] = a) (hm : ∀ s, mk a' s = mk a s) : List.zipWith mk (l.set k a') ss = List.zipWith mk l ss := by
  refine List.ext_getElem (by simp) fun j h1 h2 => ?_
  rw [List.getElem_zipWith, List.getElem_zipWith, List.getElem_set]
  split
  · rename_i e; subst e; rw [hm, ha]
  · rfl

/-- An element's row comes back. -/
theorem rowD_close [Inhabited α] {i : Int} {a' : α} {x : List β} (hi : inR l i) (hn : ∀ y ∈ hs, y.1 ≠ i.toNat) (hm : ∀ s, mk a' s = mk (gx l i) s) (hx : sub a' = x)
    (h : (deep (fun z => rowD E E2 mk sub ((i.toNat, z) :: hs) l) (rowV E2 x)).p M D v w) : (rowD E E2 mk sub hs (l.set i.toNat a')).p M D v w := by
  obtain ⟨h0, h1'⟩ := hi
  obtain ⟨k, rfl⟩ : ∃ k : Nat, i = k := ⟨i.toNat, by omega⟩
  have hk : k < l.length := by omega
  simp only [Int.toNat_natCast] at hn h ⊢
  have hg : gx l (k : Int) = l[k] := by simp [gx, hk]
  obtain ⟨z, D1, D2, ⟨ss, Dm, Dr, h1, h2, h3, h4, h5, h6, h7, h8⟩, hR, hD, hap⟩ := h
  have hks : k < ss.length := by omega
  have hz : ss[k] = z := by
    have := h3 (k, z) List.mem_cons_self
    rw [List.getElem?_eq_getElem hks] at this
    exact Option.some.inj this
  refine ⟨ss, Dm, fun i j => (i = k ∧ D2 j) ∨ (i ≠ k ∧ Dr i j), by simpa using h1, by rw [zw_set hk hg.symm hm]; exact h2, fun x hx => h3 x (List.mem_cons_of_mem _ hx), fun i a s ha hs' hno => ?_, fun j h => ?_, fun j h => ?_, fun i j h => ?_, fun i i' j h h' => ?_⟩
  · rw [List.getElem?_set] at ha
    by_cases e : k = i
    · subst e
      rw [if_pos rfl, if_pos hk] at ha
      obtain rfl := Option.some.inj ha
      rw [List.getElem?_eq_getElem hks] at hs'
      obtain rfl := Option.some.inj hs'
      have : (fun j => (k = k ∧ D2 j) ∨ (k ≠ k ∧ Dr k j)) = D2 := by funext j; simp
      show (rowV E2 (sub a')).p M (fun j => (k = k ∧ D2 j) ∨ (k ≠ k ∧ Dr k j)) ss[k] w
      rw [this, hx, hz]; exact hR
    · rw [if_neg e] at ha
      have e' : i ≠ k := fun h => e h.symm
      have : (fun j => (i = k ∧ D2 j) ∨ (i ≠ k ∧ Dr i j)) = Dr i := by funext j; simp [e']
      show (rowV E2 (sub a)).p M (fun j => (i = k ∧ D2 j) ∨ (i ≠ k ∧ Dr i j)) s w
      rw [this]
      refine h4 i a s ha hs' (fun x hx => ?_)
      rcases List.mem_cons.1 hx with q | q
      · subst q; exact e
      · exact hno x q
  · rcases (hD j).1 h with h | h
    · exact h5 j h
    · exact (rowV E2 x).inM _ _ _ _ hR j h
  · refine (hD j).2 ?_
    rcases h with h | ⟨i, ⟨_, h⟩ | ⟨_, h⟩⟩
    · exact .inl (h6 j (.inl h))
    · exact .inr h
    · exact .inl (h6 j (.inr ⟨i, h⟩))
  · intro hd
    rcases h with ⟨_, h⟩ | ⟨_, h⟩
    · exact hap j (h6 j (.inl hd)) h
    · exact h7 i j h hd
  · rcases h with ⟨e, h⟩ | ⟨e, h⟩ <;> rcases h' with ⟨e', h'⟩ | ⟨e', h'⟩
    · omega
    · exact absurd h (hap j (h6 j (.inr ⟨i', h'⟩)))
    · exact absurd h' (hap j (h6 j (.inr ⟨i, h⟩)))
    · exact h8 i i' j h h'
/-- Rows of rows that are nil. -/
theorem rowD_nils {n : Nat} {a : α} {z : ρ} (hz : mk a (.slice none 0 0) = z) (ha : sub a = []) (h : (rowV E (List.replicate n z)).p M D v w) : (rowD E E2 mk sub [] (List.replicate n a)).p M D v w := by
  refine ⟨List.replicate n (.slice none 0 0), D, fun _ _ => False, by simp, ?_, by simp, fun i b s hb hs _ => ?_, (rowV E _).inM _ _ _ _ h, fun j h => h.elim id (fun ⟨_, h⟩ => h.elim), fun _ _ h => h.elim, fun _ _ _ h => h.elim⟩
  · have : List.zipWith mk (List.replicate n a) (List.replicate n (.slice none 0 0)) = List.replicate n z := by
      refine List.ext_getElem (by simp) fun j h1 h2 => ?_
      simp [hz]
    rw [this]; exact h
  · have e1 : b = a := by
      have := List.mem_of_getElem? hb
      exact (List.mem_replicate.1 this).2
    have e2 : s = .slice none 0 0 := (List.mem_replicate.1 (List.mem_of_getElem? hs)).2
    subst e1; subst e2
    rw [ha]
    exact ⟨none, 0, rfl, Nat.le_refl _, by decide, rfl, rfl, fun _ h => h⟩
/-- All of it is written no more. -/
theorem rowD_rep [Rep α] (hsz : Rep.sz ρ = Rep.sz α) (hF : ∀ (M : MSet) (a : α) (s : Value) (cs : List Value) (w : World), Rep.cells M (mk a s) cs w → (rep (sub a)).p M s w → Rep.cells M a cs w)
    (h : (rowD E E2 mk sub [] l).p M D v w) (hms : ∀ k, M k → k < w.heap.size) : (rep l).p (fun k => M k ∧ ¬ D k) v w := by
  obtain ⟨ss, Dm, Dr, h1, h2, h3, h4, h5, h6, h7, h8⟩ := h
  have hr := rep_less (M' := fun k => M k ∧ ¬ D k) (rowV_rep M Dm w v h2 hms) (fun k hk => ⟨hk.1, fun h => hk.2 (h6 k (.inl h))⟩)
  obtain ⟨a, cap, e1, e2, e3, e4⟩ := rep_list.1 hr
  rw [zw_len h1] at e1 e2
  refine rep_list.2 ⟨a, cap, e1, e2, e3, ?_⟩
  cases a with
  | none =>
    have : List.zipWith mk l ss = [] := e4
    have hl : l.length = 0 := by rw [← zw_len (mk := mk) h1, this]; rfl
    exact List.length_eq_zero_iff.1 hl
  | some ad =>
    intro q hq
    have hq' : q < (List.zipWith mk l ss).length := by rw [zw_len h1]; exact hq
    have hqs : q < ss.length := by omega
    obtain ⟨g1, g2, g3, cs, g4, g5⟩ := e4 q hq'
    refine ⟨g1, g2, g3, cs, ?_, fun k hk => ?_⟩
    · rw [List.getElem_zipWith] at g4
      refine hF _ _ _ _ _ g4 ?_
      have := h4 q l[q] ss[q] (List.getElem?_eq_getElem hq) (List.getElem?_eq_getElem hqs) (by simp)
      exact rep_less (rowV_rep M (Dr q) w _ this hms) (fun k hk => ⟨hk.1, fun h => hk.2 (h6 k (.inr ⟨q, h⟩))⟩)
    · rw [← g5 k (by rw [hsz]; exact hk), hsz]
end

/-- The rows of rows. -/
abbrev mkR {β : Type} : List β → Value → Raw := fun _ s => ⟨s⟩
abbrev subR {β : Type} : List β → List β := fun x => x
theorem rowR_rep {β : Type} [Rep β] {E E2 : Nat} {l : List (List β)} {M D : MSet} {v : Value} {w : World} (h : (rowD E E2 mkR subR [] l).p M D v w) (hms : ∀ k, M k → k < w.heap.size) : (rep l).p (fun k => M k ∧ ¬ D k) v w :=
  rowD_rep (α := List β) (mk := mkR) (sub := subR) rfl (fun M a s cs w hc hl => row_cells hc hl) h hms

section
variable {Q : Exit → Act → World → Prop} {P : Program} {n : Nat} {F : Fr} {L : Slots} {B : Owns}

theorem lookB_self {k : Nat} {C : Option CPred} : lookB ((k, C) :: B) k = C := by simp [lookB]
theorem lookB_skip {g k : Nat} {C C' : Option CPred} (h : ¬ g = k) : lookB ((g, C') :: (k, C) :: B) k = C := by simp only [lookB]; rw [beq_ne h]; simp
/-- What a key holds is told otherwise. -/
theorem Cod.tellK {c : Code} {k : Nat} {C C' : CPred} (hl : lookB B k = some C) (h : ∀ M D v w, C.p M D v w → C'.p M D v w) (hc : Cod P c Q n F L ((k, some C') :: B)) : Cod P c Q n F L B := by
  rintro a w ⟨M, D, hs⟩
  exact hc a w ⟨M, D, hs.retell hl (h _ _ _ _ (hs.hasB k _ hl))⟩
theorem Ends.tellK {e : Exit} {k : Nat} {C C' : CPred} (hl : lookB B k = some C) (h : ∀ M D v w, C.p M D v w → C'.p M D v w) (hc : Ends Q e n F L ((k, some C') :: B)) : Ends Q e n F L B := by
  rintro a w ⟨M, D, hs⟩
  exact hc a w ⟨M, D, hs.retell hl (h _ _ _ _ (hs.hasB k _ hl))⟩

variable {α β ρ : Type} [Rep β] [Rep ρ] [Inhabited α] {E E2 : Nat} {mk : α → Value → ρ} {sub : α → List β} {hs : List (Nat × Value)} {l : List α} {s : Value}

theorem Cod.openD {c : Code} {k g : Nat} {i : Int} (hl : lookB B k = some (CPred.at s (rowD E E2 mk sub hs l))) (hg : lookB B g = none) (hi : inR l i) (hn : ∀ x ∈ hs, x.1 ≠ i.toNat)
    (h : ∀ z, Cod P c Q n F L ((g, some (CPred.at z (rowV E2 (sub (gx l i))))) :: (k, some (CPred.at s (rowD E E2 mk sub ((i.toNat, z) :: hs) l))) :: (k, some (CPred.at s (deep (fun z => rowD E E2 mk sub ((i.toNat, z) :: hs) l) (rowV E2 (sub (gx l i)))))) :: B)) : Cod P c Q n F L B := by
  have hgk : ¬ k = g := fun e => by subst e; rw [hg] at hl; cases hl
  exact .tellK (C' := CPred.at s (deep (fun z => rowD E E2 mk sub ((i.toNat, z) :: hs) l) (rowV E2 (sub (gx l i))))) hl (fun M D v w h => by have h' : (rowD E E2 mk sub hs l).p M D s w := h; exact rowD_open hi hn h') (.open (k := k) (g := g) lookB_self (by simp only [lookB]; rw [beq_ne hgk]; exact hg) h)
theorem Cod.closeD {c : Code} {k g : Nat} {i : Int} {z : Value} {x : List β} (a' : α) (hl : lookB B k = some (CPred.at s (rowD E E2 mk sub ((i.toNat, z) :: hs) l))) (hg : lookB B g = some (CPred.at z (rowV E2 x))) (hgk : (g == k) = false) (hi : inR l i) (hn : ∀ y ∈ hs, y.1 ≠ i.toNat)
    (hm : ∀ s, mk a' s = mk (gx l i) s) (hx : sub a' = x)
    (h : Cod P c Q n F L ((k, some (CPred.at s (rowD E E2 mk sub hs (l.set i.toNat a')))) :: (g, none) :: (k, some (CPred.at s (deep (fun z => rowD E E2 mk sub ((i.toNat, z) :: hs) l) (rowV E2 x)))) :: B)) : Cod P c Q n F L B := by
  have hgk' : ¬ g = k := by simpa using hgk
  exact .close (k := k) (g := g) (fun z => rowD E E2 mk sub ((i.toNat, z) :: hs) l) hl hg hgk (.tellK (k := k) (C := CPred.at s (deep (fun z => rowD E E2 mk sub ((i.toNat, z) :: hs) l) (rowV E2 x))) (lookB_skip hgk') (fun M D v w h => by have h' : (deep (fun z => rowD E E2 mk sub ((i.toNat, z) :: hs) l) (rowV E2 x)).p M D s w := h; exact rowD_close hi hn hm hx h') h)
theorem Ends.closeD {e : Exit} {k g : Nat} {i : Int} {z : Value} {x : List β} (a' : α) (hl : lookB B k = some (CPred.at s (rowD E E2 mk sub ((i.toNat, z) :: hs) l))) (hg : lookB B g = some (CPred.at z (rowV E2 x))) (hgk : (g == k) = false) (hi : inR l i) (hn : ∀ y ∈ hs, y.1 ≠ i.toNat)
    (hm : ∀ s, mk a' s = mk (gx l i) s) (hx : sub a' = x)
    (h : Ends Q e n F L ((k, some (CPred.at s (rowD E E2 mk sub hs (l.set i.toNat a')))) :: (g, none) :: (k, some (CPred.at s (deep (fun z => rowD E E2 mk sub ((i.toNat, z) :: hs) l) (rowV E2 x)))) :: B)) : Ends Q e n F L B := by
  have hgk' : ¬ g = k := by simpa using hgk
  exact .close (k := k) (g := g) (fun z => rowD E E2 mk sub ((i.toNat, z) :: hs) l) hl hg hgk (.tellK (k := k) (C := CPred.at s (deep (fun z => rowD E E2 mk sub ((i.toNat, z) :: hs) l) (rowV E2 x))) (lookB_skip hgk') (fun M D v w h => by have h' : (deep (fun z => rowD E E2 mk sub ((i.toNat, z) :: hs) l) (rowV E2 x)).p M D s w := h; exact rowD_close hi hn hm hx h') h)
end

section
variable {P : Program} {ops : Array Oper} {fs : Nat} {L : Slots} {B : Owns} {G : Prop}
variable {ty : TypeId} {pos : String} {after : Array Edge} {g : Option (Nat × Bool)} {xr : List Nat} {d : Option Tmp}
variable {α β ρ : Type} [Rep β] [Rep ρ] [Inhabited α] {E E2 : Nat} {mk : α → Value → ρ} {sub : α → List β} {hs : List (Nat × Value)} {l : List α} {s : Value}

theorem StepOK.post1 {o : Oper} {x : Aux} {e : Ent} {d : Nat} {C C' : CPred} (h : StepOK P ops fs o L B x e [(d, some C)]) (hC : ∀ M D v w, C.p M D v w → C'.p M D v w) : StepOK P ops fs o L B x e [(d, some C')] := by
  intro M D a w h1 h2 h3 h4
  have := h M D a w h1 h2 h3 h4
  split at this
  · rename_i hw
    rw [if_pos hw]
    refine Does.mono this fun v w' hl => ?_
    obtain ⟨M', D', a1, a2, a3, a4, a5, a6, a7⟩ := hl
    refine ⟨M', D', a1, a2, a3, a4, a5, fun t c hc => ?_, fun t1 t2 c1 c2 q1 q2 hne => ?_⟩
    · simp only [lookB] at hc
      by_cases e : d = t
      · subst e; simp at hc; subst hc
        obtain ⟨b1, b2⟩ := a6 d C (by simp [lookB])
        exact ⟨hC _ _ _ _ b1, b2⟩
      · rw [beq_ne e] at hc; cases hc
    · simp only [lookB] at q1 q2
      by_cases e1 : d = t1
      · by_cases e2 : d = t2
        · exact absurd (e1.symm.trans e2) hne
        · rw [beq_ne e2] at q2; cases q2
      · rw [beq_ne e1] at q1; cases q1
  · exact absurd this.1 (by simp)

omit [Inhabited α] in
/-- A look into such a row is a look into a row of what mk makes. -/
theorem StepOK.viaD {o : Oper} {k : Nat} {e : Ent} {xr : List Nat} (hk : lookB B k = some (CPred.at s (rowD E E2 mk sub hs l))) (hx : k ∈ xr)
    (h : ∀ ss : List Value, ss.length = l.length → (∀ x ∈ hs, ss[x.1]? = some x.2) → StepOK P ops fs o L ((k, some (CPred.at s (rowV E (List.zipWith mk l ss)))) :: B) (xr, []) e []) : StepOK P ops fs o L B (xr, []) e [] := by
  intro M D a w h1 h2 h3 h4
  obtain ⟨ss, Dm, Dr, g1, g2, g3, g4, g5, g6, g7, g8⟩ : (rowD E E2 mk sub hs l).p M (D k) s w := h4.has k (by simp [hx]) _ hk
  have hD : ∀ t j, (if t = k then Dm else D t) j → D t j := fun t j hj => by
    by_cases e : t = k
    · subst e; rw [if_pos rfl] at hj; exact g6 j (.inl hj)
    · rw [if_neg e] at hj; exact hj
  have cs : ∀ t c, lookB ((k, some (CPred.at s (rowV E (List.zipWith mk l ss)))) :: B) t = some c → (t = k ∧ c = CPred.at s (rowV E (List.zipWith mk l ss))) ∨ (t ≠ k ∧ lookB B t = some c) := by
    intro t c hc
    simp only [lookB] at hc
    by_cases e : k = t
    · subst e; simp at hc; exact .inl ⟨rfl, hc.symm⟩
    · rw [beq_ne e, cond_false] at hc; exact .inr ⟨Ne.symm e, hc⟩
  have old : ∀ t c, lookB ((k, some (CPred.at s (rowV E (List.zipWith mk l ss)))) :: B) t = some c → ∃ c', lookB B t = some c' := fun t c hc => by
    rcases cs t c hc with ⟨rfl, _⟩ | ⟨_, h⟩
    · exact ⟨_, hk⟩
    · exact ⟨_, h⟩
  have := h ss g1 g3 M (fun t => if t = k then Dm else D t) a w h1 h2 h3 ⟨fun t ht c hc => ?_, fun t1 m1 t2 m2 c1 c2 q1 q2 hne j j1 j2 => ?_⟩
  · split at this
    · rename_i hw
      rw [if_pos hw]
      exact this
    · rename_i hw
      rw [if_neg hw]
      exact this
  · rcases cs t c hc with ⟨rfl, rfl⟩ | ⟨e, h⟩
    · rw [if_pos rfl]; exact g2
    · rw [if_neg e]; exact h4.has t ht c h
  · obtain ⟨c1', r1⟩ := old t1 c1 q1
    obtain ⟨c2', r2⟩ := old t2 c2 q2
    exact h4.apart t1 m1 t2 m2 _ _ r1 r2 hne j (hD t1 j j1) (hD t2 j j2)

omit [Rep β] [Rep ρ] in
theorem gx_zw [Inhabited ρ] {ss : List Value} {i : Int} {z : Value} (hi : inR l i) (hs : ss[i.toNat]? = some z) : gx (List.zipWith mk l ss) i = mk (gx l i) z := by
  obtain ⟨h0, h1⟩ := hi
  have hk : i.toNat < l.length := by omega
  unfold gx
  rw [List.getElem?_zipWith, hs, List.getElem?_eq_getElem hk]
  rfl
omit [Rep β] [Rep ρ] [Inhabited α] in
theorem inR_zw {ss : List Value} {i : Int} (hi : inR l i) (h : ss.length = l.length) : inR (List.zipWith mk l ss) i := by
  obtain ⟨h0, h1⟩ := hi
  exact ⟨h0, by rw [zw_len h]; exact h1⟩

omit [Inhabited α] in
theorem StepOK.lenD {x : Operand} {T E' k : Nat} (hT : SliceOf P T E') (hx : Opd L True x (isV s)) (hk : lookB B k = some (CPred.at s (rowD E E2 mk sub hs l))) :
    StepOK P ops fs ⟨d, .call { callee := .builtin .len, args := #[x], argTypes := #[T] }, ty, pos, after, none⟩ L B ([k], []) ⟨True, rep (l.length : Int)⟩ [] :=
  .viaD hk (by simp) fun ss h _ => .re (e := ((List.zipWith mk l ss).length : Int)) (by rw [zw_len h]) (StepOK.lenO (k := k) (T' := E) (l := List.zipWith mk l ss) hT (.told hx lookB_self))

omit [Inhabited α] in
theorem StepOK.indexAddrD {T E' k : Nat} {x i : Operand} {j : Int} (hT : SliceOf P T E') (hE : Ty P E' ρ) (hx : Opd L True x (isV s)) (hk : lookB B k = some (CPred.at s (rowD E E2 mk sub hs l))) (hi : Opd L True i (rep j)) (hb : inR l j) :
    StepOK P ops fs ⟨d, .indexAddr T x i, ty, pos, after, none⟩ L B ([k], []) ⟨True, isV (elemPtr s (j.toNat * Rep.sz ρ + 0))⟩ [] :=
  .viaD hk (by simp) fun ss h _ => .indexAddrO (k := k) (E' := E) (l := List.zipWith mk l ss) .none hT hE hx lookB_self hi (fun _ => inR_zw hb h)
theorem StepOK.loadElemD {γ : Type} [Rep γ] [Inhabited ρ] {T k off : Nat} {x : Operand} {j : Int} {z : Value} {proj : ρ → γ} {y : γ} (hT : Ty P T γ) (hx : Opd L True x (isV (elemPtr s (j.toNat * Rep.sz ρ + off)))) (hk : lookB B k = some (CPred.at s (rowD E E2 mk sub hs l)))
    (hH : HasField ρ γ off proj) (hb : inR l j) (hz : (j.toNat, z) ∈ hs) (hy : y = proj (mk (gx l j) z)) :
    StepOK P ops fs ⟨d, .load T x, ty, pos, after, none⟩ L B ([k], []) ⟨True, rep y⟩ [] :=
  .viaD hk (by simp) fun ss h hh => .re (by rw [hy, gx_zw hb (hh _ hz)]) (StepOK.loadElem (k := k) (E' := E) (l := List.zipWith mk l ss) (proj := proj) .none hT hx lookB_self hH (fun _ => inR_zw hb h))

omit [Rep β] [Rep ρ] [Inhabited α] in
theorem zw_put {ss : List Value} {k : Nat} {a' : α} {z : Value} (hk : k < l.length) (h : ss.length = l.length) : (List.zipWith mk l ss).set k (mk a' z) = List.zipWith mk (l.set k a') (ss.set k z) := by
  refine List.ext_getElem (by simp) fun j h1 h2 => ?_
  rw [List.getElem_set, List.getElem_zipWith, List.getElem_zipWith, List.getElem_set, List.getElem_set]
  split <;> rfl

/-- A row of one's own goes into an element. -/
theorem StepOK.storeElemD {T k t off : Nat} {p : Operand} {x : List β} {j : Int} {set : ρ → Raw → ρ} {hs' : List (Nat × Value)} [Inhabited ρ] (a' : α) (hT : Ty P T (List β)) (hp : Opd L True p (isV (elemPtr s (j.toNat * Rep.sz ρ + off))))
    (hk : lookB B k = some (CPred.at s (rowD E E2 mk sub hs l))) (hF : SetField ρ Raw off set) (ht : lookB B t = some (rowV E2 x)) (hb : inR l j) (hkt : (k == t) = false)
    (hh : ∀ y ∈ hs', y ∈ hs ∧ y.1 ≠ j.toNat) (hh2 : ∀ y ∈ hs, y.1 = j.toNat ∨ y ∈ hs') (hm : ∀ z0 s', set (mk (gx l j) z0) ⟨s'⟩ = mk a' s') (hx : sub a' = x) :
    StepOK P ops fs ⟨none, .store T p (.tmp t), ty, pos, after, none⟩ L B ([k, t], [k, t]) ⟨True, anyV⟩ [(k, some (CPred.at s (rowD E E2 mk sub hs' (l.set j.toNat a')))), (t, none)] := by
  have hkt : k ≠ t := by simpa using hkt
  refine .doing fun M D a w hsz hmm hsat hsB => ?_
  obtain ⟨q1, q2⟩ := hb
  have hlt0 : j.toNat < l.length := by omega
  have hg : gx l j = l[j.toNat] := by simp [gx, hlt0]
  obtain ⟨ss, Dm, Dr, h1, h2, h3, h4, h5, h6, h7, h8⟩ : (rowD E E2 mk sub hs l).p M (D k) s w := hsB.has k (by simp) _ hk
  have hR := hsB.has t (by simp) _ ht
  have hap := hsB.apart k (by simp) t (by simp) _ _ hk ht hkt
  have hzl : (List.zipWith mk l ss).length = l.length := zw_len h1
  have hlt : j.toNat < (List.zipWith mk l ss).length := by omega
  have hls : j.toNat < ss.length := by omega
  obtain ⟨b, of, cap, pre, cs, rest, rfl, hlc, hcm, hD, hM, hh', hpr, he, hrest⟩ := rowAt_block (j := j.toNat) h2 hlt
  have hv : a.eval p = ptr b (of + (j.toNat * Rep.sz ρ + off)) := (rep_raw.1 (hp.get hsat (fun t ht => looksAt_op (by simp [Op.operands, ht])) trivial)).1
  have hxv : a.eval (.tmp t) = Act.val a t := eval_val
  obtain ⟨ad, cap', hsl, _⟩ := id hR
  have hz : Rep.cells M (⟨Act.val a t⟩ : Raw) [Act.val a t] w := ⟨rfl, by rw [hsl]; rfl, by rw [hsl]; rfl⟩
  obtain ⟨c, hc, hj⟩ := he.at _ cs j.toNat hlt
  have hcl := he.len
  have hce := Rep.len hc
  have hle : off + 1 ≤ Rep.sz ρ := hF.1
  have hroom : j.toNat * Rep.sz ρ + Rep.sz ρ ≤ cs.length := by
    rw [hcl]
    have := Nat.mul_le_mul_right (Rep.sz ρ) (show j.toNat + 1 ≤ (List.zipWith mk l ss).length by omega)
    rw [Nat.add_mul] at this; omega
  have hceq : c = (cs.drop (j.toNat * Rep.sz ρ)).take (Rep.sz ρ) := by
    refine List.ext_getElem? fun i => ?_
    by_cases hi : i < Rep.sz ρ
    · rw [List.getElem?_take_of_lt hi, List.getElem?_drop, hj i hi]
    · rw [List.getElem?_eq_none (by omega), List.getElem?_eq_none (by rw [List.length_take]; omega)]
  have hsplit : cs = cs.take (j.toNat * Rep.sz ρ) ++ (c.take off ++ (c.drop off).take 1 ++ c.drop (off + 1)) ++ cs.drop (j.toNat * Rep.sz ρ + Rep.sz ρ) := by
    have h2 : c.take off ++ (c.drop off).take 1 ++ c.drop (off + 1) = c := by
      rw [← List.drop_drop, List.append_assoc, List.take_append_drop, List.take_append_drop]
    rw [h2, hceq, ← List.drop_drop, List.append_assoc, List.take_append_drop, List.take_append_drop]
  obtain ⟨w', g1, g2, g3, g4, g5, g6, g7⟩ := run_storeAtR (P := P) (w := w) (m := b) (off := of + (j.toNat * Rep.sz ρ + off)) (cs := [Act.val a t]) (pre := pre ++ cs.take (j.toNat * Rep.sz ρ) ++ c.take off) (mid := (c.drop off).take 1)
    (rest := c.drop (off + 1) ++ cs.drop (j.toNat * Rep.sz ρ + Rep.sz ρ) ++ rest) hT rfl
    (by rw [List.length_take, List.length_drop]; show _ = 1; omega) (by rw [List.length_append, List.length_append, List.length_take, List.length_take]; omega) (Rep.plain hz) (show (Act.val a t).cells = #[Act.val a t] by rw [hsl]; rfl) (hh'.re (by
      conv => lhs; rw [hsplit]
      simp))
  have hbm : Dm b := (hD b).2 rfl
  have hkD : Keeps (D k) w w' := ⟨g3, g4, g5, by omega, fun i _ hn => g7 i (fun e => hn (e ▸ h6 b (.inl hbm)))⟩
  have hkM : Keeps M w w' := ⟨g3, g4, g5, by omega, fun i _ hn => g7 i (fun e => hn (e ▸ hM))⟩
  refine Does.skip (w' := w') (ex_store (by rw [hv, hxv]; exact g1)) rfl (.merge hk ht hkD (fun i h => by rw [g6]; exact hmm i h) ⟨fun _ => trivial, fun hf => (hf trivial).elim⟩ ?_)
  have hl' := Rep.law hkM (fun _ h => .inl h) hc
  have hset := hF.2 M (List.zipWith mk l ss)[j.toNat] ⟨Act.val a t⟩ c [Act.val a t] w' hl' (Rep.law hkM (fun _ h => .inl h) hz)
  have hel := Elems.set _ cs j.toNat _ _ hlt (Elems.law hkM (fun _ h => .inl h) _ cs he) hset
  have hput : (List.zipWith mk l ss).set j.toNat (set (List.zipWith mk l ss)[j.toNat] ⟨Act.val a t⟩) = List.zipWith mk (l.set j.toNat a') (ss.set j.toNat (Act.val a t)) := by
    rw [List.getElem_zipWith, ← hg, hm]
    exact zw_put hlt0 h1
  rw [hput] at hel
  have hnl : (List.zipWith mk (l.set j.toNat a') (ss.set j.toNat (Act.val a t))).length = l.length := by rw [List.length_zipWith, List.length_set, List.length_set]; omega
  have hlen0 : (List.zipWith mk l ss).length = l.length := hzl
  refine ⟨ss.set j.toNat (Act.val a t), Dm, fun i q => (i = j.toNat ∧ D t q) ∨ (i ≠ j.toNat ∧ Dr i q), by simp [h1], ⟨some ⟨b, of, none⟩, cap, by rw [hnl, ← hlen0], by rw [hnl, ← hlen0]; exact hlc, hcm, rfl, hD, hM, pre, _, rest, ?_, hpr, hel, by rw [hnl, ← hlen0]; exact hrest⟩, fun y hy => ?_, fun i a0 s0 ha hs0 hno => ?_, fun q hq => ?_, fun q hq => ?_, fun i q hq => ?_, fun i i' q hq hq' => ?_⟩
  · exact g2.re (by simp [show Rep.sz Raw = 1 from rfl])
  · obtain ⟨y1, y2⟩ := hh y hy
    rw [List.getElem?_set, if_neg (Ne.symm y2)]
    exact h3 y y1
  · rw [List.getElem?_set] at ha hs0
    by_cases e : j.toNat = i
    · subst e
      rw [if_pos rfl, if_pos hlt0] at ha
      rw [if_pos rfl, if_pos hls] at hs0
      obtain rfl := Option.some.inj ha
      obtain rfl := Option.some.inj hs0
      show (rowV E2 (sub a')).p M (fun q => (j.toNat = j.toNat ∧ D t q) ∨ (j.toNat ≠ j.toNat ∧ Dr j.toNat q)) _ w'
      have : (fun q => (j.toNat = j.toNat ∧ D t q) ∨ (j.toNat ≠ j.toNat ∧ Dr j.toNat q)) = D t := by funext q; simp
      rw [this, hx]
      exact (rowV E2 x).law M M (D t) _ w w' hkM (fun _ h => .inl h) (fun q hq => ⟨(rowV E2 x).inM _ _ _ _ hR q hq, g7 q (fun e => hap q (e ▸ h6 b (.inl hbm)) hq)⟩) hR
    · rw [if_neg e] at ha hs0
      have e' : i ≠ j.toNat := fun h => e h.symm
      show (rowV E2 (sub a0)).p M (fun q => (i = j.toNat ∧ D t q) ∨ (i ≠ j.toNat ∧ Dr i q)) s0 w'
      have : (fun q => (i = j.toNat ∧ D t q) ∨ (i ≠ j.toNat ∧ Dr i q)) = Dr i := by funext q; simp [e']
      rw [this]
      have hno' : ∀ y ∈ hs, y.1 ≠ i := fun y hy => by
        rcases hh2 y hy with h | h
        · rw [h]; exact e
        · exact hno y h
      exact (rowV E2 _).law M M (Dr i) s0 w w' hkM (fun _ h => .inl h) (fun q hq => ⟨h5 q (h6 q (.inr ⟨i, hq⟩)), g7 q (fun e => h7 i q hq (e ▸ hbm))⟩) (h4 i a0 s0 ha hs0 hno')
  · rcases hq with hq | hq
    · exact h5 q hq
    · exact (rowV E2 x).inM _ _ _ _ hR q hq
  · rcases hq with hq | ⟨i, ⟨_, hq⟩ | ⟨_, hq⟩⟩
    · exact .inl (h6 q (.inl hq))
    · exact .inr hq
    · exact .inl (h6 q (.inr ⟨i, hq⟩))
  · intro hd
    rcases hq with ⟨_, hq⟩ | ⟨_, hq⟩
    · exact hap q (h6 q (.inl hd)) hq
    · exact h7 i q hq hd
  · rcases hq with ⟨e, hq⟩ | ⟨e, hq⟩ <;> rcases hq' with ⟨e', hq'⟩ | ⟨e', hq'⟩
    · omega
    · exact absurd hq (hap q (h6 q (.inr ⟨i', hq'⟩)))
    · exact absurd hq' (hap q (h6 q (.inr ⟨i, hq⟩)))
    · exact h8 i i' q hq hq'
end

section
variable {P : Program} {Q : Exit → Act → World → Prop} {n : Nat} {F : Fr} {L : Slots} {B : Owns}
/-- Memory in a slot gets a name. -/
theorem Cod.nameC {c : Code} {t g : Nat} {C : CPred} (h1 : OneC C) (hl : lookB B t = some C) (ht : Nat.blt t n = true) (hg : lookB B g = none)
    (k : ∀ s, Cod P c Q n F ((t, ⟨True, isV s⟩) :: L) ((g, some (CPred.at s C)) :: (t, none) :: B)) : Cod P c Q n F L B := by
  intro a w hs
  obtain ⟨M, D, h⟩ := id hs
  have hC := h.hasB t _ hl
  refine k (Act.val a t) a w ⟨M, _, h.rekey hl hg hC fun t' e he => ?_⟩
  simp only [look] at he
  by_cases hne : t = t'
  · subst hne
    simp at he
    obtain rfl := he
    have hlt : t < a.tmps.size := by rw [h.size]; exact Nat.le_of_ble_eq_true ht
    obtain ⟨q1, q2⟩ := h1 _ _ _ _ hC
    refine ⟨Act.val a t, by unfold Act.val; simp [hlt], fun _ => rep_raw.2 ⟨rfl, q1, q2⟩, fun hf => (hf trivial).elim⟩
  · rw [beq_ne hne, cond_false] at he
    exact h.has t' e he
end
theorem noHole {i : Nat} : ∀ x ∈ ([] : List (Nat × Value)), x.1 ≠ i := by simp
/-! Loops whose rounds are walked one by one. -/
/-- What is to come at a loop's head. -/
def inLp (P : Program) (c : Code) (Q : Exit → Act → World → Prop) (a : Act) (w : World) : Prop :=
  ∀ (b : Frame) (k : List Item) (cs : List Frame), ∃ e a' w', Q e a' w' ∧ Arrives P (lone (b.at a (.code c :: .inLoop c :: k)) cs w) b k cs e a' w'
section
variable {Q : Exit → Act → World → Prop} {P : Program} {n : Nat} {F : Fr} {L : Slots} {B : Owns}
end

/-! A result of one's own that nobody writes. -/
end Go.DB

/-
  Arrays in place, looked into at any index; arrays of arrays.
-/
set_option linter.unusedVariables false
set_option linter.unusedSimpArgs false
namespace Go.DB
open Go Go.RowKit

theorem HasField.comp {α β γ : Type} [Rep α] [Rep β] [Rep γ] {o1 o2 : Nat} {p : α → β} {q : β → γ} (h : HasField α β o1 p) (h' : HasField β γ (0 + o2) q) : HasField α γ (o1 + o2) (fun x => q (p x)) := by
  rw [Nat.zero_add] at h'
  refine ⟨by have := h.1; have := h'.1; omega, fun M x cs w hc => ?_⟩
  obtain ⟨c1, hc1, hj1⟩ := h.2 M x cs w hc
  obtain ⟨c2, hc2, hj2⟩ := h'.2 M _ c1 w hc1
  refine ⟨c2, hc2, fun j hj => ?_⟩
  rw [hj2 j hj, hj1 (o2 + j) (by have := h'.1; omega), Nat.add_assoc]
theorem SetField.comp {α β γ : Type} [Rep α] [Rep β] [Rep γ] {o1 o2 : Nat} {p : α → β} {s : α → β → α} {q : β → γ → β} (h : HasField α β o1 p) (hs : SetField α β o1 s) (h' : SetField β γ (0 + o2) q) : SetField α γ (o1 + o2) (fun x z => s x (q (p x) z)) := by
  rw [Nat.zero_add] at h'
  refine ⟨by have := h.1; have := h'.1; omega, fun M x z cs zs w hc hz => ?_⟩
  obtain ⟨c1, hc1, hj1⟩ := h.2 M x cs w hc
  have l1 := Rep.len hc1
  have l0 := Rep.len hc
  have b1 := h.1
  have b2 := h'.1
  have e : c1 = (cs.drop o1).take (Rep.sz β) := by
    apply List.ext_getElem?
    intro j
    by_cases hj : j < Rep.sz β
    · rw [hj1 j hj, List.getElem?_take_of_lt hj, List.getElem?_drop]
    · rw [List.getElem?_eq_none (by omega), List.getElem?_eq_none (by simp; omega)]
  have := hs.2 M x (q (p x) z) cs _ w hc (h'.2 M _ z c1 zs w hc1 hz)
  have e2 : cs.take o1 ++ (c1.take o2 ++ zs ++ c1.drop (o2 + Rep.sz γ)) ++ cs.drop (o1 + Rep.sz β) = cs.take (o1 + o2) ++ zs ++ cs.drop (o1 + o2 + Rep.sz γ) := by
    rw [e]
    have t1 : ((cs.drop o1).take (Rep.sz β)).take o2 = (cs.drop o1).take o2 := by rw [List.take_take, Nat.min_eq_left (by omega)]
    have t2 : cs.take (o1 + o2) = cs.take o1 ++ (cs.drop o1).take o2 := List.take_add
    have t3 : ((cs.drop o1).take (Rep.sz β)).drop (o2 + Rep.sz γ) ++ cs.drop (o1 + Rep.sz β) = cs.drop (o1 + o2 + Rep.sz γ) := by
      have : cs.drop (o1 + Rep.sz β) = (cs.drop o1).drop (Rep.sz β) := by rw [List.drop_drop]
      rw [this, ← List.drop_append_of_le_length (by simp; omega), List.take_append_drop, List.drop_drop]
      congr 1; omega
    rw [t1, t2]
    simp only [List.append_assoc]
    rw [t3]
  rw [e2] at this
  exact this

section
variable {P : Program} {ops : Array Oper} {fs : Nat} {L : Slots} {B : Owns} {G : Prop}
variable {d : Option Tmp} {ty : TypeId} {pos : String} {after : Array Edge} {g : Option (Nat × Bool)} {xr : List Nat}
end
end Go.DB

/-
  Results that are nil exactly when they are empty.
-/
set_option linter.unusedVariables false
set_option linter.unusedSimpArgs false
namespace Go.DB
open Go Go.RowKit

/-- A list that is nil when it is empty. -/
def repN {α : Type} [Rep α] (l : List α) : SPred where
  p := fun M v w => (rep l).p M v w ∧ (l = [] → v = .slice none 0 0)
  law := fun M M' v w w' k hm h => ⟨(rep l).law M M' v w w' k hm h.1, h.2⟩
section
variable {P : Program} {ops : Array Oper} {fs : Nat} {L : Slots} {B : Owns} {G : Prop}
variable {d : Option Tmp} {ty : TypeId} {pos : String} {after : Array Edge} {g : Option (Nat × Bool)} {xr : List Nat}
variable {T T' E : TypeId} {x : Operand} {α : Type} [Rep α] {l : List α}
end
section
variable {P : Program} {ops : Array Oper} {fs : Nat} {L : Slots} {B : Owns} {ty : TypeId} {pos : String} {after : Array Edge}
end
end Go.DB

