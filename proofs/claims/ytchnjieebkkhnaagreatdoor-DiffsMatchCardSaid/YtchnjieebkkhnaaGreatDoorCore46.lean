/-
  Maps whose elements are maps of one's own.
-/
import Derived.Test.YtchnjieebkkhnaaGreatDoorCore45
set_option linter.unusedVariables false
set_option linter.unusedSimpArgs false
namespace Go.DB
open Go Go.RowKit

section
variable {K K2 V : Type} [Rep K] [Rep K2] [Rep V]

/-- What an entry's map is. -/
def FitM (M D : MSet) (w : World) : Option (GMap K2 V) → Option Raw → Prop
  | some l, some s => (mapV l).p M D s.v w
  | none, none => True
  | _, _ => False
theorem FitM.law {M M' D : MSet} {w w' : World} {a : Option (GMap K2 V)} {b : Option Raw} (hk : Keeps M w w') (hm : ∀ k, M' k → M k ∨ w.heap.size ≤ k) (ho : ∀ k, D k → M' k ∧ w'.heap[k]? = w.heap[k]?) (h : FitM M D w a b) : FitM M' D w' a b := by
  match a, b, h with
  | some l, some s, h => exact (mapV l).law M M' D s.v w w' hk hm ho h
  | none, none, h => exact h

/-- A map whose elements are maps of one's own; the one at the hole is taken out, its value is told. -/
def mapD (h : Option (K × Value)) (m : GMap K (GMap K2 V)) : CPred where
  p := fun M D v w => ∃ (r : GMap K Raw) (Dm : MSet) (Dr : K → MSet), (mapV r).p M Dm v w ∧ (∀ k s, h = some (k, s) → r.f k = some ⟨s⟩ ∧ (m.f k).isSome = true) ∧ (∀ k, (∀ s, h ≠ some (k, s)) → FitM M (Dr k) w (m.f k) (r.f k)) ∧
    (∀ j, D j → M j) ∧ (∀ j, (Dm j ∨ ∃ k, Dr k j) → D j) ∧ (∀ k j, Dr k j → ¬ Dm j) ∧ ∀ k k' j, Dr k j → Dr k' j → k = k'
  inM := fun M D v w ⟨r, Dm, Dr, _, _, _, h3, _⟩ k hk => h3 k hk
  law := fun M M' D v w w' hk hm hown ⟨r, Dm, Dr, h1, hp, h2, h3, h4, h5, h6⟩ => by
    have o1 : ∀ j, Dm j → D j := fun j h => h4 j (.inl h)
    have o2 : ∀ k j, Dr k j → D j := fun k j h => h4 j (.inr ⟨k, h⟩)
    exact ⟨r, Dm, Dr, (mapV r).law M M' Dm v w w' hk hm (fun j h => hown j (o1 j h)) h1, hp, fun k hn => (h2 k hn).law hk hm (fun j h => hown j (o2 k j h)), fun j h => (hown j h).1, h4, h5, h6⟩

variable {m : GMap K (GMap K2 V)} {M D : MSet} {v : Value} {w : World} {h : Option (K × Value)}
theorem mapD_map (h1 : (mapD h m).p M D v w) : ∃ b, v = .map (some b) := by
  obtain ⟨r, Dm, Dr, h1, _⟩ := h1
  exact mapV_map h1
theorem oneMapD : OneC (mapD h m) := fun _ _ _ _ h => by
  obtain ⟨b, hv⟩ := mapD_map h
  rw [hv]; exact ⟨rfl, rfl⟩

/-- An element's map is taken out. -/
theorem mapD_open {k : K} (hk : m.has k = true) (h : (mapD none m).p M D v w) : (deep (fun z => mapD (some (k, z)) m) (mapV (m.getD k GMap.nil))).p M D v w := by
  obtain ⟨r, Dm, Dr, h1, hp, h2, h3, h4, h5, h6⟩ := h
  have hf := h2 k (fun s e => by cases e)
  unfold GMap.has at hk
  cases hmk : m.f k with
  | none => rw [hmk] at hk; cases hk
  | some x =>
    rw [hmk] at hf
    cases hrk : r.f k with
    | none => rw [hrk] at hf; exact hf.elim
    | some s =>
      rw [hrk] at hf
      refine ⟨s.v, fun j => D j ∧ ¬ Dr k j, Dr k, ⟨r, Dm, fun k' j => k' ≠ k ∧ Dr k' j, h1, fun k' s' e => ?_, fun k' hn => ?_, fun j h => h3 j h.1, fun j h => ?_, fun k' j h => h5 k' j h.2, fun k1 k2 j a1 a2 => h6 k1 k2 j a1.2 a2.2⟩, ?_, fun j => ?_, fun j h h' => h.2 h'⟩
      · simp only [Option.some.injEq, Prod.mk.injEq] at e
        obtain ⟨rfl, rfl⟩ := e
        exact ⟨hrk, by rw [hmk]; rfl⟩
      · have hne : k' ≠ k := fun e => hn s.v (by rw [e])
        have e : (fun j => k' ≠ k ∧ Dr k' j) = Dr k' := by
          funext j; exact propext ⟨fun h => h.2, fun h => ⟨hne, h⟩⟩
        show FitM M (fun j => k' ≠ k ∧ Dr k' j) w _ _
        rw [e]; exact h2 k' (fun s e => by cases e)
      · rcases h with h | ⟨k', h, h'⟩
        · exact ⟨h4 j (.inl h), fun hd => h5 k j hd h⟩
        · exact ⟨h4 j (.inr ⟨k', h'⟩), fun hd => h (h6 k' k j h' hd)⟩
      · have e : m.getD k GMap.nil = x := by unfold GMap.getD; rw [hmk]; rfl
        rw [e]; exact hf
      · constructor
        · intro h
          by_cases hd : Dr k j
          · exact .inr hd
          · exact .inl ⟨h, hd⟩
        · rintro (h | h)
          · exact h.1
          · exact h4 j (.inr ⟨k, h⟩)
/-- It is put back. -/
theorem mapD_close [DecidableEq K] {k : K} {x : GMap K2 V} (h : (deep (fun z => mapD (some (k, z)) m) (mapV x)).p M D v w) : (mapD none (m.set k x)).p M D v w := by
  obtain ⟨z, D1, D2, ⟨r, Dm, Dr, h1, hp, h2, h3, h4, h5, h6⟩, hx, hD, hap⟩ := h
  obtain ⟨hrk, hmk⟩ := hp k z rfl
  have inD : ∀ j, D2 j → M j := fun j hj => CPred.inM _ M D2 _ w hx j hj
  refine ⟨r, Dm, fun k' j => if k' = k then D2 j else Dr k' j, h1, (fun k' s e => by cases e), fun k' _ => ?_, fun j h => ?_, fun j h => ?_, fun k' j h => ?_, fun k1 k2 j a1 a2 => ?_⟩
  · show FitM M (fun j => if k' = k then D2 j else Dr k' j) w (if k' = k then some x else m.f k') (r.f k')
    by_cases e : k' = k
    · subst e
      simp only [if_true]
      rw [hrk]; exact hx
    · simp only [if_neg e]
      exact h2 k' (fun s he => by simp only [Option.some.injEq, Prod.mk.injEq] at he; exact e he.1.symm)
  · rcases (hD j).1 h with h | h
    · exact h3 j h
    · exact inD j h
  · rcases h with h | ⟨k', h⟩
    · exact (hD j).2 (.inl (h4 j (.inl h)))
    · by_cases e : k' = k
      · rw [if_pos e] at h; exact (hD j).2 (.inr h)
      · rw [if_neg e] at h; exact (hD j).2 (.inl (h4 j (.inr ⟨k', h⟩)))
  · simp only at h
    by_cases e : k' = k
    · rw [if_pos e] at h
      exact fun hd => hap j (h4 j (.inl hd)) h
    · rw [if_neg e] at h; exact h5 k' j h
  · simp only at a1 a2
    by_cases c1 : k1 = k <;> by_cases c2 : k2 = k
    · rw [c1, c2]
    · rw [if_pos c1] at a1; rw [if_neg c2] at a2
      exact absurd a1 (hap j (h4 j (.inr ⟨k2, a2⟩)))
    · rw [if_neg c1] at a1; rw [if_pos c2] at a2
      exact absurd a2 (hap j (h4 j (.inr ⟨k1, a1⟩)))
    · rw [if_neg c1] at a1; rw [if_neg c2] at a2
      exact h6 k1 k2 j a1 a2
/-- Written no more. -/
theorem mapD_rep (h : (mapD none m).p M D v w) (hms : ∀ k, M k → k < w.heap.size) : (rep m).p (fun k => M k ∧ ¬ D k) v w := by
  obtain ⟨r, Dm, Dr, ⟨b, es, clock, l, hv, hD, hM, hh, hi⟩, _, h2, h3, h4, h5, h6⟩ := h
  have hfit : ∀ k s, r.f k = some s → ∃ x, m.f k = some x ∧ (mapV x).p M (Dr k) s.v w := fun k s hk => by
    have := h2 k (fun s e => by cases e)
    rw [hk] at this
    cases hm : m.f k with
    | none => rw [hm] at this; exact this.elim
    | some x => rw [hm] at this; exact ⟨x, rfl, this⟩
  have hnone : ∀ k, r.f k = none → m.f k = none := fun k hk => by
    have := h2 k (fun s e => by cases e)
    rw [hk] at this
    cases hm : m.f k with
    | none => rfl
    | some x => rw [hm] at this; exact this.elim
  refine rep_map.2 (.inr ⟨b, es, clock, l.map (fun x => (x.1, (m.f x.1).getD GMap.nil)), hv, fun hb => hb.2 (h4 b (.inl ((hD b).2 rfl))), hms b hM, hh, ⟨?_, ?_, hi.born, hi.low⟩⟩)
  · refine ⟨by rw [List.length_map]; exact hi.ents.1, fun j e x hj hx => ?_⟩
    rw [List.getElem?_map] at hx
    obtain ⟨y, hy, rfl⟩ := Option.map_eq_some_iff.1 hx
    obtain ⟨g1, g2⟩ := hi.ents.2 j e y hj hy
    have hr := (hi.lists.mem y.1 y.2).1 (List.mem_of_getElem? hy)
    obtain ⟨x, hm, hR⟩ := hfit _ _ hr
    have hval : e.val = y.2.v := (rep_raw.1 g2).1
    refine ⟨rep_less g1 (fun k hk => hk.1), ?_⟩
    show (rep ((m.f y.1).getD GMap.nil)).p _ e.val w
    rw [hm, Option.getD_some, hval]
    exact rep_less (mapV_rep hR hms) (fun k hk => ⟨hk.1, fun hd => hk.2 (h4 k (.inr ⟨_, hd⟩))⟩)
  · refine ⟨?_, fun k x => ?_⟩
    · rw [List.map_map]
      exact hi.lists.nodup
    · constructor
      · intro hin
        obtain ⟨y, hy, he⟩ := List.mem_map.1 hin
        have hr := (hi.lists.mem y.1 y.2).1 hy
        obtain ⟨v', hm, _⟩ := hfit _ _ hr
        simp only [Prod.mk.injEq] at he
        obtain ⟨rfl, rfl⟩ := he
        rw [hm]; rfl
      · intro hm
        cases hr : r.f k with
        | none => rw [hnone k hr] at hm; cases hm
        | some s => exact List.mem_map.2 ⟨(k, s), (hi.lists.mem k s).2 hr, by simp [hm]⟩
theorem frzMapD : FrzC (mapD none m) m := fun M D s w h hms => mapD_rep h hms
end
theorem FSpecO.frzD {P : Program} {f : Nat} {Ss : List SPred} {K K2 V : Type} [Rep K] [Rep K2] [Rep V] {m : GMap K (GMap K2 V)} (h : FSpecO P f Ss [] anyV [some (mapD none m)]) : FSpec P f Ss (rep m) := h.frzG (fun M D v w h hms => frzMapD M D v w h hms)

section
variable {P : Program} {ops : Array Oper} {fs : Nat} {L : Slots} {B : Owns} {G : Prop}
variable {ty : TypeId} {pos : String} {after : Array Edge} {g : Option (Nat × Bool)} {xr : List Nat} {d : Option Tmp}
variable {K K2 V : Type} [Rep K] [DecidableEq K] [MKey K] [Rep K2] [Rep V] {T kt et : TypeId} {m : GMap K (GMap K2 V)} {k : K} {hole : Option (K × Value)}

omit [DecidableEq K] [MKey K] in
theorem StepOK.makeMapD {d : Nat} (hd : Nat.blt d fs = true) :
    StepOK P ops fs ⟨some d, .makeMap T none, ty, pos, after, none⟩ L B ([], [d]) ⟨True, anyV⟩ [(d, some (mapD none (GMap.nil : GMap K (GMap K2 V))))] := by
  refine .doing fun M D a w hsz hm hs _ => ?_
  refine Does.value (v := .map (some w.heap.size)) (w' := w.alloc (.map #[] 0)) rfl (.one (fun k => M k ∨ k = w.heap.size) (fun k => k = w.heap.size) (Ext.alloc _ _) (fun k h => .inl h) (fun k h => h.imp id (by omega)) (fun k h => ?_) ⟨fun _ => trivial, fun hf => (hf trivial).elim⟩ ?_ (fun k h => by omega))
  · rw [size_new]
    rcases h with h | h
    · have := hm k h; omega
    · omega
  · rw [val_self (by rw [hsz]; exact Nat.le_of_ble_eq_true hd)]
    refine ⟨GMap.nil, fun k => k = w.heap.size, fun _ _ => False, ⟨w.heap.size, #[], 0, [], rfl, fun k => Iff.rfl, .inr rfl, ?_, ⟨Ents.nil, Lists.nil, by simp, by simp⟩⟩, (fun k s e => by cases e), fun k _ => trivial, fun j h => .inr h, fun j h => h.elim id (fun ⟨_, h⟩ => h.elim), fun _ _ h => h.elim, fun _ _ _ h => h.elim⟩
    show (w.heap.push _)[w.heap.size]? = _
    rw [Array.getElem?_push_size]
/-- What is read at the hole. -/
theorem StepOK.lookPin {q : Nat} {x y : Operand} {s z : Value} (hg : Guard ops g L G) (hT : MapOf P T kt et (MKey.desc K)) (hz : ZeroOf P et (⟨.map none⟩ : Raw)) (hx : Opd L G x (isV s)) (hq : lookB B q = some (CPred.at s (mapD (some (k, z)) m))) (hy : Opd L G y (rep k)) :
    StepOK P ops fs ⟨d, .lookup T x y false, ty, pos, after, g⟩ L B ([q], []) ⟨G, isV z⟩ [] :=
  .of hg fun M D a w hm hs hsB hG => by
    have he : a.eval x = s := (rep_raw.1 (hx.get hs (fun t ht => looksAt_op (by simp [Op.operands, ht])) hG)).1
    obtain ⟨r, Dm, Dr, ⟨b, es, clock, l, hv, hD, hM, hh, hi⟩, hp, _⟩ := hsB.has q (by simp) _ hq
    have hk := hy.get hs (fun t ht => looksAt_op (by simp [Op.operands, ht])) hG
    obtain ⟨u, hu, hr⟩ := run_lookupAt (z := (⟨.map none⟩ : Raw)) hT hz hk hh hi false
    have hrk := (hp k z rfl).1
    have e : r.getD k ⟨.map none⟩ = ⟨z⟩ := by unfold GMap.getD; rw [hrk]; rfl
    rw [e] at hu
    refine Does.value (v := u) (w' := w) ?_ ⟨Keeps.refl _ _, hu⟩
    simp only [execOp, he, hv]; rw [Sem.run_bind, hr]; rfl
/-- A map that is there or not. -/
def nilM (b : Bool) : SPred where
  p := fun M v w => (b = true ∧ v = .map none) ∨ (b = false ∧ ∃ j, v = .map (some j))
  law := fun M M' v w w' _ _ h => h
/-- What is read is there or not. -/
theorem StepOK.lookNilM {q : Nat} {x y : Operand} {s : Value} (hg : Guard ops g L G) (hT : MapOf P T kt et (MKey.desc K)) (hz : ZeroOf P et (⟨.map none⟩ : Raw)) (hx : Opd L G x (isV s)) (hq : lookB B q = some (CPred.at s (mapD none m))) (hy : Opd L G y (rep k)) :
    StepOK P ops fs ⟨d, .lookup T x y false, ty, pos, after, g⟩ L B ([q], []) ⟨G, nilM (!m.has k)⟩ [] :=
  .of hg fun M D a w hm hs hsB hG => by
    have he : a.eval x = s := (rep_raw.1 (hx.get hs (fun t ht => looksAt_op (by simp [Op.operands, ht])) hG)).1
    obtain ⟨r, Dm, Dr, ⟨b, es, clock, l, hv, hD, hM, hh, hi⟩, hp, h2, _⟩ := hsB.has q (by simp) _ hq
    have hk := hy.get hs (fun t ht => looksAt_op (by simp [Op.operands, ht])) hG
    obtain ⟨u, hu, hr⟩ := run_lookupAt (z := (⟨.map none⟩ : Raw)) hT hz hk hh hi false
    have hf := h2 k (fun s e => by cases e)
    have hu' : u = (r.getD k ⟨.map none⟩).v := (rep_raw.1 hu).1
    refine Does.value (v := u) (w' := w) ?_ ⟨Keeps.refl _ _, ?_⟩
    · simp only [execOp, he, hv]; rw [Sem.run_bind, hr]; rfl
    · show (_ ∧ _) ∨ (_ ∧ _)
      unfold GMap.has
      cases hmk : m.f k with
      | none =>
        rw [hmk] at hf
        cases hrk : r.f k with
        | none => left; exact ⟨rfl, by rw [hu']; simp [GMap.getD, hrk]⟩
        | some z => rw [hrk] at hf; exact hf.elim
      | some x =>
        rw [hmk] at hf
        cases hrk : r.f k with
        | none => rw [hrk] at hf; exact hf.elim
        | some z =>
          rw [hrk] at hf
          right
          refine ⟨rfl, ?_⟩
          rw [hu']
          simp only [GMap.getD, hrk, Option.getD_some]
          exact mapV_map hf
/-- A map is put into the map. -/
theorem StepOK.mapPutD {q t : Nat} {x y : Operand} {s : Value} {l : GMap K2 V} (hT : MapOf P T kt et (MKey.desc K)) (hqt : (q == t) = false) (hx : Opd L True x (isV s)) (hq : lookB B q = some (CPred.at s (mapD none m))) (ht : lookB B t = some (mapV l)) (htn : Nat.blt t fs = true) (hy : Opd L True y (rep k)) :
    StepOK P ops fs ⟨none, .mapUpdate T x y (.tmp t), ty, pos, after, none⟩ L B ([q, t], [q, t]) ⟨True, anyV⟩ [(q, some (CPred.at s (mapD none (m.set k l)))), (t, none)] := by
  have hqt : q ≠ t := by simpa using hqt
  refine .doing fun M D a w hsz hm hs hsB => ?_
  have he : a.eval x = s := (rep_raw.1 (hx.get hs (fun t ht => looksAt_op (by simp [Op.operands, ht])) trivial)).1
  obtain ⟨r, Dm, Dr, ⟨b, es, clock, es0, hv, hD, hM, hb, hi⟩, _, h2, h3, h4, h5, h6⟩ := hsB.has q (by simp) _ hq
  have hR := hsB.has t (by simp) _ ht
  have hap := hsB.apart q (by simp) t (by simp) _ _ hq ht hqt
  have hk := hy.get hs (fun t ht => looksAt_op (by simp [Op.operands, ht])) trivial
  obtain ⟨b2, hv2⟩ := mapV_map hR
  have hx2 : (rep (⟨Act.val a t⟩ : Raw)).p M (Act.val a t) w := rep_raw.2 ⟨rfl, by rw [hv2]; rfl, by rw [hv2]; rfl⟩
  obtain ⟨es', clock', l', hr, hi'⟩ := run_updateAt (x := (⟨Act.val a t⟩ : Raw)) hT hk hx2 hb hi
  have hkm : Keeps Dm w { w with heap := w.heap.setIfInBounds b (.map es' clock') } := keeps_set hD
  have hkq : Keeps (D q) w { w with heap := w.heap.setIfInBounds b (.map es' clock') } := hkm.mono (fun j _ h => h4 j (.inl h))
  have hkM : Keeps M w { w with heap := w.heap.setIfInBounds b (.map es' clock') } := hkm.mono (fun j _ h => (hD j).1 h ▸ hM)
  have same : ∀ j, j ≠ b → (w.heap.setIfInBounds b (.map es' clock'))[j]? = w.heap[j]? := fun j hj => by simp [Array.getElem?_setIfInBounds, Ne.symm hj]
  have inR : ∀ j, D t j → M j := fun j hj => CPred.inM _ M (D t) _ w hR j hj
  have nb : ∀ j, D t j → j ≠ b := fun j hj e => hap j (h4 j (.inl ((hD j).2 e))) hj
  refine Does.skip (w' := { w with heap := w.heap.setIfInBounds b (.map es' clock') }) ?_ rfl (.merge hq ht hkq (fun j h => by simpa using hm j h) ⟨fun _ => trivial, fun hf => (hf trivial).elim⟩ ?_)
  · have : a.eval (.tmp t) = Act.val a t := eval_val
    simp only [execOp, he, hv, this]; rw [Sem.run_bind, hr]; rfl
  · rw [val_none]
    have outR : ∀ k' j, Dr k' j → j ≠ b := fun k' j h e => h5 k' j h ((hD j).2 e)
    refine ⟨r.set k ⟨Act.val a t⟩, Dm, fun k' => if k' = k then D t else Dr k', ⟨b, es', clock', l', hv, hD, hM, set_self hb, hi'.stay hkM (fun _ h => h)⟩, (fun k' s e => by cases e), fun k' _ => ?_, fun j h => h.elim (h3 j) (inR j), fun j h => ?_, fun k' j h => ?_, fun k1 k2 j a1 a2 => ?_⟩
    · show FitM M (if k' = k then D t else Dr k') _ (if k' = k then some l else m.f k') (if k' = k then some ⟨Act.val a t⟩ else r.f k')
      by_cases hkk : k' = k
      · rw [if_pos hkk, if_pos hkk, if_pos hkk]
        exact (mapV l).law M M (D t) _ w _ hkM (fun _ h => .inl h) (fun j hj => ⟨inR j hj, same j (nb j hj)⟩) hR
      · rw [if_neg hkk, if_neg hkk, if_neg hkk]
        exact (h2 k' (fun s e => by cases e)).law hkM (fun _ h => .inl h) (fun j hj => ⟨h3 j (h4 j (.inr ⟨k', hj⟩)), same j (outR k' j hj)⟩)
    · rcases h with h | ⟨k', h⟩
      · exact .inl (h4 j (.inl h))
      · by_cases hkk : k' = k
        · rw [if_pos hkk] at h; exact .inr h
        · rw [if_neg hkk] at h; exact .inl (h4 j (.inr ⟨k', h⟩))
    · intro hd
      simp only at h
      by_cases hkk : k' = k
      · rw [if_pos hkk] at h; exact hap j (h4 j (.inl hd)) h
      · rw [if_neg hkk] at h; exact h5 k' j h hd
    · simp only at a1 a2
      by_cases c1 : k1 = k <;> by_cases c2 : k2 = k
      · rw [c1, c2]
      · rw [if_pos c1] at a1; rw [if_neg c2] at a2
        exact absurd a1 (hap j (h4 j (.inr ⟨k2, a2⟩)))
      · rw [if_neg c1] at a1; rw [if_pos c2] at a2
        exact absurd a2 (hap j (h4 j (.inr ⟨k1, a1⟩)))
      · rw [if_neg c1] at a1; rw [if_neg c2] at a2
        exact h6 k1 k2 j a1 a2
/-- An entry is dropped. -/
theorem StepOK.mapDelD {x y : Operand} {q : Nat} {s : Value} (hT : MapOf P T kt et (MKey.desc K)) (hx : Opd L True x (isV s)) (hq : lookB B q = some (CPred.at s (mapD none m))) (hy : Opd L True y (rep k)) :
    StepOK P ops fs ⟨none, .call { callee := .builtin .delete, args := #[x, y], argTypes := #[T, kt] }, ty, pos, after, none⟩ L B ([q], [q]) ⟨True, anyV⟩ [(q, some (CPred.at s (mapD none (m.del k))))] := by
  refine .doing fun M D a w hsz hm hs hsB => ?_
  have he : a.eval x = s := (rep_raw.1 (hx.get hs (fun t ht => looksAt_op (call_ops (by simp [ht]))) trivial)).1
  obtain ⟨r, Dm, Dr, ⟨b, es, clock, l, hv, hD, hM, hh, hi⟩, _, g2, g3, g4, g5, g6⟩ := hsB.has q (by simp) _ hq
  have h2 := hy.get hs (fun t ht => looksAt_op (call_ops (by simp [ht]))) trivial
  obtain ⟨es', l', hr, hi'⟩ := run_deleteAt hT h2 hh hi ty (ts := #[T, kt]) rfl
  have hk : Keeps Dm w { w with heap := w.heap.setIfInBounds b (.map es' clock) } := keeps_set hD
  have hkq : Keeps (D q) w { w with heap := w.heap.setIfInBounds b (.map es' clock) } := hk.mono (fun j _ h => g4 j (.inl h))
  have hkM : Keeps M w { w with heap := w.heap.setIfInBounds b (.map es' clock) } := hk.mono (fun j _ h => (hD j).1 h ▸ hM)
  have same : ∀ j, j ≠ b → (w.heap.setIfInBounds b (.map es' clock))[j]? = w.heap[j]? := fun j hj => by simp [Array.getElem?_setIfInBounds, Ne.symm hj]
  refine Does.value (v := .tuple #[]) ?_ (.turn hq hkq (fun j h => by simpa using hm j h) ⟨fun _ => trivial, fun hf => (hf trivial).elim⟩
    ⟨r.del k, Dm, Dr, ⟨b, es', clock, l', hv, hD, hM, set_self hh, hi'.stay hk (fun j h => (hD j).1 h ▸ hM)⟩, (fun k' s e => by cases e), fun k' _ => ?_, g3, g4, g5, g6⟩)
  · have e : (#[x, y] : Array Operand).map a.eval = #[.map (some b), a.eval y] := by simp [he, hv]
    generalize a.eval y = yv at e hr
    simp only [execOp, resolve, invoke, builtin, e]
    simp [go_sem]
    rw [hr]; rfl
  · show FitM M (Dr k') _ (if k' = k then none else m.f k') (if k' = k then none else r.f k')
    by_cases e : k' = k
    · rw [if_pos e, if_pos e]; trivial
    · rw [if_neg e, if_neg e]
      exact (g2 k' (fun s e => by cases e)).law hkM (fun _ h => .inl h) (fun j hj => ⟨g3 j (g4 j (.inr ⟨k', hj⟩)), same j (fun e2 => g5 k' j hj ((hD j).2 e2))⟩)
omit [DecidableEq K] [MKey K] [Rep K] [Rep K2] [Rep V] in
theorem run_eqNilM {a : Option Nat} {w : World} {p q : Operand} (hT : P.underlying T = some (.map kt et)) : (do eqGuard .eql T p q (.map a) (.map none); binOp .eql T (.map a) (.map none) : Sem Value).run P w = .ok (.bool a.isNone) w := by
  have hun : (underlying T).run P w = .ok (.map kt et) w := by simp [underlying, hT, go_sem]
  have h1 : (Op.equal T (.map a) (.map none)).run P w = .ok a.isNone w := by
    unfold Op.equal Op.maxDepth Op.equalIn
    rw [Sem.run_bind, hun]
    simp only [Result.andThen]
    cases a <;> rfl
  rw [Sem.run_bind, show (eqGuard .eql T p q (.map a) (.map none)).run P w = .ok () w from rfl]
  simp only [Result.andThen, binOp]
  rw [Sem.run_bind, h1]; rfl
omit [DecidableEq K] [MKey K] [Rep K] [Rep K2] [Rep V] in
theorem StepOK.eqNilM {T' : TypeId} {b : Bool} {x : Operand} (hg : Guard ops g L G) (hT : P.underlying T = some (.map kt et)) (hx : Opd L G x (nilM b)) :
    StepOK P ops fs ⟨d, .binOp .eql T x (.const (.map none)) T', ty, pos, after, g⟩ L B (xr, []) ⟨G, rep b⟩ [] :=
  .pure hg fun M a w _ hs hG => by
    have h := hx.get hs (fun t ht => looksAt_op (by simp [Op.operands, ht])) hG
    obtain ⟨o, hv, hb⟩ : ∃ o : Option Nat, a.eval x = .map o ∧ o.isNone = b := by
      rcases h with ⟨h1, h2⟩ | ⟨h1, j, h2⟩
      · exact ⟨none, h2, h1.symm⟩
      · exact ⟨some j, h2, h1.symm⟩
    refine ⟨.bool o.isNone, ?_, rep_bool.2 (by rw [hb])⟩
    simp only [execOp, hv]
    rw [Sem.run_bind]
    show ((do eqGuard .eql T x (.const (.map none)) (.map o) (.map none); binOp .eql T (.map o) (.map none) : Sem Value).run P w).andThen _ = _
    rw [run_eqNilM hT]; rfl
end

section
variable {Q : Exit → Act → World → Prop} {P : Program} {n : Nat} {F : Fr} {L : Slots} {B : Owns}
variable {K K2 V : Type} [Rep K] [Rep K2] [Rep V] {m : GMap K (GMap K2 V)} {s : Value}
theorem Cod.openM {c : Code} {q r : Nat} {k : K} (hl : lookB B q = some (CPred.at s (mapD none m))) (hg : lookB B r = none) (hk : m.has k = true)
    (h : ∀ z, Cod P c Q n F L ((r, some (CPred.at z (mapV (m.getD k GMap.nil)))) :: (q, some (CPred.at s (mapD (some (k, z)) m))) :: (q, some (CPred.at s (deep (fun z => mapD (some (k, z)) m) (mapV (m.getD k GMap.nil))))) :: B)) : Cod P c Q n F L B := by
  have hgk : ¬ q = r := fun e => by subst e; rw [hg] at hl; cases hl
  exact .tellK (C' := CPred.at s (deep (fun z => mapD (some (k, z)) m) (mapV (m.getD k GMap.nil)))) hl (fun M D v w h => by have h' : (mapD none m).p M D s w := h; exact mapD_open hk h') (.open (k := q) (g := r) lookB_self (by simp only [lookB]; rw [beq_ne hgk]; exact hg) h)
theorem Cod.closeM [DecidableEq K] {c : Code} {q r : Nat} {k : K} {z : Value} {x : GMap K2 V} (hl : lookB B q = some (CPred.at s (mapD (some (k, z)) m))) (hg : lookB B r = some (CPred.at z (mapV x))) (hgk : (r == q) = false)
    (h : Cod P c Q n F L ((q, some (CPred.at s (mapD none (m.set k x)))) :: (r, none) :: (q, some (CPred.at s (deep (fun z => mapD (some (k, z)) m) (mapV x)))) :: B)) : Cod P c Q n F L B := by
  have hgk' : ¬ r = q := by simpa using hgk
  exact .close (k := q) (g := r) (fun z => mapD (some (k, z)) m) hl hg hgk (.tellK (k := q) (C := CPred.at s (deep (fun z => mapD (some (k, z)) m) (mapV x))) (lookB_skip hgk') (fun M D v w h => by have h' : (deep (fun z => mapD (some (k, z)) m) (mapV x)).p M D s w := h; exact mapD_close h') h)
theorem Ends.closeM [DecidableEq K] {e : Exit} {q r : Nat} {k : K} {z : Value} {x : GMap K2 V} (hl : lookB B q = some (CPred.at s (mapD (some (k, z)) m))) (hg : lookB B r = some (CPred.at z (mapV x))) (hgk : (r == q) = false)
    (h : Ends Q e n F L ((q, some (CPred.at s (mapD none (m.set k x)))) :: (r, none) :: (q, some (CPred.at s (deep (fun z => mapD (some (k, z)) m) (mapV x)))) :: B)) : Ends Q e n F L B := by
  have hgk' : ¬ r = q := by simpa using hgk
  exact .close (k := q) (g := r) (fun z => mapD (some (k, z)) m) hl hg hgk (.tellK (k := q) (C := CPred.at s (deep (fun z => mapD (some (k, z)) m) (mapV x))) (lookB_skip hgk') (fun M D v w h => by have h' : (deep (fun z => mapD (some (k, z)) m) (mapV x)).p M D s w := h; exact mapD_close h') h)
end
end Go.DB
