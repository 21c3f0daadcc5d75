/- A part of the proof. -/
import Derived.Test.YtclcheggnlhamaaGreatDoorMovK2
import Derived.Laws.Cover1
import Derived.Lib.Overlaps
import Derived.Lib.AppendZerosOnto
import Derived.Shelf.Unicode.ValidAny
import Derived.Shelf.Strings.SlTrimAscii
set_option linter.unusedVariables false
set_option linter.unusedSimpArgs false
namespace Go.DB
open Go Go.RowKit
section
variable {K α : Type} [Rep K] [Rep α]
def FitR (E : Nat) (M D : MSet) (w : World) : Option (List α) → Option Raw → Prop
 | some l, some s => (rowV E l).p M D s.v w
 | none, none => ∀ j, ¬ D j
 | _, _ => False
theorem FitR.law {E : Nat} {M M' D : MSet} {w w' : World} {a : Option (List α)} {b : Option Raw} (hk : Keeps M w w') (hm : ∀ k, M' k → M k ∨ w.heap.size ≤ k) (ho : ∀ k, D k → M' k ∧ w'.heap[k]? = w.heap[k]?) (h : FitR E M D w a b) : FitR E M' D w' a b := by
 match a, b, h with
 | some l, some s, h => exact (rowV E l).law M M' D s.v w w' hk hm ho h
 | none, none, h => exact h
def mapH (E : Nat) (hole : K → Prop) (m : GMap K (List α)) : CPred where
 p := fun M D v w => ∃ (r : GMap K Raw) (Dm : MSet) (Dr : K → MSet), (mapV r).p M Dm v w ∧ (∀ k, ¬ hole k → FitR E M (Dr k) w (m.f k) (r.f k)) ∧ (∀ j, D j → M j) ∧
  (∀ j, (Dm j ∨ ∃ k, Dr k j) → D j) ∧ (∀ k j, Dr k j → ¬ Dm j) ∧ ∀ k k' j, Dr k j → Dr k' j → k = k'
 inM := fun M D v w ⟨r, Dm, Dr, h1, _, h3, h4, _⟩ k hk => h3 k hk
 law := fun M M' D v w w' hk hm hown ⟨r, Dm, Dr, h1, h2, h3, h4, h5, h6⟩ => by
  have o1 : ∀ j, Dm j → D j := fun j h => h4 j (.inl h)
  have o2 : ∀ k j, Dr k j → D j := fun k j h => h4 j (.inr ⟨k, h⟩)
  exact ⟨r, Dm, Dr, (mapV r).law M M' Dm v w w' hk hm (fun j h => hown j (o1 j h)) h1, fun k hn => (h2 k hn).law hk hm (fun j h => hown j (o2 k j h)), fun j h => (hown j h).1, h4, h5, h6⟩
abbrev mapW (E : Nat) (m : GMap K (List α)) : CPred := mapH E (fun _ => False) m
theorem mapW_map {E : Nat} {m : GMap K (List α)} {M D : MSet} {s : Value} {w : World} (h : (mapW E m).p M D s w) : ∃ b, s = .map (some b) := by
 obtain ⟨r, Dm, Dr, h1, _⟩ := h
 exact mapV_map h1
theorem oneMapW {E : Nat} {m : GMap K (List α)} : OneC (mapW E m) := fun _ _ _ _ h => by
 obtain ⟨b, hv⟩ := mapW_map h
 rw [hv]; exact ⟨rfl, rfl⟩
theorem mapW_rep {E : Nat} {m : GMap K (List α)} {M D : MSet} {w : World} {s : Value} (h : (mapW E m).p M D s w) (hms : ∀ k, M k → k < w.heap.size) : (rep m).p (fun k => M k ∧ ¬ D k) s w := by
 obtain ⟨r, Dm, Dr, ⟨b, es, clock, l, hv, hD, hM, hh, hi⟩, h2, h3, h4, h5, h6⟩ := h
 have hfit : ∀ k s, r.f k = some s → ∃ v, m.f k = some v ∧ (rowV E v).p M (Dr k) s.v w := fun k s hk => by
  have := h2 k (fun h => h)
  rw [hk] at this
  cases hm : m.f k with
  | none => rw [hm] at this; exact this.elim
  | some v => rw [hm] at this; exact ⟨v, rfl, this⟩
 have hnone : ∀ k, r.f k = none → m.f k = none := fun k hk => by
  have := h2 k (fun h => h)
  rw [hk] at this
  cases hm : m.f k with
  | none => rfl
  | some v => rw [hm] at this; exact this.elim
 refine rep_map.2 (.inr ⟨b, es, clock, l.map (fun x => (x.1, (m.f x.1).getD [])), hv, fun hb => hb.2 (h4 b (.inl ((hD b).2 rfl))), hms b hM, hh, ⟨?_, ?_, hi.born, hi.low⟩⟩)
 ·
  refine ⟨by rw [List.length_map]; exact hi.ents.1, fun j e x hj hx => ?_⟩
  rw [List.getElem?_map] at hx
  obtain ⟨y, hy, rfl⟩ := Option.map_eq_some_iff.1 hx
  obtain ⟨g1, g2⟩ := hi.ents.2 j e y hj hy
  have hr := (hi.lists.mem y.1 y.2).1 (List.mem_of_getElem? hy)
  obtain ⟨v, hm, hR⟩ := hfit _ _ hr
  have hval : e.val = y.2.v := (rep_raw.1 g2).1
  refine ⟨rep_less g1 (fun k hk => hk.1), ?_⟩
  show (rep ((m.f y.1).getD [])).p _ e.val w
  rw [hm, Option.getD_some, hval]
  refine rep_less (rowV_rep M (Dr y.1) w _ hR hms) (fun k hk => ⟨hk.1, fun hd => hk.2 (h4 k (.inr ⟨_, hd⟩))⟩)
 ·
  refine ⟨?_, fun k v => ?_⟩
  ·
   rw [List.map_map]
   exact hi.lists.nodup
  ·
   constructor
   ·
    intro hin
    obtain ⟨x, hx, he⟩ := List.mem_map.1 hin
    have hr := (hi.lists.mem x.1 x.2).1 hx
    obtain ⟨v', hm, _⟩ := hfit _ _ hr
    simp only [Prod.mk.injEq] at he
    obtain ⟨rfl, rfl⟩ := he
    rw [hm]; rfl
   ·
    intro hm
    cases hr : r.f k with
    | none => rw [hnone k hr] at hm; cases hm
    | some s => exact List.mem_map.2 ⟨(k, s), (hi.lists.mem k s).2 hr, by simp [hm]⟩
theorem frzMapW {E : Nat} {m : GMap K (List α)} : FrzC (mapW E m) m := fun M D s w h hms => mapW_rep h hms
end
section
variable {P : Program} {ops : Array Oper} {fs : Nat} {L : Slots} {B : Owns} {G : Prop}
variable {ty : TypeId} {pos : String} {after : Array Edge} {g : Option (Nat × Bool)} {xr : List Nat} {d : Option Tmp}
variable {K α : Type} [Rep K] [DecidableEq K] [MKey K] [Rep α] {T kt et : TypeId} {m : GMap K (List α)} {k : K}
omit [DecidableEq K] [MKey K] in
theorem StepOK.makeMapW {E d : Nat} (hd : Nat.blt d fs = true) :
  StepOK P ops fs ⟨some d, .makeMap T none, ty, pos, after, none⟩ L B ([], [d]) ⟨True, anyV⟩ [(d, some (mapW E (GMap.nil : GMap K (List α))))] := by
 refine .doing fun M D a w hsz hm hs _ => ?_
 refine Does.value (v := .map (some w.heap.size)) (w' := w.alloc (.map #[] 0)) rfl (.one (fun k => M k ∨ k = w.heap.size) (fun k => k = w.heap.size) (Ext.alloc _ _) (fun k h => .inl h) (fun k h => h.imp id (by omega)) (fun k h => ?_) ⟨fun _ => trivial, fun hf => (hf trivial).elim⟩ ?_ (fun k h => by omega))
 ·
  rw [size_new]
  rcases h with h | h
  ·
   have := hm k h; omega
  ·
   omega
 ·
  rw [val_self (by rw [hsz]; exact Nat.le_of_ble_eq_true hd)]
  refine ⟨GMap.nil, fun k => k = w.heap.size, fun _ _ => False, ⟨w.heap.size, #[], 0, [], rfl, fun k => Iff.rfl, .inr rfl, ?_, ⟨Ents.nil, Lists.nil, by simp, by simp⟩⟩, fun k _ => fun _ h => h, fun j h => .inr h, fun j h => h.elim id (fun ⟨_, h⟩ => h.elim), fun _ _ h => h.elim, fun _ _ _ h => h.elim⟩
  show (w.heap.push _)[w.heap.size]? = _
  rw [Array.getElem?_push_size]
theorem StepOK.mapTake {E d q : Nat} {x y : Operand} {s : Value} (hT : MapOf P T kt et (MKey.desc K)) (hz : ZeroOf P et (⟨.slice none 0 0⟩ : Raw)) (hd : Nat.blt d fs = true) (hdq : (d == q) = false) (hx : Opd L True x (isV s)) (hq : lookB B q = some (CPred.at s (mapW E m))) (hy : Opd L True y (rep k)) :
  StepOK P ops fs ⟨some d, .lookup T x y false, ty, pos, after, none⟩ L B ([q], [d, q]) ⟨True, anyV⟩ [(d, some (rowV E (m.getD k []))), (q, some (CPred.at s (mapH E (fun z => z = k) m)))] := by
 have hdq : d ≠ q := by simpa using hdq
 refine .doing fun M D a w hsz hm hs hsB => ?_
 have he : a.eval x = s := (rep_raw.1 (hx.get hs (fun t ht => looksAt_op (by simp [Op.operands, ht])) trivial)).1
 obtain ⟨r, Dm, Dr, ⟨b, es, clock, l, hv, hD, hM, hh, hi⟩, h2, h3, h4, h5, h6⟩ := hsB.has q (by simp) _ hq
 have hk := hy.get hs (fun t ht => looksAt_op (by simp [Op.operands, ht])) trivial
 obtain ⟨u, hu, hr⟩ := run_lookupAt (z := (⟨.slice none 0 0⟩ : Raw)) hT hz hk hh hi false
 have hu' : u = (r.getD k ⟨.slice none 0 0⟩).v := (rep_raw.1 hu).1
 refine Does.value (v := u) (w' := w) ?_ ?_
 ·
  simp only [execOp, he, hv]; rw [Sem.run_bind, hr]; rfl
 have mine : ∀ j, D q j → Mine [d, q] B D j := fun j hj => ⟨q, by simp, _, hq, hj⟩
 have cs : ∀ t c, lookB [(d, some (rowV E (m.getD k []))), (q, some (CPred.at s (mapH E (fun z => z = k) m)))] t = some c → (t = d ∧ c = rowV E (m.getD k [])) ∨ (t = q ∧ c = CPred.at s (mapH E (fun z => z = k) m)) := by
  intro t c hc
  simp only [lookB] at hc
  by_cases q1 : d = t
  ·
   subst q1; simp at hc; exact .inl ⟨rfl, hc.symm⟩
  ·
   rw [beq_ne q1, cond_false] at hc
   by_cases q2 : q = t
   ·
    subst q2; simp at hc; exact .inr ⟨rfl, hc.symm⟩
   ·
    rw [beq_ne q2, cond_false] at hc; cases hc
 refine ⟨M, fun t j => if t = d then Dr k j else (D q j ∧ ¬ Dr k j), Keeps.refl _ _, fun j h => .inl h, fun j h => .inl h, hm, ⟨fun _ => trivial, fun hf => (hf trivial).elim⟩, fun t c hc => ?_, fun t t' c c' hc hc' hne => ?_⟩
 ·
  rcases cs t c hc with ⟨rfl, rfl⟩ | ⟨rfl, rfl⟩
  ·
   simp only [if_pos rfl]
   refine ⟨?_, fun j hj => .inl (mine j (h4 j (.inr ⟨k, hj⟩)))⟩
   rw [val_self (by rw [hsz]; exact Nat.le_of_ble_eq_true hd)]
   have hf := h2 k (fun h => h)
   cases hmk : m.f k with
   | none =>
    rw [hmk] at hf
    cases hrk : r.f k with
    | none =>
     rw [hrk] at hf
     have hu2 : u = .slice none 0 0 := by rw [hu']; simp [GMap.getD, hrk]
     have e : m.getD k [] = [] := by simp [GMap.getD, hmk]
     rw [hu2, e]
     exact ⟨none, 0, rfl, Nat.le_refl _, by omega, rfl, rfl, hf⟩
    | some z => rw [hrk] at hf; exact hf.elim
   | some v =>
    rw [hmk] at hf
    cases hrk : r.f k with
    | none => rw [hrk] at hf; exact hf.elim
    | some z =>
     rw [hrk] at hf
     have hu2 : u = z.v := by rw [hu']; simp [GMap.getD, hrk]
     have e : m.getD k [] = v := by simp [GMap.getD, hmk]
     rw [hu2, e]
     exact hf
  ·
   have hne : t ≠ d := fun e => hdq e.symm
   simp only [if_neg hne]
   refine ⟨⟨r, Dm, fun k' j => k' ≠ k ∧ Dr k' j, ⟨b, es, clock, l, hv, hD, hM, hh, hi⟩, fun k' hn => ?_, fun j h => h3 j h.1, fun j h => ⟨h4 j (h.imp id (fun ⟨k', h⟩ => ⟨k', h.2⟩)), fun hd => h.elim (fun h => h5 _ _ hd h) (fun ⟨k', h, h'⟩ => h (h6 _ _ _ h' hd))⟩, fun k' j h => h5 k' j h.2, fun k1 k2 j a1 a2 => h6 k1 k2 j a1.2 a2.2⟩, fun j hj => .inl (mine j hj.1)⟩
   have hf := h2 k' (fun h => h)
   have e : (fun j => k' ≠ k ∧ Dr k' j) = Dr k' := by
    funext j; exact propext ⟨fun h => h.2, fun h => ⟨hn, h⟩⟩
   show FitR E M (fun j => k' ≠ k ∧ Dr k' j) w _ _
   rw [e]; exact hf
 ·
  intro j hj hj'
  rcases cs t c hc with ⟨rfl, _⟩ | ⟨rfl, _⟩ <;> rcases cs t' c' hc' with ⟨rfl, _⟩ | ⟨rfl, _⟩
  ·
   exact hne rfl
  ·
   simp only [if_pos rfl] at hj
   simp only [if_neg (Ne.symm hdq)] at hj'
   exact hj'.2 hj
  ·
   simp only [if_pos rfl] at hj'
   simp only [if_neg (Ne.symm hdq)] at hj
   exact hj.2 hj'
  ·
   exact hne rfl
theorem StepOK.mapPut {E q t : Nat} {x y : Operand} {s : Value} {hole : K → Prop} {l : List α} (hT : MapOf P T kt et (MKey.desc K)) (hqt : (q == t) = false) (hx : Opd L True x (isV s)) (hq : lookB B q = some (CPred.at s (mapH E hole m))) (hh : ∀ z, hole z → z = k) (ht : lookB B t = some (rowV E l)) (htn : Nat.blt t fs = true) (hy : Opd L True y (rep k)) :
  StepOK P ops fs ⟨none, .mapUpdate T x y (.tmp t), ty, pos, after, none⟩ L B ([q, t], [q, t]) ⟨True, anyV⟩ [(q, some (CPred.at s (mapW E (m.set k l)))), (t, none)] := by
 have hqt : q ≠ t := by simpa using hqt
 refine .doing fun M D a w hsz hm hs hsB => ?_
 have he : a.eval x = s := (rep_raw.1 (hx.get hs (fun t ht => looksAt_op (by simp [Op.operands, ht])) trivial)).1
 obtain ⟨r, Dm, Dr, ⟨b, es, clock, es0, hv, hD, hM, hb, hi⟩, h2, h3, h4, h5, h6⟩ := hsB.has q (by simp) _ hq
 have hR := hsB.has t (by simp) _ ht
 have hap := hsB.apart q (by simp) t (by simp) _ _ hq ht hqt
 have hk := hy.get hs (fun t ht => looksAt_op (by simp [Op.operands, ht])) trivial
 obtain ⟨o1, o2⟩ := row_one hR
 have hx2 : (rep (⟨Act.val a t⟩ : Raw)).p M (Act.val a t) w := rep_raw.2 ⟨rfl, o1, o2⟩
 obtain ⟨es', clock', l', hr, hi'⟩ := run_updateAt (x := (⟨Act.val a t⟩ : Raw)) hT hk hx2 hb hi
 have hkm : Keeps Dm w { w with heap := w.heap.setIfInBounds b (.map es' clock') } := keeps_set hD
 have hkq : Keeps (D q) w { w with heap := w.heap.setIfInBounds b (.map es' clock') } := hkm.mono (fun j _ h => h4 j (.inl h))
 have hkM : Keeps M w { w with heap := w.heap.setIfInBounds b (.map es' clock') } := hkm.mono (fun j _ h => (hD j).1 h ▸ hM)
 have same : ∀ j, j ≠ b → (w.heap.setIfInBounds b (.map es' clock'))[j]? = w.heap[j]? := fun j hj => by simp [Array.getElem?_setIfInBounds, Ne.symm hj]
 have inR : ∀ j, D t j → M j := fun j hj => CPred.inM _ M (D t) _ w hR j hj
 have nb : ∀ j, D t j → j ≠ b := fun j hj e => hap j (h4 j (.inl ((hD j).2 e))) hj
 refine Does.skip (w' := { w with heap := w.heap.setIfInBounds b (.map es' clock') }) ?_ rfl (.merge hq ht hkq (fun j h => by simpa using hm j h) ⟨fun _ => trivial, fun hf => (hf trivial).elim⟩ ?_)
 ·
  have : a.eval (.tmp t) = Act.val a t := eval_val
  simp only [execOp, he, hv, this]; rw [Sem.run_bind, hr]; rfl
 ·
  rw [val_none]
  have outR : ∀ k' j, Dr k' j → j ≠ b := fun k' j h e => h5 k' j h ((hD j).2 e)
  refine ⟨r.set k ⟨Act.val a t⟩, Dm, fun k' => if k' = k then D t else Dr k', ⟨b, es', clock', l', hv, hD, hM, set_self hb, hi'.stay hkM (fun _ h => h)⟩, fun k' _ => ?_, fun j h => h.elim (h3 j) (inR j), fun j h => ?_, fun k' j h => ?_, fun k1 k2 j a1 a2 => ?_⟩
  ·
   show FitR E M (if k' = k then D t else Dr k') _ (if k' = k then some l else m.f k') (if k' = k then some ⟨Act.val a t⟩ else r.f k')
   by_cases hkk : k' = k
   ·
    rw [if_pos hkk, if_pos hkk, if_pos hkk]
    exact (rowV E l).law M M (D t) _ w _ hkM (fun _ h => .inl h) (fun j hj => ⟨inR j hj, same j (nb j hj)⟩) hR
   ·
    rw [if_neg hkk, if_neg hkk, if_neg hkk]
    exact (h2 k' (fun h => hkk (hh k' h))).law hkM (fun _ h => .inl h) (fun j hj => ⟨h3 j (h4 j (.inr ⟨k', hj⟩)), same j (outR k' j hj)⟩)
  ·
   rcases h with h | ⟨k', h⟩
   ·
    exact .inl (h4 j (.inl h))
   ·
    by_cases hkk : k' = k
    ·
     rw [if_pos hkk] at h; exact .inr h
    ·
     rw [if_neg hkk] at h; exact .inl (h4 j (.inr ⟨k', h⟩))
  ·
   intro hd
   simp only at h
   by_cases hkk : k' = k
   ·
    rw [if_pos hkk] at h; exact hap j (h4 j (.inl hd)) h
   ·
    rw [if_neg hkk] at h; exact h5 k' j h hd
  ·
   simp only at a1 a2
   by_cases c1 : k1 = k <;> by_cases c2 : k2 = k
   ·
    rw [c1, c2]
   ·
    rw [if_pos c1] at a1; rw [if_neg c2] at a2
    exact absurd a1 (hap j (h4 j (.inr ⟨k2, a2⟩)))
   ·
    rw [if_neg c1] at a1; rw [if_pos c2] at a2
    exact absurd a2 (hap j (h4 j (.inr ⟨k1, a1⟩)))
   ·
    rw [if_neg c1] at a1; rw [if_neg c2] at a2
    exact h6 k1 k2 j a1 a2
end
section
variable {P : Program} {Q : Exit → Act → World → Prop} {n : Nat} {F : Fr} {L : Slots} {B : Owns} {K α : Type} [Rep K] [Rep α] {m : GMap K (List α)}
end
theorem Opd.s {L : Slots} {G : Prop} {t : Nat} {S : SPred} (h : look L t = some ⟨True, S⟩) : Opd L G (.tmp t) S := .tmp h fun _ => trivial
instance {α : Type} [Rep α] : Rep (Option α) where
 sz := 1
 agg := false
 cells := fun M o cs w => ∃ v, cs = [v] ∧ ((v = .pointer none ∧ o = none) ∨ ∃ x, o = some x ∧ (ref x).p M v w)
 len := fun ⟨v, h, _⟩ => by rw [h]; rfl
 pos := by decide
 flat := fun ⟨v, h, hv⟩ => by
  subst h
  rcases hv with ⟨rfl, _⟩ | ⟨x, _, b, off, cs, rfl, _⟩ <;> rfl
 plain := fun ⟨v, h, hv⟩ c hc => by
  subst h; simp at hc; subst hc
  rcases hv with ⟨rfl, _⟩ | ⟨x, _, b, off, cs, rfl, _⟩ <;> rfl
 law := fun {M M' x cs w w'} hk hm ⟨v, h, hv⟩ => ⟨v, h, by
  rcases hv with hv | ⟨x, h1, h2⟩
  ·
   exact .inl hv
  ·
   exact .inr ⟨x, h1, (ref x).law _ _ _ _ _ hk hm h2⟩⟩
theorem rep_ptr {α : Type} [Rep α] {o : Option α} {M : MSet} {v : Value} {w : World} : (rep o).p M v w ↔ (v = .pointer none ∧ o = none) ∨ ∃ x, o = some x ∧ (ref x).p M v w := by
 constructor
 ·
  rintro ⟨cs, ⟨u, h, hu⟩, hv⟩
  subst h
  have : v = u := hv
  rw [this]; exact hu
 ·
  intro h
  exact ⟨[v], ⟨v, rfl, h⟩, rfl⟩
theorem ref_of {α : Type} [Rep α] {x : α} {o : Option α} (h : o = some x) {M : MSet} {v : Value} {w : World} (hr : (rep o).p M v w) : (ref x).p M v w := by
 subst h
 rcases rep_ptr.1 hr with ⟨_, h⟩ | ⟨y, h, hy⟩
 ·
  cases h
 ·
  cases h; exact hy
theorem ptr_zero {α : Type} [Rep α] {M : MSet} {w : World} : Rep.cells M (none : Option α) [.pointer none] w := ⟨_, rfl, .inl ⟨rfl, rfl⟩⟩
theorem Imp.refSome {α : Type} [Rep α] {x : α} : Imp (ref x) (rep (some x)) := fun M v w h => rep_ptr.2 (.inr ⟨x, rfl, h⟩)
section
variable {P : Program} {ops : Array Oper} {fs : Nat} {L : Slots} {B : Owns} {G : Prop}
theorem StepOK.isRef {o : Oper} {x : Aux} {α : Type} [Rep α] {e : Option α} {v : α} {Ws : Writes} (hv : e = some v) (h : StepOK P ops fs o L B x ⟨G, rep e⟩ Ws) : StepOK P ops fs o L B x ⟨G, ref v⟩ Ws := by
 intro M D a w h1 h2 h3 h4
 have q := h M D a w h1 h2 h3 h4
 have hh : ∀ M' u w', (⟨G, rep e⟩ : Ent).holds M' u w' → (⟨G, ref v⟩ : Ent).holds M' u w' := fun M' u w' hp => ⟨fun hc => ref_of hv (hp.1 hc), hp.2⟩
 split
 ·
  rename_i hw
  rw [if_pos hw] at q
  refine Does.mono q fun u w' hL => ?_
  cases Ws with
  | nil => exact ⟨hL.1, hh _ _ _ hL.2⟩
  | cons W Ws =>
   obtain ⟨M', D', a1, a2, a3, a4, a5, a6⟩ := hL
   exact ⟨M', D', a1, a2, a3, a4, hh _ _ _ a5, a6⟩
 ·
  rename_i hw
  rw [if_neg hw] at q
  exact ⟨q.1, hh _ _ _ q.2⟩
variable {d : Option Tmp} {ty : TypeId} {pos : String} {after : Array Edge}
end
section
variable {P : Program} {Q : Exit → Act → World → Prop} {n : Nat} {F : Fr} {L : Slots} {B : Owns}
theorem Cod.isRef {α : Type} [Rep α] {c : Code} {t : Nat} {e : Option α} {v : α} {q : Prop} (hv : e = some v) (hl : look L t = some ⟨q, rep e⟩) (hq : q)
  (k : Cod P c Q n F ((t, ⟨True, ref v⟩) :: L) B) : Cod P c Q n F L B := by
 intro a w hs
 obtain ⟨M, D, h⟩ := id hs
 refine k a w ⟨M, D, { h with has := fun t' en he => ?_ }⟩
 simp only [look] at he
 by_cases hne : t = t'
 ·
  subst hne
  simp at he; subst he
  obtain ⟨u, h1, h2⟩ := h.has t _ hl
  exact ⟨u, h1, fun _ => ref_of hv (h2.1 hq), fun hf => (hf trivial).elim⟩
 ·
  rw [beq_ne hne, cond_false] at he; exact h.has t' en he
end
end Go.DB
namespace Go.DB
open Go Go.RowKit
instance : Inhabited Raw := ⟨⟨.slice none 0 0⟩⟩
section
variable {P : Program} {ops : Array Oper} {fs : Nat} {L : Slots} {B : Owns} {G : Prop}
variable {d : Option Tmp} {ty : TypeId} {pos : String} {after : Array Edge} {g : Option (Nat × Bool)} {xr : List Nat}
end
end Go.DB
namespace Go.DB
open Go Go.RowKit
theorem cells_one {β : Type} [Rep β] {x : β} {M : MSet} {cs : List Value} {w : World} (h1 : Rep.sz β = 1) (ha : Rep.agg β = false) (hc : Rep.cells M x cs w) : ∃ v, cs = [v] ∧ Rep.cells M (⟨v⟩ : Raw) cs w := by
 have hl := Rep.len hc
 rw [h1] at hl
 match cs, hl with
 | [v], _ =>
  refine ⟨v, rfl, rfl, Rep.plain hc v (by simp), ?_⟩
  have := Rep.flat hc
  rw [ha] at this
  exact this
section
variable {P : Program} {ops : Array Oper} {fs : Nat} {L : Slots} {B : Owns} {G : Prop}
variable {ty : TypeId} {pos : String} {after : Array Edge} {g : Option (Nat × Bool)} {xr : List Nat} {d : Option Tmp}
theorem StepOK.storeRowF {T T' m off k t E : Nat} {p : Operand} {α γ δ : Type} [Rep α] [Rep γ] [Rep δ] {y0 : γ} {l : List α} {set : Value → δ} (hT : Ty P T (List α)) (hl : lookB B k = some (boxAt m T' y0)) (hp : Opd L True p (isV (ptr m off)))
  (hle : off + 1 ≤ Rep.sz γ) (hF : ∀ (M : MSet) (s : Value) (cs : List Value) (w : World), Rep.cells M y0 cs w → Rep.cells M (⟨s⟩ : Raw) [s] w → Rep.cells M (set s) (cs.take off ++ [s] ++ cs.drop (off + 1)) w) (ht : lookB B t = some (rowV E l)) (hkt : (k == t) = false) :
  StepOK P ops fs ⟨none, .store T p (.tmp t), ty, pos, after, none⟩ L B ([k, t], [k, t]) ⟨True, anyV⟩ [(k, some (CPred.at (ptr m 0) (deep (fun s => cont T' (set s)) (rowV E l)))), (t, none)] := by
 have hkt : k ≠ t := by simpa using hkt
 refine .doing fun M D a w hsz hm hs hsB => ?_
 obtain ⟨m', old, hvm, hD, hM, hh, hold⟩ := hsB.has k (by simp) _ hl
 obtain rfl : m = m' := by simp [ptr] at hvm; exact hvm
 have hR := hsB.has t (by simp) _ ht
 have hap := hsB.apart k (by simp) t (by simp) _ _ hl ht hkt
 have hxv : a.eval (.tmp t) = Act.val a t := eval_val
 obtain ⟨ad, cap, hsl, _⟩ := id hR
 have hz : Rep.cells M (⟨Act.val a t⟩ : Raw) [Act.val a t] w := ⟨rfl, by rw [hsl]; rfl, by rw [hsl]; rfl⟩
 have hat : a.eval p = ptr m off := (rep_raw.1 (hp.get hs (fun t ht => looksAt_op (by simp [Op.operands, ht])) trivial)).1
 have hlo := Rep.len hold
 have hsplit : old = old.take off ++ (old.drop off).take 1 ++ old.drop (off + 1) := by
  rw [← List.drop_drop, List.append_assoc, List.take_append_drop, List.take_append_drop]
 obtain ⟨w', h1, h2, h3, h4, h5, h6, h7⟩ := run_storeAt (w := w) (m := m) (off := off) (cs := [Act.val a t]) (pre := old.take off) (mid := (old.drop off).take 1) (rest := old.drop (off + 1)) hT rfl
  (by rw [List.length_take, List.length_drop]; show _ = 1; omega) (by rw [List.length_take]; omega) (Rep.plain hz) (show (Act.val a t).cells = #[Act.val a t] by rw [hsl]; rfl) (by rw [← hsplit]; exact hh)
 have hkeep : Keeps (D k) w w' := ⟨h3, h4, h5, by omega, fun j _ hn => h7 j (fun e => hn ((hD j).2 e))⟩
 have hkM : Keeps M w w' := ⟨h3, h4, h5, by omega, fun j _ hn => h7 j (fun e => hn (e ▸ hM))⟩
 refine Does.skip (w' := w') (ex_store (by rw [hat, hxv]; exact h1)) rfl (.merge hl ht hkeep (fun j h => by rw [h6]; exact hm j h) ⟨fun _ => trivial, fun hf => (hf trivial).elim⟩ ?_)
 refine ⟨Act.val a t, D k, D t, ⟨m, _, rfl, hD, hM, h2, hF M _ old w' (Rep.law hkM (fun _ h => .inl h) hold) (Rep.law hkM (fun _ h => .inl h) hz)⟩, ?_, fun _ => Iff.rfl, fun j h1 h2 => hap j h1 h2⟩
 exact (rowV E l).law M M (D t) _ w w' hkM (fun _ h => .inl h) (fun j hj => ⟨(rowV E l).inM _ _ _ _ hR j hj, h7 j (fun e => hap j ((hD j).2 e) hj)⟩) hR
theorem StepOK.storeRowD {T T' m off k t E : Nat} {p : Operand} {α γ δ : Type} [Rep α] [Rep γ] [Rep δ] {R0 : CPred} {mk : Value → γ} {l : List α} {set : Value → Value → δ} (hT : Ty P T (List α)) (hl : lookB B k = some (CPred.at (ptr m 0) (deep (fun z => cont T' (mk z)) R0))) (hp : Opd L True p (isV (ptr m off)))
  (hle : off + 1 ≤ Rep.sz γ) (hF : ∀ (M : MSet) (z s : Value) (cs : List Value) (w : World), Rep.cells M (mk z) cs w → Rep.cells M (⟨s⟩ : Raw) [s] w → Rep.cells M (set s z) (cs.take off ++ [s] ++ cs.drop (off + 1)) w) (ht : lookB B t = some (rowV E l)) (hkt : (k == t) = false) :
  StepOK P ops fs ⟨none, .store T p (.tmp t), ty, pos, after, none⟩ L B ([k, t], [k, t]) ⟨True, anyV⟩ [(k, some (CPred.at (ptr m 0) (deep (fun s => deep (fun z => cont T' (set s z)) R0) (rowV E l)))), (t, none)] := by
 have hkt : k ≠ t := by simpa using hkt
 refine .doing fun M D a w hsz hm hs hsB => ?_
 have hK := hsB.has k (by simp) _ hl
 obtain ⟨z, D1, D2, ⟨m', old, hvm, hD, hM, hh, hold⟩, hR0, e1, a1⟩ := id hK
 obtain rfl : m = m' := by simp [ptr] at hvm; exact hvm
 have hR := hsB.has t (by simp) _ ht
 have hap := hsB.apart k (by simp) t (by simp) _ _ hl ht hkt
 have hxv : a.eval (.tmp t) = Act.val a t := eval_val
 obtain ⟨ad, cap, hsl, _⟩ := id hR
 have hz : Rep.cells M (⟨Act.val a t⟩ : Raw) [Act.val a t] w := ⟨rfl, by rw [hsl]; rfl, by rw [hsl]; rfl⟩
 have hat : a.eval p = ptr m off := (rep_raw.1 (hp.get hs (fun t ht => looksAt_op (by simp [Op.operands, ht])) trivial)).1
 have hlo := Rep.len hold
 have hsplit : old = old.take off ++ (old.drop off).take 1 ++ old.drop (off + 1) := by
  rw [← List.drop_drop, List.append_assoc, List.take_append_drop, List.take_append_drop]
 obtain ⟨w', h1, h2, h3, h4, h5, h6, h7⟩ := run_storeAt (w := w) (m := m) (off := off) (cs := [Act.val a t]) (pre := old.take off) (mid := (old.drop off).take 1) (rest := old.drop (off + 1)) hT rfl
  (by rw [List.length_take, List.length_drop]; show _ = 1; omega) (by rw [List.length_take]; omega) (Rep.plain hz) (show (Act.val a t).cells = #[Act.val a t] by rw [hsl]; rfl) (by rw [← hsplit]; exact hh)
 have dk : D k m := (e1 m).2 (.inl ((hD m).2 rfl))
 have hkeep : Keeps (D k) w w' := ⟨h3, h4, h5, by omega, fun j _ hn => h7 j (fun e => hn (e ▸ dk))⟩
 have hkM : Keeps M w w' := ⟨h3, h4, h5, by omega, fun j _ hn => h7 j (fun e => hn (e ▸ hM))⟩
 have hinK : ∀ j, D k j → M j := fun j hj => CPred.inM _ M (D k) _ w hK j hj
 refine Does.skip (w' := w') (ex_store (by rw [hat, hxv]; exact h1)) rfl (.merge hl ht hkeep (fun j h => by rw [h6]; exact hm j h) ⟨fun _ => trivial, fun hf => (hf trivial).elim⟩ ?_)
 refine ⟨Act.val a t, D k, D t, ⟨z, D1, D2, ⟨m, _, rfl, hD, hM, h2, hF M z _ old w' (Rep.law hkM (fun _ h => .inl h) hold) (Rep.law hkM (fun _ h => .inl h) hz)⟩, ?_, e1, a1⟩, ?_, fun _ => Iff.rfl, fun j h1 h2 => hap j h1 h2⟩
 ·
  exact R0.law M M D2 z w w' hkM (fun _ h => .inl h) (fun j hj => ⟨hinK j ((e1 j).2 (.inr hj)), h7 j (fun e => a1 m ((hD m).2 rfl) (e ▸ hj))⟩) hR0
 ·
  exact (rowV E l).law M M (D t) _ w w' hkM (fun _ h => .inl h) (fun j hj => ⟨(rowV E l).inM _ _ _ _ hR j hj, h7 j (fun e => hap m dk (e ▸ hj))⟩) hR
theorem StepOK.storeAtH {T T' m g : Nat} {p x : Operand} {α0 α : Type} [Rep α0] [Rep α] {y0 : α0} {z : α} (hT : Ty P T α) (hsz0 : Rep.sz α0 = Rep.sz α) (hl : lookB B g = some (boxAt m T' y0)) (hp : Opd L True p (isV (ptr m 0))) (hx : Opd L True x (rep z)) :
  StepOK P ops fs ⟨none, .store T p x, ty, pos, after, none⟩ L B ([g], [g]) ⟨True, anyV⟩ [(g, some (boxAt m T' z))] := by
 refine .doing fun M D a w hsz hm hs hsB => ?_
 obtain ⟨m', old, hvm, hD, hM, hh, hold⟩ := hsB.has g (by simp) _ hl
 obtain rfl : m = m' := by simp [ptr] at hvm; exact hvm
 have hat : a.eval p = ptr m 0 := (rep_raw.1 (hp.get hs (fun t ht => looksAt_op (by simp [Op.operands, ht])) trivial)).1
 obtain ⟨cs, hc, hv⟩ := hx.get hs (fun t ht => looksAt_op (by simp [Op.operands, ht])) trivial
 obtain ⟨w', h1, h2, h3, h4, h5, h6, h7⟩ := run_storeAt (w := w) (m := m) (off := 0) (cs := cs) (pre := []) (mid := old) (rest := []) hT (Rep.len hc) ((Rep.len hold).trans hsz0) rfl (Rep.plain hc) (Rep.flat hc) (by simpa using hh)
 have hkeep : Keeps (D g) w w' := ⟨h3, h4, h5, by omega, fun j _ hn => h7 j (fun e => hn ((hD j).2 e))⟩
 have hkM : Keeps M w w' := ⟨h3, h4, h5, by omega, fun j _ hn => h7 j (fun e => hn (e ▸ hM))⟩
 refine Does.skip (w' := w') (ex_store (by rw [hat, hv]; exact h1)) rfl (.turn hl hkeep (fun j h => by rw [h6]; exact hm j h) ⟨fun _ => trivial, fun hf => (hf trivial).elim⟩ ?_)
 exact ⟨m, cs, rfl, hD, hM, by simpa using h2, Rep.law hkM (fun _ h => .inl h) hc⟩
end
section
variable {P : Program} {fn : Func} {n : Nat} {F : Fr} {L : Slots} {B : Owns}
theorem Ends.ret1S {e : Exit} (he : e = .ret ∨ e = .normal) {t T T' m K : Nat} {α : Type} [Rep α] {R1 R2 : CPred} {mk : Value → Value → α} {c : Prop} (hT : Ty P T α) (hr : fn.results = #[.cell t T])
  (hl : look L t = some ⟨c, isV (ptr m 0)⟩) (hc : c) (hB : lookB B K = some (CPred.at (ptr m 0) (deep (fun s1 => deep (fun s2 => cont T' (mk s1 s2)) R2) R1))) :
  Ends (bodyPost P fn (PostO F anyV [] [some (deep (fun s1 => deep (fun s2 => valV (mk s1 s2)) R2) R1)])) e n F L B := by
 rintro a w ⟨M, D, hs⟩
 have hK := hs.hasB K _ hB
 obtain ⟨s1, D1, D2, ⟨s2, D3, D4, ⟨m', cs, hvm, hD, hM, hh, hcs⟩, hR2, e1, a1⟩, hR1, e2, a2⟩ := id hK
 obtain rfl : m = m' := by simp [ptr] at hvm; exact hvm
 obtain ⟨v, hv, hev⟩ := hs.has t _ hl
 obtain ⟨rfl, _⟩ := rep_raw.1 (hev.1 hc)
 have hrun : (resVal a.tmps (.cell t T)).run P w = .ok (mkv (Rep.agg α) cs) w := by
  have h1 := run_loadAt (P := P) hT hcs (b := m) (off := 0) (fun j _ => by rw [cell_of_heap hh]; simp)
  simp only [Instr.loadAt, Instr.sureAddr] at h1
  rw [Sem.run_bind] at h1
  simp only [Sem.run_pure, Result.andThen] at h1
  simp only [resVal, Array.getD_eq_getD_getElem?, hv, Option.getD_some, asAddr]
  rw [Sem.run_bind]
  simp only [Sem.run_pure, Result.andThen]
  exact h1
 have hd : ∀ j, (D4 j ∨ D2 j) → D K j := fun j h => (e2 j).2 (h.imp (fun h => (e1 j).2 (.inr h)) id)
 have hpost : a.defers = [] ∧ ∃ v, (results fn a.tmps).run P w = .ok v w ∧ PostO F anyV [] [some (deep (fun s1 => deep (fun s2 => valV (mk s1 s2)) R2) R1)] (.returned v) w := by
  refine ⟨hs.defers, _, results_one hr hrun, _, M, fun _ j => D4 j ∨ D2 j, rfl, hs.keeps, hs.mlow, hs.mhigh, hs.msub, trivial, fun i c hi => ?_, fun i j c c' hi hj hne => ?_⟩
  ·
   match i, hi with
   | 0, hi =>
    simp only [List.getElem?_cons_zero, Option.some.injEq] at hi
    subst hi
    exact ⟨⟨s1, D4, D2, ⟨s2, NoM, D4, ⟨fun k h => h, cs, hcs, rfl⟩, hR2, fun j => ⟨fun h => .inr h, fun h => h.elim (fun h => h.elim) id⟩, fun j h => h.elim⟩, hR1, fun j => Iff.rfl, fun j h => a2 j ((e1 j).2 (.inr h))⟩, fun k hk => hs.own K _ hB k (hd k hk)⟩
   | i + 1, hi => simp at hi
  ·
   match i, j, hi, hj with
   | 0, 0, _, _ => omega
   | i + 1, _, hi, _ => simp at hi
   | _, j + 1, _, hj => simp at hj
 rcases he with rfl | rfl <;> exact hpost
end
end Go.DB
namespace Go.DB
open Go Go.RowKit
section
variable {P : Program} {ops : Array Oper} {fs : Nat} {L : Slots} {B : Owns} {G : Prop}
variable {ty : TypeId} {pos : String} {after : Array Edge} {g : Option (Nat × Bool)} {xr : List Nat} {d : Option Tmp}
end
section
variable {Q : Exit → Act → World → Prop} {n : Nat} {F : Fr} {L : Slots} {B : Owns}
end
end Go.DB
namespace Go.DB
open Go Go.RowKit
section
variable {P : Program} {ops : Array Oper} {fs : Nat} {L : Slots} {B : Owns} {G : Prop}
variable {ty : TypeId} {pos : String} {after : Array Edge} {g : Option (Nat × Bool)} {xr : List Nat}
end
end Go.DB
namespace Go.DB
open Go Go.RowKit
section
variable {α β ρ : Type} [Rep β] [Rep ρ]
def rowD (E E2 : Nat) (mk : α → Value → ρ) (sub : α → List β) (hs : List (Nat × Value)) (l : List α) : CPred where
 p := fun M D v w => ∃ (ss : List Value) (Dm : MSet) (Dr : Nat → MSet), ss.length = l.length ∧ (rowV E (List.zipWith mk l ss)).p M Dm v w ∧ (∀ x ∈ hs, ss[x.1]? = some x.2) ∧
  (∀ (i : Nat) a s, l[i]? = some a → ss[i]? = some s → (∀ x ∈ hs, x.1 ≠ i) → (rowV E2 (sub a)).p M (Dr i) s w) ∧ (∀ j, D j → M j) ∧ (∀ j, (Dm j ∨ ∃ i, Dr i j) → D j) ∧ (∀ i j, Dr i j → ¬ Dm j) ∧ ∀ i i' j, Dr i j → Dr i' j → i = i'
 inM := fun M D v w ⟨ss, Dm, Dr, _, _, _, _, h, _⟩ k hk => h k hk
 law := fun M M' D v w w' hk hm hown ⟨ss, Dm, Dr, h1, h2, h3, h4, h5, h6, h7, h8⟩ =>
  ⟨ss, Dm, Dr, h1, (rowV E _).law M M' Dm v w w' hk hm (fun j h => hown j (h6 j (.inl h))) h2, h3, fun i a s ha hs hn => (rowV E2 _).law M M' (Dr i) s w w' hk hm (fun j h => hown j (h6 j (.inr ⟨i, h⟩))) (h4 i a s ha hs hn), fun j h => (hown j h).1, h6, h7, h8⟩
variable {E E2 : Nat} {mk : α → Value → ρ} {sub : α → List β} {hs : List (Nat × Value)} {l : List α} {M D : MSet} {v : Value} {w : World}
omit [Rep β] [Rep ρ] in
theorem zw_len {ss : List Value} (h : ss.length = l.length) : (List.zipWith mk l ss).length = l.length := by rw [List.length_zipWith]; omega
theorem rowD_open [Inhabited α] {i : Int} (hi : inR l i) (hn : ∀ x ∈ hs, x.1 ≠ i.toNat) (h : (rowD E E2 mk sub hs l).p M D v w) :
  (deep (fun z => rowD E E2 mk sub ((i.toNat, z) :: hs) l) (rowV E2 (sub (gx l i)))).p M D v w := by
 obtain ⟨h0, h1'⟩ := hi
 obtain ⟨k, rfl⟩ : ∃ k : Nat, i = k := ⟨i.toNat, by omega⟩
 have hk : k < l.length := by omega
 simp only [Int.toNat_natCast] at hn ⊢
 obtain ⟨ss, Dm, Dr, h1, h2, h3, h4, h5, h6, h7, h8⟩ := h
 have hks : k < ss.length := by omega
 have hg : gx l (k : Int) = l[k] := by simp [gx, hk]
 refine ⟨ss[k], fun j => D j ∧ ¬ Dr k j, Dr k, ⟨ss, Dm, fun i j => i ≠ k ∧ Dr i j, h1, h2, fun x hx => ?_, fun i a s ha hs' hx => ?_, fun j h => h5 j h.1, fun j h => ?_, fun i j h => h7 i j h.2, fun i i' j h h' => h8 i i' j h.2 h'.2⟩, ?_, fun j => ?_, fun j h h' => h.2 h'⟩
 ·
  rcases List.mem_cons.1 hx with e | e
  ·
   subst e; exact List.getElem?_eq_getElem hks
  ·
   exact h3 x e
 ·
  have hik : i ≠ k := fun e => hx (k, ss[k]) List.mem_cons_self e.symm
  have e := h4 i a s ha hs' (fun x h => hx x (List.mem_cons_of_mem _ h))
  have : (fun j => i ≠ k ∧ Dr i j) = Dr i := by funext j; simp [hik]
  show (rowV E2 (sub a)).p M (fun j => i ≠ k ∧ Dr i j) s w
  rw [this]; exact e
 ·
  rcases h with h | ⟨i, h, h'⟩
  ·
   exact ⟨h6 j (.inl h), fun hd => h7 k j hd h⟩
  ·
   exact ⟨h6 j (.inr ⟨i, h'⟩), fun hd => h (h8 i k j h' hd)⟩
 ·
  rw [hg]
  exact h4 k l[k] ss[k] (List.getElem?_eq_getElem hk) (List.getElem?_eq_getElem hks) hn
 ·
  constructor
  ·
   intro h
   by_cases hd : Dr k j
   ·
    exact .inr hd
   ·
    exact .inl ⟨h, hd⟩
  ·
   rintro (h | h)
   ·
    exact h.1
   ·
    exact h6 j (.inr ⟨k, h⟩)
omit [Rep β] [Rep ρ] in
theorem zw_set {ss : List Value} {k : Nat} {a a' : α} (hk : k < l.length) (ha : l[k] = a) (hm : ∀ s, mk a' s = mk a s) : List.zipWith mk (l.set k a') ss = List.zipWith mk l ss := by
 refine List.ext_getElem (by simp) fun j h1 h2 => ?_
 rw [List.getElem_zipWith, List.getElem_zipWith, List.getElem_set]
 split
 ·
  rename_i e; subst e; rw [hm, ha]
 ·
  rfl
theorem rowD_close [Inhabited α] {i : Int} {a' : α} {x : List β} (hi : inR l i) (hn : ∀ y ∈ hs, y.1 ≠ i.toNat) (hm : ∀ s, mk a' s = mk (gx l i) s) (hx : sub a' = x)
  (h : (deep (fun z => rowD E E2 mk sub ((i.toNat, z) :: hs) l) (rowV E2 x)).p M D v w) : (rowD E E2 mk sub hs (l.set i.toNat a')).p M D v w := by
 obtain ⟨h0, h1'⟩ := hi
 obtain ⟨k, rfl⟩ : ∃ k : Nat, i = k := ⟨i.toNat, by omega⟩
 have hk : k < l.length := by omega
 simp only [Int.toNat_natCast] at hn h ⊢
 have hg : gx l (k : Int) = l[k] := by simp [gx, hk]
 obtain ⟨z, D1, D2, ⟨ss, Dm, Dr, h1, h2, h3, h4, h5, h6, h7, h8⟩, hR, hD, hap⟩ := h
 have hks : k < ss.length := by omega
 have hz : ss[k] = z := by
  have := h3 (k, z) List.mem_cons_self
  rw [List.getElem?_eq_getElem hks] at this
  exact Option.some.inj this
 refine ⟨ss, Dm, fun i j => (i = k ∧ D2 j) ∨ (i ≠ k ∧ Dr i j), by simpa using h1, by rw [zw_set hk hg.symm hm]; exact h2, fun x hx => h3 x (List.mem_cons_of_mem _ hx), fun i a s ha hs' hno => ?_, fun j h => ?_, fun j h => ?_, fun i j h => ?_, fun i i' j h h' => ?_⟩
 ·
  rw [List.getElem?_set] at ha
  by_cases e : k = i
  ·
   subst e
   rw [if_pos rfl, if_pos hk] at ha
   obtain rfl := Option.some.inj ha
   rw [List.getElem?_eq_getElem hks] at hs'
   obtain rfl := Option.some.inj hs'
   have : (fun j => (k = k ∧ D2 j) ∨ (k ≠ k ∧ Dr k j)) = D2 := by funext j; simp
   show (rowV E2 (sub a')).p M (fun j => (k = k ∧ D2 j) ∨ (k ≠ k ∧ Dr k j)) ss[k] w
   rw [this, hx, hz]; exact hR
  ·
   rw [if_neg e] at ha
   have e' : i ≠ k := fun h => e h.symm
   have : (fun j => (i = k ∧ D2 j) ∨ (i ≠ k ∧ Dr i j)) = Dr i := by funext j; simp [e']
   show (rowV E2 (sub a)).p M (fun j => (i = k ∧ D2 j) ∨ (i ≠ k ∧ Dr i j)) s w
   rw [this]
   refine h4 i a s ha hs' (fun x hx => ?_)
   rcases List.mem_cons.1 hx with q | q
   ·
    subst q; exact e
   ·
    exact hno x q
 ·
  rcases (hD j).1 h with h | h
  ·
   exact h5 j h
  ·
   exact (rowV E2 x).inM _ _ _ _ hR j h
 ·
  refine (hD j).2 ?_
  rcases h with h | ⟨i, ⟨_, h⟩ | ⟨_, h⟩⟩
  ·
   exact .inl (h6 j (.inl h))
  ·
   exact .inr h
  ·
   exact .inl (h6 j (.inr ⟨i, h⟩))
 ·
  intro hd
  rcases h with ⟨_, h⟩ | ⟨_, h⟩
  ·
   exact hap j (h6 j (.inl hd)) h
  ·
   exact h7 i j h hd
 ·
  rcases h with ⟨e, h⟩ | ⟨e, h⟩ <;> rcases h' with ⟨e', h'⟩ | ⟨e', h'⟩
  ·
   omega
  ·
   exact absurd h (hap j (h6 j (.inr ⟨i', h'⟩)))
  ·
   exact absurd h' (hap j (h6 j (.inr ⟨i, h⟩)))
  ·
   exact h8 i i' j h h'
theorem rowD_rep [Rep α] (hsz : Rep.sz ρ = Rep.sz α) (hF : ∀ (M : MSet) (a : α) (s : Value) (cs : List Value) (w : World), Rep.cells M (mk a s) cs w → (rep (sub a)).p M s w → Rep.cells M a cs w)
  (h : (rowD E E2 mk sub [] l).p M D v w) (hms : ∀ k, M k → k < w.heap.size) : (rep l).p (fun k => M k ∧ ¬ D k) v w := by
 obtain ⟨ss, Dm, Dr, h1, h2, h3, h4, h5, h6, h7, h8⟩ := h
 have hr := rep_less (M' := fun k => M k ∧ ¬ D k) (rowV_rep M Dm w v h2 hms) (fun k hk => ⟨hk.1, fun h => hk.2 (h6 k (.inl h))⟩)
 obtain ⟨a, cap, e1, e2, e3, e4⟩ := rep_list.1 hr
 rw [zw_len h1] at e1 e2
 refine rep_list.2 ⟨a, cap, e1, e2, e3, ?_⟩
 cases a with
 | none =>
  have : List.zipWith mk l ss = [] := e4
  have hl : l.length = 0 := by rw [← zw_len (mk := mk) h1, this]; rfl
  exact List.length_eq_zero_iff.1 hl
 | some ad =>
  intro q hq
  have hq' : q < (List.zipWith mk l ss).length := by rw [zw_len h1]; exact hq
  have hqs : q < ss.length := by omega
  obtain ⟨g1, g2, g3, cs, g4, g5⟩ := e4 q hq'
  refine ⟨g1, g2, g3, cs, ?_, fun k hk => ?_⟩
  ·
   rw [List.getElem_zipWith] at g4
   refine hF _ _ _ _ _ g4 ?_
   have := h4 q l[q] ss[q] (List.getElem?_eq_getElem hq) (List.getElem?_eq_getElem hqs) (by simp)
   exact rep_less (rowV_rep M (Dr q) w _ this hms) (fun k hk => ⟨hk.1, fun h => hk.2 (h6 k (.inr ⟨q, h⟩))⟩)
  ·
   rw [← g5 k (by rw [hsz]; exact hk), hsz]
end
section
variable {Q : Exit → Act → World → Prop} {P : Program} {n : Nat} {F : Fr} {L : Slots} {B : Owns}
theorem lookB_self {k : Nat} {C : Option CPred} : lookB ((k, C) :: B) k = C := by simp [lookB]
theorem lookB_skip {g k : Nat} {C C' : Option CPred} (h : ¬ g = k) : lookB ((g, C') :: (k, C) :: B) k = C := by simp only [lookB]; rw [beq_ne h]; simp
theorem Cod.tellK {c : Code} {k : Nat} {C C' : CPred} (hl : lookB B k = some C) (h : ∀ M D v w, C.p M D v w → C'.p M D v w) (hc : Cod P c Q n F L ((k, some C') :: B)) : Cod P c Q n F L B := by
 rintro a w ⟨M, D, hs⟩
 exact hc a w ⟨M, D, hs.retell hl (h _ _ _ _ (hs.hasB k _ hl))⟩
theorem Ends.tellK {e : Exit} {k : Nat} {C C' : CPred} (hl : lookB B k = some C) (h : ∀ M D v w, C.p M D v w → C'.p M D v w) (hc : Ends Q e n F L ((k, some C') :: B)) : Ends Q e n F L B := by
 rintro a w ⟨M, D, hs⟩
 exact hc a w ⟨M, D, hs.retell hl (h _ _ _ _ (hs.hasB k _ hl))⟩
variable {α β ρ : Type} [Rep β] [Rep ρ] [Inhabited α] {E E2 : Nat} {mk : α → Value → ρ} {sub : α → List β} {hs : List (Nat × Value)} {l : List α} {s : Value}
theorem Cod.openD {c : Code} {k g : Nat} {i : Int} (hl : lookB B k = some (CPred.at s (rowD E E2 mk sub hs l))) (hg : lookB B g = none) (hi : inR l i) (hn : ∀ x ∈ hs, x.1 ≠ i.toNat)
  (h : ∀ z, Cod P c Q n F L ((g, some (CPred.at z (rowV E2 (sub (gx l i))))) :: (k, some (CPred.at s (rowD E E2 mk sub ((i.toNat, z) :: hs) l))) :: (k, some (CPred.at s (deep (fun z => rowD E E2 mk sub ((i.toNat, z) :: hs) l) (rowV E2 (sub (gx l i)))))) :: B)) : Cod P c Q n F L B := by
 have hgk : ¬ k = g := fun e => by subst e; rw [hg] at hl; cases hl
 exact .tellK (C' := CPred.at s (deep (fun z => rowD E E2 mk sub ((i.toNat, z) :: hs) l) (rowV E2 (sub (gx l i))))) hl (fun M D v w h => by have h' : (rowD E E2 mk sub hs l).p M D s w := h; exact rowD_open hi hn h') (.open (k := k) (g := g) lookB_self (by simp only [lookB]; rw [beq_ne hgk]; exact hg) h)
theorem Ends.closeD {e : Exit} {k g : Nat} {i : Int} {z : Value} {x : List β} (a' : α) (hl : lookB B k = some (CPred.at s (rowD E E2 mk sub ((i.toNat, z) :: hs) l))) (hg : lookB B g = some (CPred.at z (rowV E2 x))) (hgk : (g == k) = false) (hi : inR l i) (hn : ∀ y ∈ hs, y.1 ≠ i.toNat)
  (hm : ∀ s, mk a' s = mk (gx l i) s) (hx : sub a' = x)
  (h : Ends Q e n F L ((k, some (CPred.at s (rowD E E2 mk sub hs (l.set i.toNat a')))) :: (g, none) :: (k, some (CPred.at s (deep (fun z => rowD E E2 mk sub ((i.toNat, z) :: hs) l) (rowV E2 x)))) :: B)) : Ends Q e n F L B := by
 have hgk' : ¬ g = k := by simpa using hgk
 exact .close (k := k) (g := g) (fun z => rowD E E2 mk sub ((i.toNat, z) :: hs) l) hl hg hgk (.tellK (k := k) (C := CPred.at s (deep (fun z => rowD E E2 mk sub ((i.toNat, z) :: hs) l) (rowV E2 x))) (lookB_skip hgk') (fun M D v w h => by have h' : (deep (fun z => rowD E E2 mk sub ((i.toNat, z) :: hs) l) (rowV E2 x)).p M D s w := h; exact rowD_close hi hn hm hx h') h)
end
section
variable {P : Program} {ops : Array Oper} {fs : Nat} {L : Slots} {B : Owns} {G : Prop}
variable {ty : TypeId} {pos : String} {after : Array Edge} {g : Option (Nat × Bool)} {xr : List Nat} {d : Option Tmp}
variable {α β ρ : Type} [Rep β] [Rep ρ] [Inhabited α] {E E2 : Nat} {mk : α → Value → ρ} {sub : α → List β} {hs : List (Nat × Value)} {l : List α} {s : Value}
omit [Inhabited α] in
theorem StepOK.viaD {o : Oper} {k : Nat} {e : Ent} {xr : List Nat} (hk : lookB B k = some (CPred.at s (rowD E E2 mk sub hs l))) (hx : k ∈ xr)
  (h : ∀ ss : List Value, ss.length = l.length → (∀ x ∈ hs, ss[x.1]? = some x.2) → StepOK P ops fs o L ((k, some (CPred.at s (rowV E (List.zipWith mk l ss)))) :: B) (xr, []) e []) : StepOK P ops fs o L B (xr, []) e [] := by
 intro M D a w h1 h2 h3 h4
 obtain ⟨ss, Dm, Dr, g1, g2, g3, g4, g5, g6, g7, g8⟩ : (rowD E E2 mk sub hs l).p M (D k) s w := h4.has k (by simp [hx]) _ hk
 have hD : ∀ t j, (if t = k then Dm else D t) j → D t j := fun t j hj => by
  by_cases e : t = k
  ·
   subst e; rw [if_pos rfl] at hj; exact g6 j (.inl hj)
  ·
   rw [if_neg e] at hj; exact hj
 have cs : ∀ t c, lookB ((k, some (CPred.at s (rowV E (List.zipWith mk l ss)))) :: B) t = some c → (t = k ∧ c = CPred.at s (rowV E (List.zipWith mk l ss))) ∨ (t ≠ k ∧ lookB B t = some c) := by
  intro t c hc
  simp only [lookB] at hc
  by_cases e : k = t
  ·
   subst e; simp at hc; exact .inl ⟨rfl, hc.symm⟩
  ·
   rw [beq_ne e, cond_false] at hc; exact .inr ⟨Ne.symm e, hc⟩
 have old : ∀ t c, lookB ((k, some (CPred.at s (rowV E (List.zipWith mk l ss)))) :: B) t = some c → ∃ c', lookB B t = some c' := fun t c hc => by
  rcases cs t c hc with ⟨rfl, _⟩ | ⟨_, h⟩
  ·
   exact ⟨_, hk⟩
  ·
   exact ⟨_, h⟩
 have := h ss g1 g3 M (fun t => if t = k then Dm else D t) a w h1 h2 h3 ⟨fun t ht c hc => ?_, fun t1 m1 t2 m2 c1 c2 q1 q2 hne j j1 j2 => ?_⟩
 ·
  split at this
  ·
   rename_i hw
   rw [if_pos hw]
   exact this
  ·
   rename_i hw
   rw [if_neg hw]
   exact this
 ·
  rcases cs t c hc with ⟨rfl, rfl⟩ | ⟨e, h⟩
  ·
   rw [if_pos rfl]; exact g2
  ·
   rw [if_neg e]; exact h4.has t ht c h
 ·
  obtain ⟨c1', r1⟩ := old t1 c1 q1
  obtain ⟨c2', r2⟩ := old t2 c2 q2
  exact h4.apart t1 m1 t2 m2 _ _ r1 r2 hne j (hD t1 j j1) (hD t2 j j2)
omit [Rep β] [Rep ρ] in
theorem gx_zw [Inhabited ρ] {ss : List Value} {i : Int} {z : Value} (hi : inR l i) (hs : ss[i.toNat]? = some z) : gx (List.zipWith mk l ss) i = mk (gx l i) z := by
 obtain ⟨h0, h1⟩ := hi
 have hk : i.toNat < l.length := by omega
 unfold gx
 rw [List.getElem?_zipWith, hs, List.getElem?_eq_getElem hk]
 rfl
omit [Rep β] [Rep ρ] [Inhabited α] in
theorem inR_zw {ss : List Value} {i : Int} (hi : inR l i) (h : ss.length = l.length) : inR (List.zipWith mk l ss) i := by
 obtain ⟨h0, h1⟩ := hi
 exact ⟨h0, by rw [zw_len h]; exact h1⟩
omit [Inhabited α] in
theorem StepOK.lenD {x : Operand} {T E' k : Nat} (hT : SliceOf P T E') (hx : Opd L True x (isV s)) (hk : lookB B k = some (CPred.at s (rowD E E2 mk sub hs l))) :
  StepOK P ops fs ⟨d, .call { callee := .builtin .len, args := #[x], argTypes := #[T] }, ty, pos, after, none⟩ L B ([k], []) ⟨True, rep (l.length : Int)⟩ [] :=
 .viaD hk (by simp) fun ss h _ => .re (e := ((List.zipWith mk l ss).length : Int)) (by rw [zw_len h]) (StepOK.lenO (k := k) (T' := E) (l := List.zipWith mk l ss) hT (.told hx lookB_self))
omit [Inhabited α] in
theorem StepOK.indexAddrD {T E' k : Nat} {x i : Operand} {j : Int} (hT : SliceOf P T E') (hE : Ty P E' ρ) (hx : Opd L True x (isV s)) (hk : lookB B k = some (CPred.at s (rowD E E2 mk sub hs l))) (hi : Opd L True i (rep j)) (hb : inR l j) :
  StepOK P ops fs ⟨d, .indexAddr T x i, ty, pos, after, none⟩ L B ([k], []) ⟨True, isV (elemPtr s (j.toNat * Rep.sz ρ + 0))⟩ [] :=
 .viaD hk (by simp) fun ss h _ => .indexAddrO (k := k) (E' := E) (l := List.zipWith mk l ss) .none hT hE hx lookB_self hi (fun _ => inR_zw hb h)
theorem StepOK.loadElemD {γ : Type} [Rep γ] [Inhabited ρ] {T k off : Nat} {x : Operand} {j : Int} {z : Value} {proj : ρ → γ} {y : γ} (hT : Ty P T γ) (hx : Opd L True x (isV (elemPtr s (j.toNat * Rep.sz ρ + off)))) (hk : lookB B k = some (CPred.at s (rowD E E2 mk sub hs l)))
  (hH : HasField ρ γ off proj) (hb : inR l j) (hz : (j.toNat, z) ∈ hs) (hy : y = proj (mk (gx l j) z)) :
  StepOK P ops fs ⟨d, .load T x, ty, pos, after, none⟩ L B ([k], []) ⟨True, rep y⟩ [] :=
 .viaD hk (by simp) fun ss h hh => .re (by rw [hy, gx_zw hb (hh _ hz)]) (StepOK.loadElem (k := k) (E' := E) (l := List.zipWith mk l ss) (proj := proj) .none hT hx lookB_self hH (fun _ => inR_zw hb h))
omit [Rep β] [Rep ρ] [Inhabited α] in
theorem zw_put {ss : List Value} {k : Nat} {a' : α} {z : Value} (hk : k < l.length) (h : ss.length = l.length) : (List.zipWith mk l ss).set k (mk a' z) = List.zipWith mk (l.set k a') (ss.set k z) := by
 refine List.ext_getElem (by simp) fun j h1 h2 => ?_
 rw [List.getElem_set, List.getElem_zipWith, List.getElem_zipWith, List.getElem_set, List.getElem_set]
 split <;> rfl
end
section
variable {P : Program} {Q : Exit → Act → World → Prop} {n : Nat} {F : Fr} {L : Slots} {B : Owns}
end
theorem noHole {i : Nat} : ∀ x ∈ ([] : List (Nat × Value)), x.1 ≠ i := by simp
section
variable {Q : Exit → Act → World → Prop} {P : Program} {n : Nat} {F : Fr} {L : Slots} {B : Owns}
end
end Go.DB
namespace Go.DB
open Go Go.RowKit
theorem HasField.comp {α β γ : Type} [Rep α] [Rep β] [Rep γ] {o1 o2 : Nat} {p : α → β} {q : β → γ} (h : HasField α β o1 p) (h' : HasField β γ (0 + o2) q) : HasField α γ (o1 + o2) (fun x => q (p x)) := by
 rw [Nat.zero_add] at h'
 refine ⟨by have := h.1; have := h'.1; omega, fun M x cs w hc => ?_⟩
 obtain ⟨c1, hc1, hj1⟩ := h.2 M x cs w hc
 obtain ⟨c2, hc2, hj2⟩ := h'.2 M _ c1 w hc1
 refine ⟨c2, hc2, fun j hj => ?_⟩
 rw [hj2 j hj, hj1 (o2 + j) (by have := h'.1; omega), Nat.add_assoc]
theorem SetField.comp {α β γ : Type} [Rep α] [Rep β] [Rep γ] {o1 o2 : Nat} {p : α → β} {s : α → β → α} {q : β → γ → β} (h : HasField α β o1 p) (hs : SetField α β o1 s) (h' : SetField β γ (0 + o2) q) : SetField α γ (o1 + o2) (fun x z => s x (q (p x) z)) := by
 rw [Nat.zero_add] at h'
 refine ⟨by have := h.1; have := h'.1; omega, fun M x z cs zs w hc hz => ?_⟩
 obtain ⟨c1, hc1, hj1⟩ := h.2 M x cs w hc
 have l1 := Rep.len hc1
 have l0 := Rep.len hc
 have b1 := h.1
 have b2 := h'.1
 have e : c1 = (cs.drop o1).take (Rep.sz β) := by
  apply List.ext_getElem?
  intro j
  by_cases hj : j < Rep.sz β
  ·
   rw [hj1 j hj, List.getElem?_take_of_lt hj, List.getElem?_drop]
  ·
   rw [List.getElem?_eq_none (by omega), List.getElem?_eq_none (by simp; omega)]
 have := hs.2 M x (q (p x) z) cs _ w hc (h'.2 M _ z c1 zs w hc1 hz)
 have e2 : cs.take o1 ++ (c1.take o2 ++ zs ++ c1.drop (o2 + Rep.sz γ)) ++ cs.drop (o1 + Rep.sz β) = cs.take (o1 + o2) ++ zs ++ cs.drop (o1 + o2 + Rep.sz γ) := by
  rw [e]
  have t1 : ((cs.drop o1).take (Rep.sz β)).take o2 = (cs.drop o1).take o2 := by rw [List.take_take, Nat.min_eq_left (by omega)]
  have t2 : cs.take (o1 + o2) = cs.take o1 ++ (cs.drop o1).take o2 := List.take_add
  have t3 : ((cs.drop o1).take (Rep.sz β)).drop (o2 + Rep.sz γ) ++ cs.drop (o1 + Rep.sz β) = cs.drop (o1 + o2 + Rep.sz γ) := by
   have : cs.drop (o1 + Rep.sz β) = (cs.drop o1).drop (Rep.sz β) := by rw [List.drop_drop]
   rw [this, ← List.drop_append_of_le_length (by simp; omega), List.take_append_drop, List.drop_drop]
   congr 1; omega
  rw [t1, t2]
  simp only [List.append_assoc]
  rw [t3]
 rw [e2] at this
 exact this
section
variable {P : Program} {ops : Array Oper} {fs : Nat} {L : Slots} {B : Owns} {G : Prop}
variable {d : Option Tmp} {ty : TypeId} {pos : String} {after : Array Edge} {g : Option (Nat × Bool)} {xr : List Nat}
end
end Go.DB
namespace Go.DB
open Go Go.RowKit
section
variable {P : Program} {ops : Array Oper} {fs : Nat} {L : Slots} {B : Owns} {G : Prop}
variable {d : Option Tmp} {ty : TypeId} {pos : String} {after : Array Edge} {g : Option (Nat × Bool)} {xr : List Nat}
variable {T T' E : TypeId} {x : Operand} {α : Type} [Rep α] {l : List α}
end
section
variable {P : Program} {ops : Array Oper} {fs : Nat} {L : Slots} {B : Owns} {ty : TypeId} {pos : String} {after : Array Edge}
end
end Go.DB
namespace Go.DB
open Go Go.RowKit
section
variable {K V σ ρ : Type}
open Classical in
noncomputable def mrangeK (m : GMap K V) (step : K → V → σ → Option σ) (s0 : σ) (k : σ → Option ρ) : Option ρ :=
 if h : ∃ r, ∀ l, Lists m l → ∃ s, mfold step l s0 = some s ∧ k s = some r then some h.choose else none
variable {m : GMap K V}
end
section
variable {P : Program} {Q : Exit → Act → World → Prop} {n : Nat} {F : Fr} {L : Slots} {B : Owns}
variable {K V : Type} {m : GMap K V}
end
end Go.DB
namespace Go.DB
open Go Go.RowKit
section
variable {P : Program} {ops : Array Oper} {fs : Nat} {L : Slots} {B : Owns} {G : Prop}
variable {d : Option Tmp} {ty : TypeId} {pos : String} {after : Array Edge} {g : Option (Nat × Bool)} {xr : List Nat}
end
end Go.DB
namespace Go.DB
open Go Go.RowKit
section
variable {P : Program} {ops : Array Oper} {fs : Nat} {L : Slots} {B : Owns} {ty : TypeId} {pos : String} {after : Array Edge}
end
end Go.DB
namespace Go.DB
open Go Go.RowKit
section
variable {P : Program} {ops : Array Oper} {fs : Nat} {L : Slots} {B : Owns} {G : Prop}
variable {ty : TypeId} {pos : String} {after : Array Edge} {g : Option (Nat × Bool)} {xr : List Nat}
end
end Go.DB
namespace Go.DB
open Go Go.RowKit
section
variable {α β ρ : Type} [Rep β] [Rep ρ]
def rowP (E E2 : Nat) (mk : α → Value → ρ) (sub : α → List β) (n k : Nat) (l : List α) : CPred where
 p := fun M D v w => ∃ (ss : List Value) (Dm : MSet) (Dr : Nat → MSet), ss.length = l.length ∧ (rowV E (List.zipWith mk l ss)).p M Dm v w ∧ l.length = n ∧
  (∀ (i : Nat) a s, l[i]? = some a → ss[i]? = some s → i < k → (rowV E2 (sub a)).p M (Dr i) s w) ∧ (∀ (i : Nat) a s, l[i]? = some a → ss[i]? = some s → k ≤ i → (rep (sub a)).p M s w) ∧
  (∀ j, D j → M j) ∧ (∀ j, (Dm j ∨ ∃ i, Dr i j) → D j) ∧ (∀ i j, Dr i j → ¬ Dm j) ∧ ∀ i i' j, Dr i j → Dr i' j → i = i'
 inM := fun M D v w ⟨ss, Dm, Dr, _, _, _, _, _, h, _⟩ k hk => h k hk
 law := fun M M' D v w w' hk hm hown ⟨ss, Dm, Dr, h1, h2, h3, h4, h4', h5, h6, h7, h8⟩ =>
  ⟨ss, Dm, Dr, h1, (rowV E _).law M M' Dm v w w' hk hm (fun j h => hown j (h6 j (.inl h))) h2, h3, fun i a s ha hs hn => (rowV E2 _).law M M' (Dr i) s w w' hk hm (fun j h => hown j (h6 j (.inr ⟨i, h⟩))) (h4 i a s ha hs hn),
   fun i a s ha hs hn => (rep (sub a)).law M M' s w w' hk hm (h4' i a s ha hs hn), fun j h => (hown j h).1, h6, h7, h8⟩
variable {E E2 : Nat} {mk : α → Value → ρ} {sub : α → List β} {n k : Nat} {l : List α} {M D : MSet} {v : Value} {w : World}
theorem elems_parts [Rep α] (hF : ∀ (M : MSet) (a : α) (cs : List Value) (w : World), Rep.cells M a cs w → ∃ s, Rep.cells M (mk a s) cs w ∧ (rep (sub a)).p M s w) : ∀ (l : List α) (cs : List Value), Elems M w l cs →
  ∃ ss : List Value, ss.length = l.length ∧ Elems M w (List.zipWith mk l ss) cs ∧ ∀ (i : Nat) a s, l[i]? = some a → ss[i]? = some s → (rep (sub a)).p M s w
 | [], cs, h => ⟨[], rfl, h, fun i a s ha => by simp at ha⟩
 | x :: l, cs, ⟨c, r, h, h1, h2⟩ => by
  obtain ⟨s, h3, h4⟩ := hF M x c w h1
  obtain ⟨ss, g1, g2, g3⟩ := elems_parts hF l r h2
  refine ⟨s :: ss, by simp [g1], ⟨c, r, h, h3, g2⟩, fun i a s' ha hs => ?_⟩
  cases i with
  | zero => simp at ha hs; subst ha; subst hs; exact h4
  | succ i => exact g3 i a s' (by simpa using ha) (by simpa using hs)
theorem rowP_of [Rep α] (hsz : Rep.sz ρ = Rep.sz α) (hF : ∀ (M : MSet) (a : α) (cs : List Value) (w : World), Rep.cells M a cs w → ∃ s, Rep.cells M (mk a s) cs w ∧ (rep (sub a)).p M s w) (h : (rowV E l).p M D v w) : (rowP E E2 mk sub l.length 0 l).p M D v w := by
 obtain ⟨a, cap, hv, h1, h2, h3⟩ := id h
 have hin := (rowV E l).inM M D v w h
 cases a with
 | none =>
  obtain ⟨rfl, hc, hD⟩ := h3
  exact ⟨[], D, fun _ _ => False, rfl, ⟨none, cap, hv, h1, h2, rfl, hc, hD⟩, rfl, fun i a s ha => by simp at ha, fun i a s ha => by simp at ha, hin, fun j h => h.elim id (fun ⟨_, h⟩ => h.elim), fun _ _ h => h.elim, fun _ _ _ h => h.elim⟩
 | some ad =>
  obtain ⟨hs, hD, hM, pre, cs, rest, hh, hp, he, hr⟩ := h3
  obtain ⟨ss, g1, g2, g3⟩ := elems_parts hF l cs he
  have hl : (List.zipWith mk l ss).length = l.length := zw_len g1
  exact ⟨ss, D, fun _ _ => False, g1, ⟨some ad, cap, by rw [hl]; exact hv, by rw [hl]; exact h1, h2, hs, hD, hM, pre, cs, rest, hh, hp, g2, by rw [hl, hsz]; exact hr⟩, rfl, fun i a s _ _ h => by omega, fun i a s ha hs _ => g3 i a s ha hs,
   hin, fun j h => h.elim id (fun ⟨_, h⟩ => h.elim), fun _ _ h => h.elim, fun _ _ _ h => h.elim⟩
theorem rowP_slice (h : (rowP E E2 mk sub n k l).p M D v w) : l.length = n ∧ l.length ≤ 9223372036854775807 := by
 obtain ⟨ss, Dm, Dr, h1, ⟨a, cap, h2, h2', h2'', _⟩, h3, _⟩ := h
 rw [zw_len h1] at h2'
 exact ⟨h3, by omega⟩
theorem rowP_all (hk : n ≤ k) (h : (rowP E E2 mk sub n k l).p M D v w) : (rowD E E2 mk sub [] l).p M D v w := by
 obtain ⟨ss, Dm, Dr, h1, h2, h3, h4, h4', h5, h6, h7, h8⟩ := h
 refine ⟨ss, Dm, Dr, h1, h2, by simp, fun i a s ha hs _ => h4 i a s ha hs ?_, h5, h6, h7, h8⟩
 have : i < l.length := by
  rcases Nat.lt_or_ge i l.length with q | q
  ·
   exact q
  ·
   rw [List.getElem?_eq_none q] at ha; cases ha
 omega
theorem rowP_succ {i : Int} (h0 : 0 ≤ i) (h1 : i < (n : Int)) (h : (rowP E E2 mk sub n (i.toNat + 1) l).p M D v w) : (rowP E E2 mk sub n (W (i + 1)).toNat l).p M D v w := by
 obtain ⟨q1, q2⟩ := rowP_slice h
 have e : (W (i + 1)).toNat = i.toNat + 1 := by
  rw [W_eq ⟨by omega, by omega⟩]; omega
 rw [e]; exact h
end
section
variable {P : Program} {ops : Array Oper} {fs : Nat} {L : Slots} {B : Owns} {G : Prop}
variable {ty : TypeId} {pos : String} {after : Array Edge} {g : Option (Nat × Bool)} {xr : List Nat} {d : Option Tmp}
variable {α β ρ : Type} [Rep β] [Rep ρ] {E E2 : Nat} {mk : α → Value → ρ} {sub : α → List β} {n k0 : Nat} {l : List α} {s : Value}
theorem StepOK.viaP {o : Oper} {k : Nat} {e : Ent} {xr : List Nat} (hk : lookB B k = some (CPred.at s (rowP E E2 mk sub n k0 l))) (hx : k ∈ xr)
  (h : ∀ ss : List Value, ss.length = l.length → StepOK P ops fs o L ((k, some (CPred.at s (rowV E (List.zipWith mk l ss)))) :: B) (xr, []) e []) : StepOK P ops fs o L B (xr, []) e [] := by
 intro M D a w h1 h2 h3 h4
 obtain ⟨ss, Dm, Dr, g1, g2, g3, g4, g4', g5, g6, g7, g8⟩ : (rowP E E2 mk sub n k0 l).p M (D k) s w := h4.has k (by simp [hx]) _ hk
 have hD : ∀ t j, (if t = k then Dm else D t) j → D t j := fun t j hj => by
  by_cases e : t = k
  ·
   subst e; rw [if_pos rfl] at hj; exact g6 j (.inl hj)
  ·
   rw [if_neg e] at hj; exact hj
 have cs : ∀ t c, lookB ((k, some (CPred.at s (rowV E (List.zipWith mk l ss)))) :: B) t = some c → (t = k ∧ c = CPred.at s (rowV E (List.zipWith mk l ss))) ∨ (t ≠ k ∧ lookB B t = some c) := by
  intro t c hc
  simp only [lookB] at hc
  by_cases e : k = t
  ·
   subst e; simp at hc; exact .inl ⟨rfl, hc.symm⟩
  ·
   rw [beq_ne e, cond_false] at hc; exact .inr ⟨Ne.symm e, hc⟩
 have old : ∀ t c, lookB ((k, some (CPred.at s (rowV E (List.zipWith mk l ss)))) :: B) t = some c → ∃ c', lookB B t = some c' := fun t c hc => by
  rcases cs t c hc with ⟨rfl, _⟩ | ⟨_, h⟩
  ·
   exact ⟨_, hk⟩
  ·
   exact ⟨_, h⟩
 have := h ss g1 M (fun t => if t = k then Dm else D t) a w h1 h2 h3 ⟨fun t ht c hc => ?_, fun t1 m1 t2 m2 c1 c2 q1 q2 hne j j1 j2 => ?_⟩
 ·
  split at this
  ·
   rename_i hw
   rw [if_pos hw]
   exact this
  ·
   rename_i hw
   rw [if_neg hw]
   exact this
 ·
  rcases cs t c hc with ⟨rfl, rfl⟩ | ⟨e, h⟩
  ·
   rw [if_pos rfl]; exact g2
  ·
   rw [if_neg e]; exact h4.has t ht c h
 ·
  obtain ⟨c1', r1⟩ := old t1 c1 q1
  obtain ⟨c2', r2⟩ := old t2 c2 q2
  exact h4.apart t1 m1 t2 m2 _ _ r1 r2 hne j (hD t1 j j1) (hD t2 j j2)
theorem StepOK.indexAddrP {T E' k : Nat} {x i : Operand} {j : Int} (hT : SliceOf P T E') (hE : Ty P E' ρ) (hx : Opd L True x (isV s)) (hk : lookB B k = some (CPred.at s (rowP E E2 mk sub n k0 l))) (hi : Opd L True i (rep j)) (hb : inR l j) :
  StepOK P ops fs ⟨d, .indexAddr T x i, ty, pos, after, none⟩ L B ([k], []) ⟨True, isV (elemPtr s (j.toNat * Rep.sz ρ + 0))⟩ [] :=
 .viaP hk (by simp) fun ss h => .indexAddrO (k := k) (E' := E) (l := List.zipWith mk l ss) .none hT hE hx lookB_self hi (fun _ => inR_zw hb h)
theorem StepOK.fieldElemP {S f o k off : Nat} {x : Operand} {j : Int} (hF : FieldAt P S f o) (hx : Opd L True x (isV (elemPtr s (j.toNat * Rep.sz ρ + off)))) (hk : lookB B k = some (CPred.at s (rowP E E2 mk sub n k0 l))) (hb : inR l j) :
  StepOK P ops fs ⟨d, .fieldAddr S x f, ty, pos, after, none⟩ L B ([k], []) ⟨True, isV (elemPtr s (j.toNat * Rep.sz ρ + (off + o)))⟩ [] :=
 .viaP hk (by simp) fun ss h => .fieldElem (k := k) (E' := E) (l := List.zipWith mk l ss) .none hF hx lookB_self (fun _ => inR_zw hb h)
theorem StepOK.loadElemP [Inhabited α] {T k off : Nat} {x : Operand} {j : Int} {proj : ρ → Raw} (hT : Ty P T Raw) (hx : Opd L True x (isV (elemPtr s (j.toNat * Rep.sz ρ + off)))) (hk : lookB B k = some (CPred.at s (rowP E E2 mk sub n k0 l)))
  (hH : HasField ρ Raw off proj) (hp : ∀ a z, proj (mk a z) = ⟨z⟩) (hb : inR l j) (hkj : k0 ≤ j.toNat) :
  StepOK P ops fs ⟨d, .load T x, ty, pos, after, none⟩ L B ([k], []) ⟨True, rep (sub (gx l j))⟩ [] :=
 .of .none fun M D a w _ hs hsB hG => by
  obtain ⟨h0, h1⟩ := hb
  obtain ⟨ss, Dm, Dr, g1, g2, g3, g4, g4', g5, g6, g7, g8⟩ : (rowP E E2 mk sub n k0 l).p M (D k) s w := hsB.has k (by simp) _ hk
  have hll : j.toNat < l.length := by omega
  have hls : j.toNat < ss.length := by omega
  have hlt : j.toNat < (List.zipWith mk l ss).length := by rw [zw_len g1]; exact hll
  obtain ⟨b, of, cap, pre, cs, rest, rfl, _, _, _, _, hh, hpr, he, _⟩ := rowAt_block (j := j.toNat) g2 hlt
  have hv : a.eval x = ptr b (of + (j.toNat * Rep.sz ρ + off)) := (rep_raw.1 (hx.get hs (fun t ht => looksAt_op (by simp [Op.operands, ht])) hG)).1
  obtain ⟨c, hc, hj⟩ := he.at _ cs j.toNat hlt
  obtain ⟨fcs, hf, hfj⟩ := hH.2 M _ c w hc
  have hgx : gx l j = l[j.toNat] := by simp [gx, List.getElem?_eq_getElem hll]
  rw [hgx]
  have hfr := g4' j.toNat l[j.toNat] ss[j.toNat] (List.getElem?_eq_getElem hll) (List.getElem?_eq_getElem hls) hkj
  have hfe : (List.zipWith mk l ss)[j.toNat] = mk l[j.toNat] ss[j.toNat] := by rw [List.getElem_zipWith]
  rw [hfe, hp] at hf
  have hval : mkv (Rep.agg Raw) fcs = ss[j.toNat] := by
   obtain ⟨rfl, _⟩ := hf
   rfl
  refine Does.value (v := ss[j.toNat]) (w' := w) ?_ ⟨Keeps.refl _ _, hfr⟩
  have hcl := he.len
  have := run_loadAt (P := P) hT hf (w := w) (b := b) (off := of + (j.toNat * Rep.sz ρ + off)) (fun i hi => by
   have hle := hH.1
   have hlt' : j.toNat * Rep.sz ρ + (off + i) < cs.length := by
    rw [hcl]
    have := Nat.mul_le_mul_right (Rep.sz ρ) (show j.toNat + 1 ≤ (List.zipWith mk l ss).length by omega)
    rw [Nat.add_mul] at this; omega
   rw [hfj i hi, ← hj (off + i) (by omega), cell_of_heap hh, List.getElem?_toArray, List.append_assoc, List.getElem?_append_right (by omega), List.getElem?_append_left (by omega), hpr]
   congr 1; omega)
  rw [hval] at this
  simp only [execOp, hv, ptr, Sem.run_bind, this, Result.andThen, Sem.run_pure]
theorem StepOK.storeElemP {T k t off : Nat} {p : Operand} {x : List β} {j : Int} {set : ρ → Raw → ρ} [Inhabited ρ] [Inhabited α] (a' : α) (hT : Ty P T (List β)) (hp : Opd L True p (isV (elemPtr s (j.toNat * Rep.sz ρ + off))))
  (hk : lookB B k = some (CPred.at s (rowP E E2 mk sub n j.toNat l))) (hF : SetField ρ Raw off set) (ht : lookB B t = some (rowV E2 x)) (hb : inR l j) (hkt : (k == t) = false)
  (hm : ∀ z0 s', set (mk (gx l j) z0) ⟨s'⟩ = mk a' s') (hx : sub a' = x) :
  StepOK P ops fs ⟨none, .store T p (.tmp t), ty, pos, after, none⟩ L B ([k, t], [k, t]) ⟨True, anyV⟩ [(k, some (CPred.at s (rowP E E2 mk sub n (j.toNat + 1) (l.set j.toNat a')))), (t, none)] := by
 have hkt : k ≠ t := by simpa using hkt
 refine .doing fun M D a w hsz hmm hsat hsB => ?_
 obtain ⟨q1, q2⟩ := hb
 have hlt0 : j.toNat < l.length := by omega
 have hg : gx l j = l[j.toNat] := by simp [gx, hlt0]
 obtain ⟨ss, Dm, Dr, h1, h2, hn0, h4, h4', h5, h6, h7, h8⟩ : (rowP E E2 mk sub n j.toNat l).p M (D k) s w := hsB.has k (by simp) _ hk
 have hR := hsB.has t (by simp) _ ht
 have hap := hsB.apart k (by simp) t (by simp) _ _ hk ht hkt
 have hzl : (List.zipWith mk l ss).length = l.length := zw_len h1
 have hlt : j.toNat < (List.zipWith mk l ss).length := by omega
 have hls : j.toNat < ss.length := by omega
 obtain ⟨b, of, cap, pre, cs, rest, rfl, hlc, hcm, hD, hM, hh', hpr, he, hrest⟩ := rowAt_block (j := j.toNat) h2 hlt
 have hv : a.eval p = ptr b (of + (j.toNat * Rep.sz ρ + off)) := (rep_raw.1 (hp.get hsat (fun t ht => looksAt_op (by simp [Op.operands, ht])) trivial)).1
 have hxv : a.eval (.tmp t) = Act.val a t := eval_val
 obtain ⟨ad, cap', hsl, _⟩ := id hR
 have hz : Rep.cells M (⟨Act.val a t⟩ : Raw) [Act.val a t] w := ⟨rfl, by rw [hsl]; rfl, by rw [hsl]; rfl⟩
 obtain ⟨c, hc, hj⟩ := he.at _ cs j.toNat hlt
 have hcl := he.len
 have hce := Rep.len hc
 have hle : off + 1 ≤ Rep.sz ρ := hF.1
 have hroom : j.toNat * Rep.sz ρ + Rep.sz ρ ≤ cs.length := by
  rw [hcl]
  have := Nat.mul_le_mul_right (Rep.sz ρ) (show j.toNat + 1 ≤ (List.zipWith mk l ss).length by omega)
  rw [Nat.add_mul] at this; omega
 have hceq : c = (cs.drop (j.toNat * Rep.sz ρ)).take (Rep.sz ρ) := by
  refine List.ext_getElem? fun i => ?_
  by_cases hi : i < Rep.sz ρ
  ·
   rw [List.getElem?_take_of_lt hi, List.getElem?_drop, hj i hi]
  ·
   rw [List.getElem?_eq_none (by omega), List.getElem?_eq_none (by rw [List.length_take]; omega)]
 have hsplit : cs = cs.take (j.toNat * Rep.sz ρ) ++ (c.take off ++ (c.drop off).take 1 ++ c.drop (off + 1)) ++ cs.drop (j.toNat * Rep.sz ρ + Rep.sz ρ) := by
  have h2 : c.take off ++ (c.drop off).take 1 ++ c.drop (off + 1) = c := by
   rw [← List.drop_drop, List.append_assoc, List.take_append_drop, List.take_append_drop]
  rw [h2, hceq, ← List.drop_drop, List.append_assoc, List.take_append_drop, List.take_append_drop]
 obtain ⟨w', g1, g2, g3, g4, g5, g6, g7⟩ := run_storeAt (P := P) (w := w) (m := b) (off := of + (j.toNat * Rep.sz ρ + off)) (cs := [Act.val a t]) (pre := pre ++ cs.take (j.toNat * Rep.sz ρ) ++ c.take off) (mid := (c.drop off).take 1)
  (rest := c.drop (off + 1) ++ cs.drop (j.toNat * Rep.sz ρ + Rep.sz ρ) ++ rest) hT rfl
  (by rw [List.length_take, List.length_drop]; show _ = 1; omega) (by rw [List.length_append, List.length_append, List.length_take, List.length_take]; omega) (Rep.plain hz) (show (Act.val a t).cells = #[Act.val a t] by rw [hsl]; rfl) (by
   rw [hh']
   congr 2
   conv => lhs; rw [hsplit]
   simp)
 have hbm : Dm b := (hD b).2 rfl
 have hkD : Keeps (D k) w w' := ⟨g3, g4, g5, by omega, fun i _ hn => g7 i (fun e => hn (e ▸ h6 b (.inl hbm)))⟩
 have hkM : Keeps M w w' := ⟨g3, g4, g5, by omega, fun i _ hn => g7 i (fun e => hn (e ▸ hM))⟩
 refine Does.skip (w' := w') (ex_store (by rw [hv, hxv]; exact g1)) rfl (.merge hk ht hkD (fun i h => by rw [g6]; exact hmm i h) ⟨fun _ => trivial, fun hf => (hf trivial).elim⟩ ?_)
 have hl' := Rep.law hkM (fun _ h => .inl h) hc
 have hset := hF.2 M (List.zipWith mk l ss)[j.toNat] ⟨Act.val a t⟩ c [Act.val a t] w' hl' (Rep.law hkM (fun _ h => .inl h) hz)
 have hel := Elems.set _ cs j.toNat _ _ hlt (Elems.law hkM (fun _ h => .inl h) _ cs he) hset
 have hput : (List.zipWith mk l ss).set j.toNat (set (List.zipWith mk l ss)[j.toNat] ⟨Act.val a t⟩) = List.zipWith mk (l.set j.toNat a') (ss.set j.toNat (Act.val a t)) := by
  rw [List.getElem_zipWith, ← hg, hm]
  exact zw_put hlt0 h1
 rw [hput] at hel
 have hnl : (List.zipWith mk (l.set j.toNat a') (ss.set j.toNat (Act.val a t))).length = l.length := by rw [List.length_zipWith, List.length_set, List.length_set]; omega
 have hlen0 : (List.zipWith mk l ss).length = l.length := hzl
 refine ⟨ss.set j.toNat (Act.val a t), Dm, fun i q => (i = j.toNat ∧ D t q) ∨ (i ≠ j.toNat ∧ i < j.toNat ∧ Dr i q), by simp [h1], ⟨some ⟨b, of, none⟩, cap, by rw [hnl, ← hlen0], by rw [hnl, ← hlen0]; exact hlc, hcm, rfl, hD, hM, pre, _, rest, ?_, hpr, hel, by rw [hnl, ← hlen0]; exact hrest⟩, by rw [List.length_set]; exact hn0, fun i a0 s0 ha hs0 hno => ?_, fun i a0 s0 ha hs0 hno => ?_, fun q hq => ?_, fun q hq => ?_, fun i q hq => ?_, fun i i' q hq hq' => ?_⟩
 ·
  rw [g2]
  congr 2
  simp [show Rep.sz Raw = 1 from rfl]
 ·
  rw [List.getElem?_set] at ha hs0
  by_cases e : j.toNat = i
  ·
   subst e
   rw [if_pos rfl, if_pos hlt0] at ha
   rw [if_pos rfl, if_pos hls] at hs0
   obtain rfl := Option.some.inj ha
   obtain rfl := Option.some.inj hs0
   show (rowV E2 (sub a')).p M (fun q => (j.toNat = j.toNat ∧ D t q) ∨ (j.toNat ≠ j.toNat ∧ j.toNat < j.toNat ∧ Dr j.toNat q)) _ w'
   have : (fun q => (j.toNat = j.toNat ∧ D t q) ∨ (j.toNat ≠ j.toNat ∧ j.toNat < j.toNat ∧ Dr j.toNat q)) = D t := by funext q; simp
   rw [this, hx]
   exact (rowV E2 x).law M M (D t) _ w w' hkM (fun _ h => .inl h) (fun q hq => ⟨(rowV E2 x).inM _ _ _ _ hR q hq, g7 q (fun e => hap q (e ▸ h6 b (.inl hbm)) hq)⟩) hR
  ·
   rw [if_neg e] at ha hs0
   have e' : i ≠ j.toNat := fun h => e h.symm
   have hij : i < j.toNat := by omega
   show (rowV E2 (sub a0)).p M (fun q => (i = j.toNat ∧ D t q) ∨ (i ≠ j.toNat ∧ i < j.toNat ∧ Dr i q)) s0 w'
   have : (fun q => (i = j.toNat ∧ D t q) ∨ (i ≠ j.toNat ∧ i < j.toNat ∧ Dr i q)) = Dr i := by funext q; simp [e', hij]
   rw [this]
   exact (rowV E2 _).law M M (Dr i) s0 w w' hkM (fun _ h => .inl h) (fun q hq => ⟨h5 q (h6 q (.inr ⟨i, hq⟩)), g7 q (fun e => h7 i q hq (e ▸ hbm))⟩) (h4 i a0 s0 ha hs0 hij)
 ·
  rw [List.getElem?_set, if_neg (by omega)] at ha hs0
  exact (rep (sub a0)).law M M s0 w w' hkM (fun _ h => .inl h) (h4' i a0 s0 ha hs0 (by omega))
 ·
  rcases hq with hq | hq
  ·
   exact h5 q hq
  ·
   exact (rowV E2 x).inM _ _ _ _ hR q hq
 ·
  rcases hq with hq | ⟨i, ⟨_, hq⟩ | ⟨_, _, hq⟩⟩
  ·
   exact .inl (h6 q (.inl hq))
  ·
   exact .inr hq
  ·
   exact .inl (h6 q (.inr ⟨i, hq⟩))
 ·
  intro hd
  rcases hq with ⟨_, hq⟩ | ⟨_, _, hq⟩
  ·
   exact hap q (h6 q (.inl hd)) hq
  ·
   exact h7 i q hq hd
 ·
  rcases hq with ⟨e, hq⟩ | ⟨e, e2, hq⟩ <;> rcases hq' with ⟨e', hq'⟩ | ⟨e', e2', hq'⟩
  ·
   omega
  ·
   exact absurd hq (hap q (h6 q (.inr ⟨i', hq'⟩)))
  ·
   exact absurd hq' (hap q (h6 q (.inr ⟨i, hq⟩)))
  ·
   exact h8 i i' q hq hq'
theorem StepOK.nilCheckE {α : Type} [Rep α] {k off E' : Nat} {x : Operand} {l : List α} {j : Int} (hg : Guard ops g L G) (hx : Opd L G x (isV (elemPtr s (j.toNat * Rep.sz α + off)))) (hk : lookB B k = some (CPred.at s (rowV E' l))) (hb : G → 0 ≤ j ∧ j < l.length) :
  StepOK P ops fs ⟨d, .nilCheck x, ty, pos, after, g⟩ L B ([k], []) ⟨G, isV (elemPtr s (j.toNat * Rep.sz α + off))⟩ [] :=
 .of hg fun M D a w _ hs hsB hG => by
  obtain ⟨b, of, cap, pre, cs, rest, rfl, _⟩ := rowAt_block (j := j.toNat) (show (rowV E' l).p M (D k) s w from hsB.has k (by simp) _ hk) (by have := hb hG; omega)
  have h := hx.get hs (fun t ht => looksAt_op (by simp [Op.operands, ht])) hG
  exact Does.value (ex_nilCheck (rep_raw.1 h).1) ⟨Keeps.refl _ _, isV_ptr⟩
theorem StepOK.storeH {T T' t : Nat} {x : Operand} {α0 α1 : Type} [Rep α0] [Rep α1] {y : α1} {y0 : α0} (hT : Ty P T α1) (hl : lookB B t = some (cont T' y0)) (hsz0 : Rep.sz α0 = Rep.sz α1) (ht : Nat.blt t fs = true) (hx : Opd L True x (rep y)) :
  StepOK P ops fs ⟨none, .store T (.tmp t) x, ty, pos, after, none⟩ L B ([t], [t]) ⟨True, anyV⟩ [(t, some (cont T' y))] := by
 refine .doing fun M D a w hsz hm hs hsB => ?_
 obtain ⟨m, old, hvm, hD, hM, hh, hold⟩ := hsB.has t (by simp) _ hl
 obtain ⟨cs, hc, hxv⟩ := hx.get hs (fun t ht => looksAt_op (by simp [Op.operands, ht])) trivial
 have hat : a.eval (.tmp t) = .pointer (some ⟨m, 0, none⟩) := by
  have hlt : t < a.tmps.size := by rw [hsz]; exact Nat.le_of_ble_eq_true ht
  rw [Act.eval_tmp (v := Act.val a t) (by unfold Act.val; simp [hlt]), hvm]
 obtain ⟨w', h1, h2, h3, h4, h5, h6, h7⟩ := run_storeAt (w := w) (m := m) (pre := []) (rest := []) hT (Rep.len hc) ((Rep.len hold).trans hsz0) rfl (Rep.plain hc) (Rep.flat hc) (by simpa using hh)
 have hkeep : Keeps (D t) w w' := ⟨h3, h4, h5, by omega, fun k _ hn => h7 k (fun e => hn ((hD k).2 e))⟩
 have hkM : Keeps M w w' := ⟨h3, h4, h5, by omega, fun k _ hn => h7 k (fun e => hn (e ▸ hM))⟩
 refine Does.skip (w' := w') (ex_store (by rw [hat, hxv]; exact h1)) rfl (.turn hl hkeep (fun k h => by rw [h6]; exact hm k h) ⟨fun _ => trivial, fun hf => (hf trivial).elim⟩ ?_)
 rw [val_none]
 exact ⟨m, cs, hvm, hD, hM, by simpa using h2, Rep.law hkM (fun _ h => .inl h) hc⟩
end
end Go.DB
namespace Go.DB
open Go Go.RowKit
abbrev oo : Aux := ([], [])
section
variable {P : Program} {ops : Array Oper} {n : Nat} {rest : List Oper} {L : Slots} {B : Owns} {K : Slots → Owns → Prop} {aux : List Aux} {xr : List Nat} {d t : Nat} {ty : TypeId} {pos : String} {after : Array Edge}
theorem Chain.mv {S : SPred} (h : look L t = some ⟨True, S⟩) (k : Chain P ops n rest [] ((d, ⟨True, S⟩) :: L) B K) (hB : hasKey B d = false := by exact rfl) :
  Chain P ops n (⟨some d, .move (.tmp t), ty, pos, after, none⟩ :: rest) [] L B K := .cons (.move .none (.s h)) hB k
theorem Chain.mvA {S : SPred} (h : look L t = some ⟨True, S⟩) (k : Chain P ops n rest aux ((d, ⟨True, S⟩) :: L) B K) (hB : hasKey B d = false := by exact rfl) :
  Chain P ops n (⟨some d, .move (.tmp t), ty, pos, after, none⟩ :: rest) ((xr, []) :: aux) L B K := .consA (.move .none (.s h)) hB k
theorem Chain.asn {S : SPred} (h : look L t = some ⟨True, S⟩) (k : Chain P ops n rest [] ((d, ⟨True, S⟩) :: L) B K) (hB : hasKey B d = false := by exact rfl) :
  Chain P ops n (⟨some d, .assign (.tmp t), ty, pos, after, none⟩ :: rest) [] L B K := .cons (.assign .none (.s h)) hB k
theorem Chain.asnA {S : SPred} (h : look L t = some ⟨True, S⟩) (k : Chain P ops n rest aux ((d, ⟨True, S⟩) :: L) B K) (hB : hasKey B d = false := by exact rfl) :
  Chain P ops n (⟨some d, .assign (.tmp t), ty, pos, after, none⟩ :: rest) ((xr, []) :: aux) L B K := .consA (.assign .none (.s h)) hB k
theorem Chain.asi {i : Int} (k : Chain P ops n rest [] ((d, ⟨True, rep i⟩) :: L) B K) (hi : InI i := by decide) (hB : hasKey B d = false := by exact rfl) :
  Chain P ops n (⟨some d, .assign (.const (.int .i64 i)), ty, pos, after, none⟩ :: rest) [] L B K := .cons (.assign .none (.int hi)) hB k
theorem Chain.mvi {i : Int} (k : Chain P ops n rest [] ((d, ⟨True, rep i⟩) :: L) B K) (hi : InI i := by decide) (hB : hasKey B d = false := by exact rfl) :
  Chain P ops n (⟨some d, .move (.const (.int .i64 i)), ty, pos, after, none⟩ :: rest) [] L B K := .cons (.move .none (.int hi)) hB k
theorem Chain.ld {T : TypeId} {α : Type} [Rep α] {y : α} (hT : Ty P T α) (h : look L t = some ⟨True, ref y⟩) (k : Chain P ops n rest [] ((d, ⟨True, rep y⟩) :: L) B K) (hB : hasKey B d = false := by exact rfl) :
  Chain P ops n (⟨some d, .load T (.tmp t), ty, pos, after, none⟩ :: rest) [] L B K := .cons (.load .none hT (.s h)) hB k
theorem Chain.ldA {T : TypeId} {α : Type} [Rep α] {y : α} (hT : Ty P T α) (h : look L t = some ⟨True, ref y⟩) (k : Chain P ops n rest aux ((d, ⟨True, rep y⟩) :: L) B K) (hB : hasKey B d = false := by exact rfl) :
  Chain P ops n (⟨some d, .load T (.tmp t), ty, pos, after, none⟩ :: rest) ((xr, []) :: aux) L B K := .consA (.load .none hT (.s h)) hB k
theorem Chain.fa {S f off : Nat} {α β : Type} [Rep α] [Rep β] {proj : α → β} {y : α} (hF : FieldAt P S f off) (hH : HasField α β off proj) (h : look L t = some ⟨True, ref y⟩)
  (k : Chain P ops n rest [] ((d, ⟨True, ref (proj y)⟩) :: L) B K) (hB : hasKey B d = false := by exact rfl) :
  Chain P ops n (⟨some d, .fieldAddr S (.tmp t) f, ty, pos, after, none⟩ :: rest) [] L B K := .cons (.fieldAddr .none hF hH (.s h)) hB k
theorem Chain.faA {S f off : Nat} {α β : Type} [Rep α] [Rep β] {proj : α → β} {y : α} (hF : FieldAt P S f off) (hH : HasField α β off proj) (h : look L t = some ⟨True, ref y⟩)
  (k : Chain P ops n rest aux ((d, ⟨True, ref (proj y)⟩) :: L) B K) (hB : hasKey B d = false := by exact rfl) :
  Chain P ops n (⟨some d, .fieldAddr S (.tmp t) f, ty, pos, after, none⟩ :: rest) ((xr, []) :: aux) L B K := .consA (.fieldAddr .none hF hH (.s h)) hB k
theorem Chain.c {op : Op} {g : Option (Nat × Bool)} {E : Ent} (h : StepOK P ops n ⟨some d, op, ty, pos, after, g⟩ L B ([], []) E []) (k : Chain P ops n rest [] ((d, E) :: L) B K) (hB : hasKey B d = false := by exact rfl) :
  Chain P ops n (⟨some d, op, ty, pos, after, g⟩ :: rest) [] L B K := .cons h hB k
theorem Chain.cA {op : Op} {g : Option (Nat × Bool)} {E : Ent} (h : StepOK P ops n ⟨some d, op, ty, pos, after, g⟩ L B (xr, []) E []) (k : Chain P ops n rest aux ((d, E) :: L) B K) (hB : hasKey B d = false := by exact rfl) :
  Chain P ops n (⟨some d, op, ty, pos, after, g⟩ :: rest) ((xr, []) :: aux) L B K := .consA h hB k
theorem Chain.cN {op : Op} {g : Option (Nat × Bool)} {E : Ent} {xs : List Nat} {V : Nat × Option CPred} {Ws : Writes} (h : StepOK P ops n ⟨none, op, ty, pos, after, g⟩ L B (xr, xs) E (V :: Ws)) (k : Chain P ops n rest aux L (V :: (Ws ++ B)) K)
  (hx : (V :: Ws).map (·.1) = xs := by exact rfl) : Chain P ops n (⟨none, op, ty, pos, after, g⟩ :: rest) ((xr, xs) :: aux) L B K := .consN h hx k
theorem Chain.cW {op : Op} {g : Option (Nat × Bool)} {E : Ent} {xs : List Nat} {V : Nat × Option CPred} {Ws : Writes} (h : StepOK P ops n ⟨some d, op, ty, pos, after, g⟩ L B (xr, xs) E (V :: Ws)) (k : Chain P ops n rest aux ((d, E) :: L) (V :: (Ws ++ B)) K)
  (hx : (V :: Ws).map (·.1) = xs := by exact rfl) (hB : hasKey B d = false := by exact rfl) : Chain P ops n (⟨some d, op, ty, pos, after, g⟩ :: rest) ((xr, xs) :: aux) L B K := .consW h hx hB k
theorem Chain.ixO {T E E' u : Nat} {s : Value} {α : Type} [Rep α] {l : List α} {j : Int} (q : Nat) (hT : SliceOf P T E) (hE : Ty P E α) (hx : look L t = some ⟨True, isV s⟩) (hk : lookB B q = some (CPred.at s (rowV E' l))) (hi : look L u = some ⟨True, rep j⟩)
  (hb : 0 ≤ j ∧ j < l.length) (k : Chain P ops n rest aux ((d, ⟨True, isV (elemPtr s (j.toNat * Rep.sz α + 0))⟩) :: L) B K) (hB : hasKey B d = false := by exact rfl) :
  Chain P ops n (⟨some d, .indexAddr T (.tmp t) (.tmp u), ty, pos, after, none⟩ :: rest) (([q], []) :: aux) L B K := .consA (.indexAddrO (k := q) .none hT hE (.s hx) hk (.s hi) (fun _ => hb)) hB k
theorem Chain.ix {T E u : Nat} {α : Type} [Rep α] [Inhabited α] {l : List α} {j : Int} (hT : SliceOf P T E) (hE : Ty P E α) (hx : look L t = some ⟨True, rep l⟩) (hi : look L u = some ⟨True, rep j⟩)
  (hb : 0 ≤ j ∧ j < l.length) (k : Chain P ops n rest [] ((d, ⟨True, ref (gx l j)⟩) :: L) B K) (hB : hasKey B d = false := by exact rfl) :
  Chain P ops n (⟨some d, .indexAddr T (.tmp t) (.tmp u), ty, pos, after, none⟩ :: rest) [] L B K := .cons (.indexAddr .none hT hE (.s hx) (.s hi) (fun _ => hb)) hB k
theorem Chain.ixA {T E u : Nat} {α : Type} [Rep α] [Inhabited α] {l : List α} {j : Int} (hT : SliceOf P T E) (hE : Ty P E α) (hx : look L t = some ⟨True, rep l⟩) (hi : look L u = some ⟨True, rep j⟩)
  (hb : 0 ≤ j ∧ j < l.length) (k : Chain P ops n rest aux ((d, ⟨True, ref (gx l j)⟩) :: L) B K) (hB : hasKey B d = false := by exact rfl) :
  Chain P ops n (⟨some d, .indexAddr T (.tmp t) (.tmp u), ty, pos, after, none⟩ :: rest) ((xr, []) :: aux) L B K := .consA (.indexAddr .none hT hE (.s hx) (.s hi) (fun _ => hb)) hB k
theorem Chain.ex {i : Nat} {Ss : List SPred} {S : SPred} (h : look L t = some ⟨True, tup Ss⟩) (hi : Ss[i]? = some S) (k : Chain P ops n rest [] ((d, ⟨True, S⟩) :: L) B K) (hB : hasKey B d = false := by exact rfl) :
  Chain P ops n (⟨some d, .extract (.tmp t) i, ty, pos, after, none⟩ :: rest) [] L B K := .cons (.extract .none (.s h) hi) hB k
theorem Chain.exA {i : Nat} {Ss : List SPred} {S : SPred} (h : look L t = some ⟨True, tup Ss⟩) (hi : Ss[i]? = some S) (k : Chain P ops n rest aux ((d, ⟨True, S⟩) :: L) B K) (hB : hasKey B d = false := by exact rfl) :
  Chain P ops n (⟨some d, .extract (.tmp t) i, ty, pos, after, none⟩ :: rest) ((xr, []) :: aux) L B K := .consA (.extract .none (.s h) hi) hB k
theorem Chain.mg {j tg : Nat} {want b : Bool} {c : Prop} {S : SPred} (h1 : (ops[j]?).bind (·.dst) = some tg) (h2 : look L tg = some ⟨c, rep b⟩) (h : look L t = some ⟨True, S⟩) (k : Chain P ops n rest [] ((d, ⟨c ∧ b = want, S⟩) :: L) B K) (hB : hasKey B d = false := by exact rfl) :
  Chain P ops n (⟨some d, .move (.tmp t), ty, pos, after, some (j, want)⟩ :: rest) [] L B K := .cons (.move (.at h1 h2) (.s h)) hB k
theorem Chain.lg {j tg : Nat} {want b : Bool} {c : Prop} {T : TypeId} {α : Type} [Rep α] {y : α} (hT : Ty P T α) (h1 : (ops[j]?).bind (·.dst) = some tg) (h2 : look L tg = some ⟨c, rep b⟩) (h : look L t = some ⟨c ∧ b = want, ref y⟩)
  (k : Chain P ops n rest [] ((d, ⟨c ∧ b = want, rep y⟩) :: L) B K) (hB : hasKey B d = false := by exact rfl) :
  Chain P ops n (⟨some d, .load T (.tmp t), ty, pos, after, some (j, want)⟩ :: rest) [] L B K := .cons (.load (.at h1 h2) hT (.tmp h id)) hB k
theorem Chain.fg {j tg : Nat} {want b : Bool} {c : Prop} {S f off : Nat} {α β : Type} [Rep α] [Rep β] {proj : α → β} {y : α} (hF : FieldAt P S f off) (hH : HasField α β off proj) (h1 : (ops[j]?).bind (·.dst) = some tg) (h2 : look L tg = some ⟨c, rep b⟩)
  (h : look L t = some ⟨True, ref y⟩) (k : Chain P ops n rest [] ((d, ⟨c ∧ b = want, ref (proj y)⟩) :: L) B K) (hB : hasKey B d = false := by exact rfl) :
  Chain P ops n (⟨some d, .fieldAddr S (.tmp t) f, ty, pos, after, some (j, want)⟩ :: rest) [] L B K := .cons (.fieldAddr (.at h1 h2) hF hH (.s h)) hB k
theorem Chain.pa {u : Nat} {b1 b2 : Bool} (h1 : look L t = some ⟨True, rep b1⟩) (h2 : look L u = some ⟨True ∧ b1 = true, rep b2⟩) (k : Chain P ops n rest [] ((d, ⟨True, rep (b1 && b2)⟩) :: L) B K) (hB : hasKey B d = false := by exact rfl) :
  Chain P ops n (⟨some d, .pick (.tmp t) (.tmp u) (.const (.bool false)), ty, pos, after, none⟩ :: rest) [] L B K := .cons (.pickAnd .none (.s h1) (.tmp h2 id)) hB k
theorem Chain.po {u : Nat} {b1 b2 : Bool} (h1 : look L t = some ⟨True, rep b1⟩) (h2 : look L u = some ⟨True ∧ b1 = false, rep b2⟩) (k : Chain P ops n rest [] ((d, ⟨True, rep (b1 || b2)⟩) :: L) B K) (hB : hasKey B d = false := by exact rfl) :
  Chain P ops n (⟨some d, .pick (.tmp t) (.const (.bool true)) (.tmp u), ty, pos, after, none⟩ :: rest) [] L B K := .cons (.pickOr .none (.s h1) (.tmp h2 id)) hB k
theorem Chain.lt {u : Nat} {T T' : TypeId} {i j : Int} (h1 : look L t = some ⟨True, rep i⟩) (h2 : look L u = some ⟨True, rep j⟩) (k : Chain P ops n rest [] ((d, ⟨True, rep (decide (i < j))⟩) :: L) B K) (hB : hasKey B d = false := by exact rfl) :
  Chain P ops n (⟨some d, .binOp .lss T (.tmp t) (.tmp u) T', ty, pos, after, none⟩ :: rest) [] L B K := .cons (.lt .none (.s h1) (.s h2)) hB k
theorem Chain.add {u : Nat} {T T' : TypeId} {i j : Int} (h1 : look L t = some ⟨True, rep i⟩) (h2 : look L u = some ⟨True, rep j⟩) (k : Chain P ops n rest [] ((d, ⟨True, rep (W (i + j))⟩) :: L) B K) (hB : hasKey B d = false := by exact rfl) :
  Chain P ops n (⟨some d, .binOp .add T (.tmp t) (.tmp u) T', ty, pos, after, none⟩ :: rest) [] L B K := .cons (.addW .none (.s h1) (.s h2)) hB k
theorem Chain.sub {u : Nat} {T T' : TypeId} {i j : Int} (h1 : look L t = some ⟨True, rep i⟩) (h2 : look L u = some ⟨True, rep j⟩) (k : Chain P ops n rest [] ((d, ⟨True, rep (W (i - j))⟩) :: L) B K) (hB : hasKey B d = false := by exact rfl) :
  Chain P ops n (⟨some d, .binOp .sub T (.tmp t) (.tmp u) T', ty, pos, after, none⟩ :: rest) [] L B K := .cons (.subW .none (.s h1) (.s h2)) hB k
theorem Chain.asb {b : Bool} (k : Chain P ops n rest [] ((d, ⟨True, rep b⟩) :: L) B K) (hB : hasKey B d = false := by exact rfl) :
  Chain P ops n (⟨some d, .assign (.const (.bool b)), ty, pos, after, none⟩ :: rest) [] L B K := .cons (.assign .none .bool) hB k
theorem Opd.i {G : Prop} {m : Int} (h : InI m := by decide) : Opd L G (.const (.int .i64 m)) (rep m) := .int h
theorem Chain.addA {u : Nat} {T T' : TypeId} {i j : Int} (h1 : look L t = some ⟨True, rep i⟩) (h2 : look L u = some ⟨True, rep j⟩) (k : Chain P ops n rest aux ((d, ⟨True, rep (W (i + j))⟩) :: L) B K) (hB : hasKey B d = false := by exact rfl) :
  Chain P ops n (⟨some d, .binOp .add T (.tmp t) (.tmp u) T', ty, pos, after, none⟩ :: rest) ((xr, []) :: aux) L B K := .consA (.addW .none (.s h1) (.s h2)) hB k
theorem Chain.subA {u : Nat} {T T' : TypeId} {i j : Int} (h1 : look L t = some ⟨True, rep i⟩) (h2 : look L u = some ⟨True, rep j⟩) (k : Chain P ops n rest aux ((d, ⟨True, rep (W (i - j))⟩) :: L) B K) (hB : hasKey B d = false := by exact rfl) :
  Chain P ops n (⟨some d, .binOp .sub T (.tmp t) (.tmp u) T', ty, pos, after, none⟩ :: rest) ((xr, []) :: aux) L B K := .consA (.subW .none (.s h1) (.s h2)) hB k
theorem Chain.adi {T T' : TypeId} {i j : Int} (h1 : look L t = some ⟨True, rep i⟩) (k : Chain P ops n rest [] ((d, ⟨True, rep (W (i + j))⟩) :: L) B K) (hj : InI j := by decide) (hB : hasKey B d = false := by exact rfl) :
  Chain P ops n (⟨some d, .binOp .add T (.tmp t) (.const (.int .i64 j)) T', ty, pos, after, none⟩ :: rest) [] L B K := .cons (.addW .none (.s h1) (.int hj)) hB k
theorem Chain.eqi {T T' : TypeId} {i j : Int} (h1 : look L t = some ⟨True, rep i⟩) (k : Chain P ops n rest [] ((d, ⟨True, rep (decide (i = j))⟩) :: L) B K) (hj : InI j := by decide) (hB : hasKey B d = false := by exact rfl) :
  Chain P ops n (⟨some d, .binOp .eql T (.tmp t) (.const (.int .i64 j)) T', ty, pos, after, none⟩ :: rest) [] L B K := .cons (.eqI .none (.s h1) (.int hj)) hB k
theorem Chain.nei {T T' : TypeId} {i j : Int} (h1 : look L t = some ⟨True, rep i⟩) (k : Chain P ops n rest [] ((d, ⟨True, rep (!decide (i = j))⟩) :: L) B K) (hj : InI j := by decide) (hB : hasKey B d = false := by exact rfl) :
  Chain P ops n (⟨some d, .binOp .neq T (.tmp t) (.const (.int .i64 j)) T', ty, pos, after, none⟩ :: rest) [] L B K := .cons (.neI .none (.s h1) (.int hj)) hB k
theorem Chain.ra {α : Type} [Rep α] {e v : α} (hv : v = e) (h : look L t = some ⟨True, rep e⟩) (k : Chain P ops n rest [] ((d, ⟨True, rep v⟩) :: L) B K) (hB : hasKey B d = false := by exact rfl) :
  Chain P ops n (⟨some d, .assign (.tmp t), ty, pos, after, none⟩ :: rest) [] L B K := .cons (.re hv (.assign .none (.s h))) hB k
theorem Chain.rlA {T : TypeId} {α : Type} [Rep α] {y v : α} (hv : v = y) (hT : Ty P T α) (h : look L t = some ⟨True, ref y⟩) (k : Chain P ops n rest aux ((d, ⟨True, rep v⟩) :: L) B K) (hB : hasKey B d = false := by exact rfl) :
  Chain P ops n (⟨some d, .load T (.tmp t), ty, pos, after, none⟩ :: rest) ((xr, []) :: aux) L B K := .consA (.re hv (.load .none hT (.s h))) hB k
theorem Chain.fe {S f o off E' : Nat} {s : Value} {α : Type} [Rep α] {l : List α} {j : Int} (q : Nat) (hF : FieldAt P S f o) (hx : look L t = some ⟨True, isV (elemPtr s (j.toNat * Rep.sz α + off))⟩) (hk : lookB B q = some (CPred.at s (rowV E' l)))
  (hb : 0 ≤ j ∧ j < l.length) (k : Chain P ops n rest aux ((d, ⟨True, isV (elemPtr s (j.toNat * Rep.sz α + (off + o)))⟩) :: L) B K) (hB : hasKey B d = false := by exact rfl) :
  Chain P ops n (⟨some d, .fieldAddr S (.tmp t) f, ty, pos, after, none⟩ :: rest) (([q], []) :: aux) L B K := .consA (.fieldElem (k := q) .none hF (.s hx) hk (fun _ => hb)) hB k
theorem Chain.st {T T' u : Nat} {α : Type} [Rep α] {y y0 : α} (hT : Ty P T α) (hl : lookB B t = some (cont T' y0)) (ht : Nat.blt t n = true) (hx : look L u = some ⟨True, rep y⟩) (k : Chain P ops n rest aux L ((t, some (cont T' y)) :: ([] ++ B)) K) :
  Chain P ops n (⟨none, .store T (.tmp t) (.tmp u), ty, pos, after, none⟩ :: rest) (([t], [t]) :: aux) L B K := .consN (.store hT hl ht (.s hx)) rfl k
theorem Chain.ln {T E : Nat} {α : Type} [Rep α] {l : List α} (hT : SliceOf P T E) (h : look L t = some ⟨True, rep l⟩) (k : Chain P ops n rest [] ((d, ⟨True, rep (l.length : Int)⟩) :: L) B K) (hB : hasKey B d = false := by exact rfl) :
  Chain P ops n (⟨some d, .call { callee := .builtin .len, args := #[.tmp t], argTypes := #[T] }, ty, pos, after, none⟩ :: rest) [] L B K := .cons (.len .none hT (.s h)) hB k
theorem Chain.al {T : Nat} {α : Type} [Rep α] {z : α} (hz : ZeroOf P T z) (hd : Nat.blt d n = true) (k : Chain P ops n rest aux ((d, ⟨True, anyV⟩) :: L) ((d, some (cont T z)) :: ([] ++ B)) K) (hB : hasKey B d = false := by exact rfl) :
  Chain P ops n (⟨some d, .alloc T, ty, pos, after, none⟩ :: rest) (([], [d]) :: aux) L B K := .consW (.alloc hz hd) rfl hB k
theorem Chain.s0 {T T' m u : Nat} {α : Type} [Rep α] {y0 z : α} (q : Nat) (hT : Ty P T α) (hl : lookB B q = some (boxAt m T' y0)) (hp : look L t = some ⟨True, isV (ptr m 0)⟩) (hx : look L u = some ⟨True, rep z⟩)
  (k : Chain P ops n rest aux L ((q, some (boxAt m T' z)) :: ([] ++ B)) K) : Chain P ops n (⟨none, .store T (.tmp t) (.tmp u), ty, pos, after, none⟩ :: rest) (([q], [q]) :: aux) L B K := .consN (.storeAt0 (g := q) hT hl (.s hp) (.s hx)) rfl k
end
section
variable {P : Program} {ops : Array Oper} {fs : Nat} {L : Slots} {B : Owns} {ty : TypeId} {pos : String} {after : Array Edge}
theorem StepOK.cO {d : Option Nat} {f : Nat} {xs : Array Operand} {ts : Array TypeId} {Ss : List SPred} {Os : Given} {S : SPred} {outs : List (Option CPred)} {V : Nat × Option CPred} {Ws : Writes} {xk : List Nat} (ks : List Nat) (hspec : FSpecO P f Ss Os S outs)
  (hx : OpdL L True xs.toList Ss) (hH : Holds B ks Os) (hW : outW (Os.map (·.1)) ks d outs = V :: Ws) (hnd : (ks ++ d.toList).Nodup := by decide) (hxk : ∀ k ∈ ks, k ∈ xk := by decide) (hd : ∀ d', d = some d' → d' < fs := by intro d h; cases h; decide) :
  StepOK P ops fs ⟨d, .call { callee := .value (.func f), args := xs, argTypes := ts }, ty, pos, after, none⟩ L B (ks, xk) ⟨True, S⟩ (V :: Ws) := .callO ks hspec hx hH hW hnd hxk hd
end
section
variable {P : Program} {Q : Exit → Act → World → Prop} {n : Nat} {F : Fr} {L : Slots} {B : Owns}
theorem Cod.sr {id : Nat} {l : List Oper} {draw : Bool} {y : Code} (aux : List Aux) (hm : P.follows .mixedOrders = true)
  (h : Chain P l.toArray n l aux L B (fun L' B' => Cod P y Q n F L' B')) (hok : regOk n l.toArray aux = true := by kernel_rfl) : Cod P (.seq (.region id l.toArray draw) y) Q n F L B :=
 .seq (.region aux hm hok h)
theorem Cod.rg {id : Nat} {l : List Oper} {draw : Bool} (aux : List Aux) (hm : P.follows .mixedOrders = true)
  (h : Chain P l.toArray n l aux L B (fun L' B' => Ends Q .normal n F L' B')) (hok : regOk n l.toArray aux = true := by kernel_rfl) : Cod P (.region id l.toArray draw) Q n F L B :=
 .region aux hm hok h
theorem Cod.sn {id : Nat} {l : List Oper} {draw : Bool} {y : Code} (hm : P.follows .mixedOrders = true) (h : Chain P l.toArray n l [] L B (fun L' B' => Cod P y Q n F L' B')) (hok : regOk n l.toArray [] = true := by kernel_rfl) :
  Cod P (.seq (.region id l.toArray draw) y) Q n F L B := .sr [] hm h hok
theorem Cod.rn {id : Nat} {l : List Oper} {draw : Bool} (hm : P.follows .mixedOrders = true) (h : Chain P l.toArray n l [] L B (fun L' B' => Ends Q .normal n F L' B')) (hok : regOk n l.toArray [] = true := by kernel_rfl) :
  Cod P (.region id l.toArray draw) Q n F L B := .rg [] hm h hok
theorem Cod.tJ {x y : Code} (prop : Unit → Prop) {keep : Slots} {keepB : Owns} (hk : Sub L keep) (hkB : SubB B keepB) (h : Cod P x (Exit.then (fun a w => ∃ j : Unit, prop j ∧ Sat n F ((fun _ => ([] : Slots)) j ++ keep) ((fun _ => ([] : Owns)) j ++ keepB) a w) Q) n F L B)
  (k : ∀ i : Unit, prop i → Cod P y Q n F ((fun _ => ([] : Slots)) i ++ keep) ((fun _ => ([] : Owns)) i ++ keepB)) : Cod P x (Exit.then (y.wp P Q) Q) n F L B := .thenJ (fun _ => []) (fun _ => []) prop hk hkB h k
theorem Sub.k4 {e1 e2 e3 e4 : Ent} {L' : Slots} (a b c d : Nat) (h1 : look L a = some e1) (h2 : look L b = some e2) (h3 : look L c = some e3) (h4 : look L d = some e4) (r : Sub L L') : Sub L ((a, e1) :: (b, e2) :: (c, e3) :: (d, e4) :: L') := .cons h1 (.cons h2 (.cons h3 (.cons h4 r)))
theorem Sub.k2 {e1 e2 : Ent} {L' : Slots} (a b : Nat) (h1 : look L a = some e1) (h2 : look L b = some e2) (r : Sub L L') : Sub L ((a, e1) :: (b, e2) :: L') := .cons h1 (.cons h2 r)
theorem SubB.k2 {C1 C2 : CPred} {B' : Owns} (a b : Nat) (h1 : lookB B a = some C1) (h2 : lookB B b = some C2) (r : SubB B B') : SubB B ((a, some C1) :: (b, some C2) :: B') := .cons h1 (.cons h2 r)
theorem Cod.cb {t : Nat} {x y : Code} {b : Bool} {β : Type} {A C r : Option β} (hl : look L t = some ⟨True, rep b⟩) (h : (bif b then A else C) = r)
  (h1 : b = true → A = r → Cod P x Q n F L B) (h2 : b = false → C = r → Cod P y Q n F L B) : Cod P (.cond (.tmp t) x y) Q n F L B :=
 .cond hl trivial (fun hb => h1 hb (bif_t h hb)) (fun hb => h2 hb (bif_f h hb))
inductive SubI (L : Slots) : Slots → Prop
 | n : SubI L []
 | c {t : Nat} {e : Ent} {L' : Slots} (h : look L t = some e) (k : SubI L L') : SubI L ((t, e) :: L')
inductive SubJ (B : Owns) : Owns → Prop
 | n : SubJ B []
 | c {t : Nat} {e : CPred} {B' : Owns} (h : lookB B t = some e) (k : SubJ B B') : SubJ B ((t, some e) :: B')
theorem SubI.sub {L L' : Slots} (h : SubI L L') : Sub L L' := by
 induction h with
 | n => exact .nil
 | c h _ ih => exact .cons h ih
theorem SubJ.sub {B B' : Owns} (h : SubJ B B') : SubB B B' := by
 induction h with
 | n => exact .nil
 | c h _ ih => exact .cons h ih
theorem Ends.j {ι : Type} {Ls : ι → Slots} {Bs : ι → Owns} {prop : ι → Prop} {keep : Slots} {keepB : Owns} (j : ι) (hp : prop j) (h : SubI L (Ls j ++ keep) := by repeat constructor) (hB : SubJ B (Bs j ++ keepB) := by repeat constructor) :
  Ends (Exit.then (fun a w => ∃ j, prop j ∧ Sat n F (Ls j ++ keep) (Bs j ++ keepB) a w) Q) .normal n F L B := .join j hp h.sub hB.sub
theorem Ends.ag {σ ρ : Type} {o : Step σ ρ} {Ls : σ → Slots} {Bs : σ → Owns} {keep : Slots} {keepB : Owns} {s' : σ} (ho : o = .again s') (h : SubI L (Ls s' ++ keep) := by repeat constructor) (hB : SubJ B (Bs s' ++ keepB) := by repeat constructor) :
  Ends (Exit.then (fun a w => ∃ s', o = .again s' ∧ Sat n F (Ls s' ++ keep) (Bs s' ++ keepB) a w) Q) .normal n F L B := .againL ho h.sub hB.sub
theorem Ends.rt {fn : Func} {e : Exit} {t : Nat} {S : SPred} (hr : fn.results = #[.tmp t]) (h : look L t = some ⟨True, S⟩) (he : e = .ret ∨ e = .normal := by exact .inl rfl) : Ends (bodyPost P fn (Post F S)) e n F L B :=
 .ret1 he hr (.tmp h trivial Imp.refl)
theorem Cod.fb {c : Code} {T m : Nat} {α : Type} [Rep α] {y : α} (q : Nat) (ts : List Nat) (hl : lookB B q = some (boxAt m T y)) (hts : AllAre L (ptr m 0) ts) (k : Cod P c Q n F (fillS (ref y) ts L) []) : Cod P c Q n F L B := .freezeBox hl hts .nil rfl k
theorem Ends.r2 {fn : Func} {e : Exit} {t t2 T : Nat} {S2 : SPred} {α : Type} [Rep α] {y : α} (hr : fn.results = #[.cell t T, .tmp t2]) (hT : Ty P T α) (h : look L t = some ⟨True, ref y⟩) (h2 : look L t2 = some ⟨True, S2⟩) (he : e = .ret ∨ e = .normal := by exact .inl rfl) :
  Ends (bodyPost P fn (Post F (tup [rep y, S2]))) e n F L B := .ret2 he hr (.cellR hT h trivial Imp.refl) (.tmp h2 trivial Imp.refl)
theorem FSpec.i {f : Nat} {fn : Func} {c : Code} {Ss : List SPred} {S : SPred} (hf : P.funcs[f]? = some fn) (hb : fn.body = some c) (hn : fn.ntmps = n) (hle : Nat.ble Ss.length n = true)
  (h : ∀ F, Cod P c (bodyPost P fn (Post F S)) n F (args0 0 Ss) []) (hN : (fn.name == "runtime.NumGoroutine") = false := by kernel_rfl) (hB : fn.body.isNone = false := by kernel_rfl) : FSpec P f Ss S := .intro ⟨fn, hf, hN, hB⟩ hf hb hn hle h
theorem FSpecO.i {f : Nat} {fn : Func} {c : Code} {Ss : List SPred} {Os : Given} {S : SPred} {outs : List (Option CPred)} (hf : P.funcs[f]? = some fn) (hb : fn.body = some c) (hn : fn.ntmps = n) (hle : Nat.ble Ss.length n = true)
  (h : ∀ F, Cod P c (bodyPost P fn (PostO F S (Os.map (·.1)) outs)) n F (args0 0 Ss) (owns0 n Os)) (hN : (fn.name == "runtime.NumGoroutine") = false := by kernel_rfl) (hB : fn.body.isNone = false := by kernel_rfl) : FSpecO P f Ss Os S outs := .intro ⟨fn, hf, hN, hB⟩ hf hb hn hle h
end
end Go.DB
namespace Go.DB
open Go Go.RowKit
section
variable {P : Program} {Q : Exit → Act → World → Prop} {n : Nat} {F : Fr} {L : Slots} {B : Owns}
end
section
variable {P : Program} {ops : Array Oper} {fs : Nat} {L : Slots} {B : Owns} {ty : TypeId} {pos : String} {after : Array Edge} {d : Option Tmp} {xr : List Nat}
end
end Go.DB
namespace Go.DB
open Go Go.RowKit
section
variable {P : Program} {ops : Array Oper} {fs : Nat} {L : Slots} {B : Owns} {ty : TypeId} {pos : String} {after : Array Edge} {g : Option (Nat × Bool)}
end
section
variable {P : Program} {ops : Array Oper} {fs : Nat} {L : Slots} {B : Owns} {d : Option Tmp} {ty : TypeId} {pos : String} {after : Array Edge} {g : Option (Nat × Bool)} {G : Prop}
variable {K V : Type} [Rep K] [DecidableEq K] [MKey K] [Rep V] {m : GMap K V} {k : K} {z : V} {T kt et : TypeId}
end
end Go.DB
namespace Go.DB
open Go Go.RowKit
def validS (s : Str) : Bool := Go.Lib.validD s.b
theorem validS_spec {P : Program} {ρ : Shelf.Ren} (Ly : Proofs.Lays.n196 P ρ) {f : Nat} (hf : ρ.f 196 = f) (h3 : ρ.g 3 = gFirst) (h4 : ρ.g 4 = gAcc) (ok : FnOK P f) {s : Str} : FSpec P f [rep s] (rep (validS s)) := by
 refine ⟨ok, fun M w vs hM ha => ?_⟩
 match vs, ha with
 | [v], ⟨hv, _⟩ =>
  obtain ⟨rfl, hs⟩ := rep_str.1 hv
  subst hf
  have hT : Go.Lib.Utf8Tabs (ρ.g 3) (ρ.g 4) w := by rw [h3, h4]; exact hM.glob.tabs
  refine Calls.mono (Proofs.Any.utf8_ValidString Ly (ByteArray.mk s.b.toArray) w hs hT) ?_
  rintro e w' ⟨rfl, hb⟩
  exact ⟨Ext.of_below hb, _, rfl, rep_bool.2 rfl⟩
end Go.DB
namespace Go.DB
open Go Go.RowKit
def trimS (s cs : Str) : Str := ⟨Go.Lib.trimS s.b cs.b⟩
theorem trimS_spec {P : Program} {ρ : Shelf.Ren} (Ly : Proofs.Lays.n160 P ρ) (h116 : (P.info? (ρ.t 116)).map (fun i => (i.zero, i.size)) = some (some (.agg (Array.replicate 256 (.bool false))), 256)) {f : Nat} (hf : ρ.f 160 = f) (ok : FnOK P f)
  {s cs : Str} (hs : (cs.b.length : Int) < 4294967281 ∧ cs.b.all (fun b => decide (b.toNat < 128)) = true) : FSpec P f [rep s, rep cs] (rep (trimS s cs)) := by
 refine ⟨ok, fun M w vs hM ha => ?_⟩
 match vs, ha with
 | [v, u], ⟨hv, hu, _⟩ =>
  obtain ⟨rfl, hs1⟩ := rep_str.1 hv
  obtain ⟨rfl, _⟩ := rep_str.1 hu
  subst hf
  have hz2 : (ByteArray.mk cs.b.toArray).size = cs.b.length := rfl
  have hz1 : (ByteArray.mk s.b.toArray).size = s.b.length := rfl
  refine Calls.mono (Proofs.Any.strings_Trim_laid Ly h116 (ByteArray.mk s.b.toArray) (ByteArray.mk cs.b.toArray) w (by omega) (by have := hs.1; omega) (by
   have := Proofs.ascii_of_all hs.2
   simpa using this)) ?_
  rintro e w' ⟨rfl, hb⟩
  have hle : ∀ (l c : List UInt8), (Go.Lib.trimS l c).length ≤ l.length := fun l c => by
   have h1 : ∀ (l : List UInt8), (Go.Lib.trimLeftS l c).length ≤ l.length := fun l => (List.dropWhile_suffix _).length_le
   refine Nat.le_trans (h1 _) ?_
   unfold Go.Lib.trimRightS
   simp only [List.length_reverse]
   exact Nat.le_trans (List.dropWhile_suffix _).length_le (by simp)
  refine ⟨⟨hb.os, hb.tape, hb.output, hb.size, fun k h1 _ => hb.block k h1⟩, _, rfl, rep_str.2 ⟨?_, ?_⟩⟩
  ·
   simp [trimS, strV]
  ·
   have := hle s.b cs.b
   show (Go.Lib.trimS s.b cs.b).length ≤ _
   omega
end Go.DB
