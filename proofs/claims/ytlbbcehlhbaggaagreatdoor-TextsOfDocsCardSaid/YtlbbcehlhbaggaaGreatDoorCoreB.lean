/-
  Plain rules on the program's operations, code and memory (texts laid together).
-/
import Derived.Test.YtlbbcehlhbaggaaGreatDoorCoreA
import Derived.Laws.AppendOwn
import Derived.Laws.MakeOwn
import Derived.Laws.Slices
import Derived.Laws.StructEq
/-
  Rows of one's own: slices that are made, appended to, written.
-/
set_option linter.unusedSimpArgs false
set_option linter.unusedVariables false
namespace Go.DB
open Go Go.RowKit

/-- Where a row of one's own lies: behind it there may be room. -/
def OwnLies {α : Type} [Rep α] (M D : MSet) (T : TypeId) (l : List α) (a : Option Addr) (cap : Nat) (w : World) : Prop :=
  match a with
  | none => l = [] ∧ cap = 0 ∧ ∀ k, ¬ D k
  | some ad => ad.spot = none ∧ (∀ k, D k ↔ k = ad.block) ∧ M ad.block ∧
      ∃ pre cs rest : List Value, HRow w ad.block (pre ++ cs ++ rest) T (Rep.sz α) ∧ pre.length = ad.off ∧ Elems M w l cs ∧ (cap - l.length) * Rep.sz α ≤ rest.length

/-- A row of one's own. -/
def rowV (T : TypeId) {α : Type} [Rep α] (l : List α) : CPred where
  p := fun M D v w => ∃ a cap, v = .slice a l.length cap ∧ l.length ≤ cap ∧ cap ≤ 9223372036854775807 ∧ OwnLies M D T l a cap w
  inM := fun M D v w ⟨a, cap, _, _, _, h⟩ k hk => by
    cases a with
    | none => exact absurd hk (h.2.2 k)
    | some ad => exact (h.2.1 k).1 hk ▸ h.2.2.1
  law := fun M M' D v w w' hk hm hown ⟨a, cap, hv, h1, h2, h⟩ => ⟨a, cap, hv, h1, h2, by
    cases a with
    | none => exact h
    | some ad =>
      obtain ⟨hs, hD, hM, pre, cs, rest, hh, hp, he, hr⟩ := h
      obtain ⟨g1, g2⟩ := hown ad.block ((hD _).2 rfl)
      exact ⟨hs, hD, g1, pre, cs, rest, hh.to g2, hp, Elems.law hk hm l cs he, hr⟩⟩

/-- The place of a part of an element. -/
def elemPtr (s : Value) (o : Nat) : Value :=
  match s with
  | .slice (some ad) _ _ => ptr ad.block (ad.off + o)
  | _ => .pointer none

/-- What closed facts tell of a slice's elements. -/
def RowOK (P : Program) (T E : TypeId) (α : Type) [Rep α] : Prop :=
  SliceOf P T E ∧ Ty P E α ∧ (P.info? E).bind (fun i => i.zero.map (fun z => Nat.beq z.cells.size (Rep.sz α) && Nat.ble i.bytes 4096)) = some true

theorem RowOK.get {P : Program} {T E : TypeId} {α : Type} [Rep α] (h : RowOK P T E α) : ∃ i z, P.underlying T = some (.slice E) ∧ P.info? E = some i ∧ i.zero = some z ∧ i.size = Rep.sz α ∧ z.cells.size = Rep.sz α ∧ i.bytes ≤ 4096 := by
  obtain ⟨h1, h2, h3⟩ := h
  obtain ⟨i, hi, h4⟩ := Option.bind_eq_some_iff.1 h3
  obtain ⟨z, hz, h5⟩ := Option.map_eq_some_iff.1 h4
  obtain ⟨i', hi', hs⟩ := Option.map_eq_some_iff.1 h2.size
  obtain rfl : i = i' := by rw [hi] at hi'; simpa using hi'
  simp only [Bool.and_eq_true, Nat.beq_eq_true_eq, Nat.ble_eq] at h5
  exact ⟨i, z, h1, hi, hz, hs, by simpa using h5.1, h5.2⟩

theorem Elems.append {α : Type} [Rep α] {M : MSet} {w : World} : ∀ (xs ys : List α) (cs ds : List Value), Elems M w xs cs → Elems M w ys ds → Elems M w (xs ++ ys) (cs ++ ds)
  | [], _, _, _, h, k => by rw [show _ = [] from h]; exact k
  | x :: xs, ys, _, ds, ⟨c, r, h, h1, h2⟩, k => ⟨c, r ++ ds, by rw [h, List.append_assoc], h1, Elems.append xs ys r ds h2 k⟩

theorem Elems.plain {α : Type} [Rep α] {M : MSet} {w : World} : ∀ (xs : List α) (cs : List Value), Elems M w xs cs → ∀ c ∈ cs, isOne c = true
  | [], _, h, c, hc => by rw [show _ = [] from h] at hc; cases hc
  | x :: xs, _, ⟨c1, r, h, h1, h2⟩, c, hc => by
    rw [h] at hc
    rcases List.mem_append.1 hc with hc | hc
    · exact Rep.plain h1 c hc
    · exact Elems.plain xs r h2 c hc

theorem Elems.take {α : Type} [Rep α] {M : MSet} {w : World} : ∀ (xs : List α) (cs : List Value) (i : Nat), i ≤ xs.length → Elems M w xs cs → Elems M w (xs.take i) (cs.take (i * Rep.sz α)) ∧ Elems M w (xs.drop i) (cs.drop (i * Rep.sz α))
  | xs, cs, 0, _, h => by simp only [List.take_zero, Nat.zero_mul, List.drop_zero]; exact ⟨rfl, h⟩
  | x :: xs, _, i + 1, hi, ⟨c, r, h, h1, h2⟩ => by
    obtain ⟨h3, h4⟩ := Elems.take xs r i (by simpa using hi) h2
    have hl := Rep.len h1
    rw [h, show (i + 1) * Rep.sz α = c.length + i * Rep.sz α by rw [hl, Nat.add_mul, Nat.one_mul]; omega, List.take_length_add_append, List.drop_length_add_append]
    exact ⟨⟨c, _, rfl, h1, h3⟩, h4⟩

theorem Elems.set {α : Type} [Rep α] {M : MSet} {w : World} : ∀ (xs : List α) (cs : List Value) (i : Nat) (x : α) (c : List Value), i < xs.length → Elems M w xs cs → Rep.cells M x c w →
    Elems M w (xs.set i x) (cs.take (i * Rep.sz α) ++ c ++ cs.drop (i * Rep.sz α + Rep.sz α))
  | y :: xs, _, 0, x, c, _, ⟨c1, r, h, h1, h2⟩, hc => by
    rw [Nat.zero_mul, List.take_zero, List.nil_append, Nat.zero_add, h, ← Rep.len h1, List.drop_left]
    exact ⟨c, r, rfl, hc, h2⟩
  | y :: xs, _, i + 1, x, c, hi, ⟨c1, r, h, h1, h2⟩, hc => by
    have ih := Elems.set xs r i x c (by simpa using hi) h2 hc
    have hl := Rep.len h1
    refine ⟨c1, _, ?_, h1, ih⟩
    rw [h, show (i + 1) * Rep.sz α = c1.length + i * Rep.sz α by rw [hl, Nat.add_mul, Nat.one_mul]; omega, List.take_length_add_append, Nat.add_assoc, List.drop_length_add_append]
    simp

theorem Lies.elems {α : Type} [Rep α] {M : MSet} {w : World} : ∀ (l : List α) (ad : Addr), Lies M l (some ad) w → ∃ cs, Elems M w l cs ∧ ∀ j u, cs[j]? = some u → w.cell? (ad.add j) = some u
  | [], _, _ => ⟨[], rfl, fun j u h => by simp at h⟩
  | x :: l, ad, h => by
    obtain ⟨h1, h2, h3, c, hc, hr⟩ := h 0 (by simp)
    obtain ⟨b, off, sp⟩ := ad
    simp only at h1 h2 h3 hr
    subst h1
    obtain ⟨r, he, hj⟩ := Lies.elems l ⟨b, off + Rep.sz α, none⟩ (fun i hi => by
      obtain ⟨_, _, _, c', hc', hr'⟩ := h (i + 1) (by simpa using hi)
      refine ⟨rfl, h2, h3, c', by simpa using hc', fun j hj => ?_⟩
      have := hr' j hj
      simp only at this ⊢
      rw [← this, Nat.add_mul]
      congr 2; omega)
    refine ⟨c ++ r, ⟨c, r, rfl, by simpa using hc, he⟩, fun j u hu => ?_⟩
    rw [add_none]
    have hl := Rep.len hc
    by_cases hj' : j < Rep.sz α
    · rw [List.getElem?_append_left (by omega)] at hu
      have := hr j hj'
      simp only [Nat.zero_mul, Nat.add_zero] at this
      rw [this]; exact hu
    · rw [List.getElem?_append_right (by omega)] at hu
      have := hj (j - c.length) u hu
      rw [add_none] at this
      rw [← this, hl]
      congr 2; omega

/-- An operand that stands for memory of one's own: its own slot's, or a told value's. -/
def RowArg (L : Slots) (B : Owns) (x : Operand) (k : Nat) (C : CPred) : Prop :=
  (x = .tmp k ∧ lookB B k = some C) ∨ ∃ s, Opd L True x (isV s) ∧ lookB B k = some (CPred.at s C)

theorem eval_val {a : Act} {t : Nat} : a.eval (.tmp t) = Act.val a t := by
  unfold Act.val
  cases h : a.tmps[t]? with
  | none => simp [Act.eval, h]
  | some v => rw [Act.eval_tmp h]; rfl

theorem RowArg.get {L : Slots} {B : Owns} {x : Operand} {k : Nat} {C : CPred} (h : RowArg L B x k C) {ts ks : List Nat} {M : MSet} {D : Nat → MSet} {a : Act} {w : World}
    (hs : SatOn ts M L a w) (hx : ∀ t, x = .tmp t → t ∈ ts) (hB : SatB ks M D B a w) (hk : k ∈ ks) : C.p M (D k) (a.eval x) w ∧ ∃ C', lookB B k = some C' := by
  rcases h with ⟨rfl, hl⟩ | ⟨s, hx', hl⟩
  · rw [eval_val]; exact ⟨hB.has k hk _ hl, _, hl⟩
  · have := (rep_raw.1 (hx'.get hs hx trivial)).1
    rw [this]
    have := hB.has k hk _ hl
    exact ⟨this, _, hl⟩

theorem RowArg.tmp {L : Slots} {B : Owns} {k : Nat} {C : CPred} (h : lookB B k = some C) : RowArg L B (.tmp k) k C := .inl ⟨rfl, h⟩
theorem RowArg.told {L : Slots} {B : Owns} {x : Operand} {k : Nat} {s : Value} {C : CPred} (hx : Opd L True x (isV s)) (h : lookB B k = some (CPred.at s C)) : RowArg L B x k C := .inr ⟨s, hx, h⟩

section
variable {P : Program} {ops : Array Oper} {fs : Nat} {L : Slots} {B : Owns} {G : Prop}
variable {d : Option Tmp} {ty : TypeId} {pos : String} {after : Array Edge} {xr : List Nat}

theorem lookB2 {d k t : Nat} {C : Option CPred} {c : CPred} (h : lookB [(d, C), (k, none)] t = some c) : t = d ∧ C = some c := by
  simp only [lookB] at h
  by_cases h1 : d = t
  · subst h1
    have hb : Nat.beq d d = true := by simp
    rw [hb, cond_true] at h
    exact ⟨rfl, h⟩
  · rw [beq_ne h1, cond_false] at h
    by_cases h2 : k = t
    · subst h2; simp at h
    · rw [beq_ne h2] at h; cases h

theorem StepOK.doing {op : Op} {x : Aux} {E : Ent} {Ws : Writes} (h : ∀ (M : MSet) (D : Nat → MSet) (a : Act) (w : World), a.tmps.size = fs → Low M w →
    SatOn ((⟨d, op, ty, pos, after, none⟩ : Oper).looksAt ops ++ x.1) M L a w → SatB (x.1 ++ x.2) M D B a w → Does P ⟨d, op, ty, pos, after, none⟩ a w (Leaves ⟨d, op, ty, pos, after, none⟩ B D x.2 E Ws M a w)) :
    StepOK P ops fs ⟨d, op, ty, pos, after, none⟩ L B x E Ws := by
  intro M D a w h1 h2 h3 h4
  have hw : Region.wanted (⟨d, op, ty, pos, after, none⟩ : Oper) (yielded ops a.tmps) = true := rfl
  rw [if_pos hw]
  exact h M D a w h1 h2 h3 h4

/-- Memory goes from one key to another. -/
theorem Leaves.pass {o : Oper} {D : Nat → MSet} {E : Ent} {M : MSet} {a : Act} {w : World} {v : Value} {w' : World} {d k : Nat} {C C0 : CPred} (M' Dd : MSet) (hl : lookB B k = some C0)
    (hk : Keeps (D k) w w') (h1 : ∀ j, M j → M' j) (h2 : ∀ j, M' j → M j ∨ w.heap.size ≤ j) (h3 : ∀ j, M' j → j < w'.heap.size) (h4 : E.holds M' v w') (h5 : C.p M' Dd (Act.val (a.put o.dst v) d) w')
    (h6 : ∀ j, Dd j → D k j ∨ w.heap.size ≤ j) : Leaves o B D [d, k] E [(d, some C), (k, none)] M a w v w' := by
  have hm : ∀ j, D k j → Mine [d, k] B D j := fun j hj => ⟨k, by simp, C0, hl, hj⟩
  refine ⟨M', fun _ => Dd, hk.mono (fun j _ h => hm j h), fun j h => .inl (h1 j h), h2, h3, h4, fun t c hc => ?_, fun t1 t2 c1 c2 hc1 hc2 hne => ?_⟩
  · obtain ⟨rfl, hc'⟩ := lookB2 (C := some C) hc
    obtain rfl : C = c := Option.some.inj hc'
    exact ⟨h5, fun j hj => (h6 j hj).imp (hm j) id⟩
  · exact absurd ((lookB2 hc1).1.trans (lookB2 hc2).1.symm) hne

/-- A slice that is not made yet. -/
theorem StepOK.nilRow {d T : Nat} {α : Type} [Rep α] (hd : Nat.blt d fs = true) : StepOK P ops fs ⟨some d, .assign (.const (.slice none 0 0)), ty, pos, after, none⟩ L B ([], [d]) ⟨True, anyV⟩ [(d, some (rowV T ([] : List α)))] := by
  refine .doing fun M D a w hsz hm _ _ => ?_
  refine Does.value (v := .slice none 0 0) (w' := w) rfl (.one M NoM (Keeps.refl _ _) (fun _ h => h) (fun _ h => .inl h) hm ⟨fun _ => trivial, fun hf => (hf trivial).elim⟩ ?_ (fun k h => h.elim))
  rw [val_self (by rw [hsz]; exact Nat.le_of_ble_eq_true hd)]
  exact ⟨none, 0, rfl, Nat.le_refl _, by omega, rfl, rfl, fun k h => h⟩

/-- A row is handed on. -/
theorem StepOK.passRow {d k : Nat} {x : Operand} {C : CPred} (hd : Nat.blt d fs = true) (hx : RowArg L B x k C) : StepOK P ops fs ⟨some d, .assign x, ty, pos, after, none⟩ L B ([k], [d, k]) ⟨True, anyV⟩ [(d, some C), (k, none)] := by
  refine .doing fun M D a w hsz hm hs hsB => ?_
  obtain ⟨hC, C0, hl⟩ := hx.get hs (fun t ht => looksAt_op (by simp [Op.operands, ht])) hsB (by simp)
  refine Does.value (v := a.eval x) (w' := w) rfl (.pass M (D k) hl (Keeps.refl _ _) (fun _ h => h) (fun _ h => .inl h) hm ⟨fun _ => trivial, fun hf => (hf trivial).elim⟩ ?_ (fun j h => .inl h))
  rw [val_self (by rw [hsz]; exact Nat.le_of_ble_eq_true hd)]
  exact hC

theorem run_append_in {s T t : Nat} {i : TypeInfo} {w : World} {m off sLen sCap n : Nat} {xa : Option Addr} {xc : Nat} {news pre mid rest : List Value} {E : TypeId} (ht : P.underlying t = some (.slice E)) (hi : P.info? E = some i)
    (hnews : (Builtin.firstCells i.size n (.slice xa n xc)).run P w = .ok news.toArray w) (hl : news.length = n * i.size) (h1 : ∀ c ∈ news, isOne c = true)
    (hroom : sLen + n ≤ sCap) (hpre : pre.length = off + sLen * i.size) (hmid : mid.length = news.length) (hh : HRow w m (pre ++ mid ++ rest) T s) :
    ∃ w', (Builtin.append_ #[t, t] ty #[.slice (some ⟨m, off, none⟩) sLen sCap, .slice xa n xc]).run P w = .ok (.slice (some ⟨m, off, none⟩) (sLen + n) sCap) w' ∧ HRow w' m (pre ++ news ++ rest) T s ∧
      w'.os = w.os ∧ w'.tape = w.tape ∧ w'.output = w.output ∧ w'.heap.size = w.heap.size ∧ ∀ k, k ≠ m → w'.heap[k]? = w.heap[k]? := by
  obtain ⟨w', g1, g2⟩ := run_storeCells (P := P) (m := m) (off := off + sLen * i.size) (T := T) news pre mid rest w 0 hmid h1 (by omega) hh
  refine ⟨w', ?_, g2⟩
  simp [Builtin.append_, run_underlying ht, sizeOf, typeInfo, hi, Builtin.lenOf, hroom, hnews, add_none, g1]

theorem run_append_none {t : Nat} {i : TypeInfo} {w : World} {xa : Option Addr} {xc : Nat} {E : TypeId} {a : Option Addr} {sLen sCap : Nat} (ht : P.underlying t = some (.slice E)) (hi : P.info? E = some i)
    (hroom : sLen ≤ sCap) : (Builtin.append_ #[t, t] ty #[.slice a sLen sCap, .slice xa 0 xc]).run P w = .ok (.slice a sLen sCap) w := by
  have hnews : (Builtin.firstCells i.size 0 (.slice xa 0 xc)).run P w = .ok #[] w := by
    cases xa <;> simp [Builtin.firstCells, loadCells, loadCellsFrom]
  cases a <;> simp [Builtin.append_, run_underlying ht, sizeOf, typeInfo, hi, Builtin.lenOf, hroom, hnews, storeCells]

/-- What appends come to. -/
theorem run_appendB {t E : TypeId} {α : Type} [Rep α] (hT : RowOK P t E α) {M D : MSet} {l xs : List α} {s x : Value} {w : World} (hm : ∀ k, M k → k < w.heap.size) (hs : (rowV E l).p M D s w) (hx : (rep xs).p M x w)
    (hb : l.length + xs.length ≤ 140737488355328) (hbb : ∀ i, P.info? E = some i → (l.length + xs.length) * i.bytes ≤ 140737488355328) :
    ∃ v w' M' D', (Builtin.append_ #[t, t] ty #[s, x]).run P w = .ok v w' ∧ (rowV E (l ++ xs)).p M' D' v w' ∧ Keeps D w w' ∧ (∀ j, M j → M' j) ∧ (∀ j, M' j → M j ∨ w.heap.size ≤ j) ∧ (∀ j, M' j → j < w'.heap.size) ∧
      (∀ j, D' j → D j ∨ w.heap.size ≤ j) := by
  obtain ⟨i, z, ht, hi, hz, hsz, hzs, hby⟩ := hT.get
  obtain ⟨a, cap, rfl, hlc, hcm, ho⟩ := hs
  obtain ⟨xa, xcap, rfl, hxc, _, hlx⟩ := rep_list.1 hx
  have hspos : 0 < Rep.sz α := Rep.pos
  -- the new elements' cells
  have hnews : ∃ ns, Elems M w xs ns ∧ (Builtin.firstCells i.size xs.length (.slice xa xs.length xcap)).run P w = .ok ns.toArray w ∧ ns.length = xs.length * i.size ∧
      (∀ ad, xa = some ad → ∀ j u, ns[j]? = some u → w.cell? (ad.add j) = some u) ∧ (xa = none → xs = []) := by
    cases xa with
    | none =>
      have : xs = [] := hlx
      subst this
      exact ⟨[], rfl, rfl, by simp, (fun ad h => by cases h), fun _ => rfl⟩
    | some ad =>
      obtain ⟨cs, he, hj⟩ := Lies.elems xs ad hlx
      have hcl : cs.length = xs.length * i.size := by rw [he.len, hsz]
      exact ⟨cs, he, run_firstCells_some w i.size xs.length ad xs.length xcap cs hcl hj, hcl, (fun ad' h => by cases h; exact hj), (fun h => by cases h)⟩
  obtain ⟨ns, hne, hfc, hnl, hnj, hnn⟩ := hnews
  by_cases h0 : xs = []
  · subst h0
    have hns : ns = [] := hne
    subst hns
    refine ⟨_, w, M, D, run_append_none ht hi hlc, ?_, Keeps.refl _ _, fun _ h => h, fun _ h => .inl h, hm, fun _ h => .inl h⟩
    rw [List.append_nil]
    exact ⟨a, cap, rfl, hlc, hcm, ho⟩
  have hxpos : 0 < xs.length := List.length_pos_iff.2 h0
  obtain ⟨xad, rfl⟩ : ∃ ad, xa = some ad := by
    cases xa with
    | none => exact absurd (hnn rfl) h0
    | some ad => exact ⟨ad, rfl⟩
  have hnj := hnj xad rfl
  -- a row that grows
  have grown : ∀ (cs : List Value) (old : Nat), Elems M w l cs → old < l.length + xs.length → ∀ w', w' = w.drew.alloc (.cells (cs.toArray ++ ns.toArray ++ Builtin.zeroCells z.cells (grownCap w (l.length + xs.length) old E - (l.length + xs.length))) E) →
      (rowV E (l ++ xs)).p (fun j => M j ∨ j = w.heap.size) (fun j => j = w.heap.size) (.slice (some ⟨w.heap.size, 0, none⟩) (l.length + xs.length) (grownCap w (l.length + xs.length) old E)) w' ∧ Keeps D w w' ∧
      (∀ j, (M j ∨ j = w.heap.size) → j < w'.heap.size) := by
    intro cs old he ho w' hw'
    have hext : Ext w w' := by
      subst hw'
      exact Keeps.trans (Ext.drew w) (Ext.alloc w.drew _)
    have hsize : w'.heap.size = w.heap.size + 1 := by subst hw'; rw [size_new]; rfl
    have hge := grownCap_ge w (l.length + xs.length) old E
    have hle := grownCap_le_maxLen w (l.length + xs.length) old E (by simp only [maxLen]; omega)
    have hkm : ∀ j, (M j ∨ j = w.heap.size) → M j ∨ w.heap.size ≤ j := fun j h => h.imp id (by omega)
    refine ⟨⟨some ⟨w.heap.size, 0, none⟩, _, by rw [List.length_append], by rw [List.length_append]; exact hge, by simp only [maxLen] at hle; exact hle, rfl, fun j => Iff.rfl, .inr rfl, [], cs ++ ns,
      (Builtin.zeroCells z.cells (grownCap w (l.length + xs.length) old E - (l.length + xs.length))).toList, ?_, rfl, ?_, ?_⟩, hext.keeps, fun j h => ?_⟩
    · subst hw'
      refine HRow.of ?_
      show (w.drew.heap.push _)[w.heap.size]? = _
      rw [show w.heap.size = w.drew.heap.size from rfl, Array.getElem?_push_size]
      simp
    · exact Elems.append _ _ _ _ (Elems.law hext.keeps hkm l cs he) (Elems.law hext.keeps hkm xs ns hne)
    · refine Nat.le_of_eq (Eq.symm ?_); rw [Array.length_toList, size_zeroCells, hzs, List.length_append]
    · rw [hsize]
      rcases h with h | h
      · have := hm j h; omega
      · omega
  have hbytes : (l.length + xs.length) * i.bytes ≤ 140737488355328 := hbb i hi
  cases a with
  | none =>
    obtain ⟨rfl, rfl, hD⟩ := ho
    have hr := run_append_nil (P := P) w t ty E i z ht hi hz xad xs.length xcap ns hnl hnj hxpos (by simp at hb; omega) (by simp at hbytes; omega)
    obtain ⟨g1, g2, g3⟩ := grown [] 0 rfl (by simp; omega) _ rfl
    simp only [List.length_nil, Nat.zero_add, List.nil_append] at g1 g2 g3
    have e : ∀ c, (#[] ++ ns.toArray ++ c : Array Value) = ns.toArray ++ c := by intro c; simp
    rw [e] at g1 g2 g3
    exact ⟨_, _, _, _, hr, g1, g2, fun j h => .inl h, fun j h => h.imp id (by omega), g3, fun j h => .inr (by omega)⟩
  | some ad =>
    obtain ⟨hsp, hD, hM, pre, cs, rest, hh, hp, he, hrest⟩ := ho
    obtain ⟨b, off, sp⟩ := ad
    simp only at hsp hD hM hh hp
    subst hsp
    have hcl := he.len
    by_cases hroom : l.length + xs.length ≤ cap
    · have hnl' : ns.length ≤ rest.length := by
        rw [hnl, hsz]
        exact Nat.le_trans (Nat.mul_le_mul_right _ (by omega)) hrest
      obtain ⟨w', h1, h2, h3, h4, h5, h6, h7⟩ := run_append_in (P := P) (ty := ty) (T := E) (m := b) (off := off) (sLen := l.length) (sCap := cap) (n := xs.length) (pre := pre ++ cs) (mid := rest.take ns.length) (rest := rest.drop ns.length) ht hi hfc hnl
        (Elems.plain xs ns hne) hroom (by rw [List.length_append, hp, hcl, hsz]) (by rw [List.length_take]; omega) (hh.re (by simp))
      have hkD : Keeps D w w' := ⟨h3, h4, h5, by omega, fun k _ hn => h7 k (fun e => hn ((hD k).2 e))⟩
      have hkM : Keeps M w w' := ⟨h3, h4, h5, by omega, fun k _ hn => h7 k (fun e => hn (e ▸ hM))⟩
      refine ⟨_, w', M, D, h1, ⟨some ⟨b, off, none⟩, cap, by rw [List.length_append], by rw [List.length_append]; exact hroom, hcm, rfl, hD, hM, pre, cs ++ ns, rest.drop ns.length, h2.re (by simp), hp, ?_, ?_⟩, hkD, fun _ h => h, fun _ h => .inl h,
        fun j h => by rw [h6]; exact hm j h, fun _ h => .inl h⟩
      · exact Elems.append _ _ _ _ (Elems.law hkM (fun _ h => .inl h) l cs he) (Elems.law hkM (fun _ h => .inl h) xs ns hne)
      · rw [List.length_drop, hnl, hsz, List.length_append]
        have e : (cap - (l.length + xs.length)) * Rep.sz α = (cap - l.length) * Rep.sz α - xs.length * Rep.sz α := by rw [← Nat.sub_mul]; congr 1; omega
        rw [e]; omega
    · have holds : ∀ j u, cs[j]? = some u → w.cell? ((⟨b, off, none⟩ : Addr).add j) = some u := by
        intro j u hu
        rw [add_none, hh.cell, List.getElem?_toArray, List.append_assoc, List.getElem?_append_right (by omega), List.getElem?_append_left (by have := (List.getElem?_eq_some_iff.1 hu).1; omega), hp]
        rw [← hu]; congr 1; omega
      have hr := run_append_grow (P := P) w t ty E i z ht hi hz ⟨b, off, none⟩ l.length cap cs (by rw [hcl, hsz]) holds xad xs.length xcap ns hnl hnj (by omega) (by omega) (growslice_fits (by omega) hbytes)
      obtain ⟨g1, g2, g3⟩ := grown cs cap he (by omega) _ rfl
      exact ⟨_, _, _, _, hr, g1, g2, fun j h => .inl h, fun j h => h.imp id (by omega), g3, fun j h => .inr (by omega)⟩

theorem run_append {t E : TypeId} {α : Type} [Rep α] (hT : RowOK P t E α) {M D : MSet} {l xs : List α} {s x : Value} {w : World} (hm : ∀ k, M k → k < w.heap.size) (hs : (rowV E l).p M D s w) (hx : (rep xs).p M x w)
    (hb : l.length + xs.length ≤ 1073741824) :
    ∃ v w' M' D', (Builtin.append_ #[t, t] ty #[s, x]).run P w = .ok v w' ∧ (rowV E (l ++ xs)).p M' D' v w' ∧ Keeps D w w' ∧ (∀ j, M j → M' j) ∧ (∀ j, M' j → M j ∨ w.heap.size ≤ j) ∧ (∀ j, M' j → j < w'.heap.size) ∧
      (∀ j, D' j → D j ∨ w.heap.size ≤ j) := by
  refine run_appendB hT hm hs hx (by omega) fun i hi => ?_
  obtain ⟨i', _, _, hi', _, _, _, hby⟩ := hT.get
  obtain rfl : i' = i := Option.some.inj (hi'.symm.trans hi)
  have := Nat.mul_le_mul hb hby
  omega
theorem ex_append {ρ : Operand → Value} {s x : Operand} {t : Nat} {v : Value} {g : Option (Nat × Bool)} {w w' : World} (h : (Builtin.append_ #[t, t] ty #[ρ s, ρ x]).run P w = .ok v w') :
    (execOp ρ ⟨d, .call { callee := .builtin .append, args := #[s, x], argTypes := #[t, t] }, ty, pos, after, g⟩).run P w = .ok (.value v) w' := by
  unfold execOp
  simp only [resolve, invoke, builtin, Sem.run_bind, Sem.run_pure, Result.andThen_ok, List.map_toArray, List.map_cons, List.map_nil, h]

/-- append: the row goes from its key to the result's slot. -/
theorem StepOK.append {d k : Nat} {s x : Operand} {t E : TypeId} {α : Type} [Rep α] {l xs : List α} (hT : RowOK P t E α) (hd : Nat.blt d fs = true) (hs : RowArg L B s k (rowV E l)) (hx : Opd L True x (rep xs)) (hb : l.length + xs.length ≤ 1073741824) :
    StepOK P ops fs ⟨some d, .call { callee := .builtin .append, args := #[s, x], argTypes := #[t, t] }, ty, pos, after, none⟩ L B ([k], [d, k]) ⟨True, anyV⟩ [(d, some (rowV E (l ++ xs))), (k, none)] := by
  refine .doing fun M D a w hsz hm hsat hsB => ?_
  obtain ⟨hC, C0, hl⟩ := hs.get hsat (fun t ht => looksAt_op (call_ops (by simp [ht]))) hsB (by simp)
  have hX := hx.get hsat (fun t ht => looksAt_op (call_ops (by simp [ht]))) trivial
  obtain ⟨v, w', M', D', hr, h1, h2, h3, h4, h5, h6⟩ := run_append (P := P) (ty := ty) hT hm hC hX hb
  refine Does.value (ex_append hr) (.pass M' D' hl h2 h3 h4 h5 ⟨fun _ => trivial, fun hf => (hf trivial).elim⟩ ?_ h6)
  rw [val_self (by rw [hsz]; exact Nat.le_of_ble_eq_true hd)]
  exact h1

/-! make. -/

theorem zeros_elems {α : Type} [Rep α] {z : α} {zs : List Value} {M : MSet} {w : World} (hz : Rep.cells M z zs w) : ∀ n, Elems M w (List.replicate n z) ((List.range (n * Rep.sz α)).map fun j => zs.toArray[j % zs.length]!)
  | 0 => by
    rw [Nat.zero_mul]
    exact rfl
  | n + 1 => by
    have ih := zeros_elems hz n
    have hl := Rep.len hz
    have hp : 0 < Rep.sz α := Rep.pos
    rw [List.replicate_succ]
    refine ⟨zs, _, ?_, hz, ih⟩
    rw [Nat.add_mul, Nat.one_mul, Nat.add_comm, List.range_add, List.map_append]
    congr 1
    · refine List.ext_getElem? fun j => ?_
      by_cases hj : j < Rep.sz α
      · rw [List.getElem?_map, List.getElem?_range hj, Option.map_some, hl, Nat.mod_eq_of_lt hj]
        have hjl : j < zs.length := by omega
        simp [List.getElem?_eq_getElem hjl, getElem!_pos, hjl]
      · rw [List.getElem?_eq_none (l := zs) (by omega), List.getElem?_eq_none (by rw [List.length_map, List.length_range]; omega)]
    · rw [List.map_map]
      refine List.map_congr_left fun j _ => ?_
      simp only [Function.comp]
      rw [hl, Nat.add_mod_left]

theorem StepOK.makeSlice {d : Nat} {x y : Operand} {t E : TypeId} {α : Type} [Rep α] {z : α} {n c : Int} (hT : RowOK P t E α) (hz : ZeroOf P E z) (hd : Nat.blt d fs = true) (hx : Opd L True x (rep n)) (hy : Opd L True y (rep c)) (hb : 0 ≤ n ∧ n ≤ c ∧ c ≤ 1073741824) :
    StepOK P ops fs ⟨some d, .makeSlice t x y, ty, pos, after, none⟩ L B ([], [d]) ⟨True, anyV⟩ [(d, some (rowV E (List.replicate n.toNat z)))] := by
  refine .doing fun M D a w hsz hm hsat _ => ?_
  obtain ⟨i, zv, ht, hi, hzv, hsize, hzs, hby⟩ := hT.get
  obtain ⟨zs, hz1, hz2⟩ := hz
  obtain ⟨i', hi', hz1⟩ := Option.bind_eq_some_iff.1 hz1
  obtain rfl : i = i' := by rw [hi] at hi'; simpa using hi'
  rw [hzv] at hz1
  obtain rfl : zv = mkv (Rep.agg α) zs := by simpa using hz1
  have hzc : (mkv (Rep.agg α) zs).cells = zs.toArray := Rep.flat (hz2 M w)
  obtain ⟨hxv, _⟩ := rep_int.1 (hx.get hsat (fun t ht => looksAt_op (by simp [Op.operands, ht])) trivial)
  obtain ⟨hyv, _⟩ := rep_int.1 (hy.get hsat (fun t ht => looksAt_op (by simp [Op.operands, ht])) trivial)
  have hbb : (i.bytes : Int) * c ≤ 281474976710656 := by
    have h1 : (i.bytes : Int) * c ≤ 4096 * 1073741824 := Int.mul_le_mul (by omega) hb.2.2 (by omega) (by omega)
    omega
  have hr := run_make (P := P) w t E i _ ht hi hzv .i64 .i64 n c hb.1 hb.2.1 hbb (by omega)
  have hrun : (execOp a.eval ⟨some d, .makeSlice t x y, ty, pos, after, none⟩).run P w = .ok (.value (.slice (some ⟨w.heap.size, 0, none⟩) n.toNat c.toNat)) (w.alloc (.cells (madeCells (mkv (Rep.agg α) zs).cells (c.toNat * i.size)) E)) := by
    simp only [execOp, hxv, hyv]
    rw [Sem.run_bind, hr]
    rfl
  refine Does.value hrun (.one (fun k => M k ∨ k = w.heap.size) (fun k => k = w.heap.size) (Ext.alloc _ _) (fun k h => .inl h) (fun k h => h.imp id (by omega)) (fun k h => ?_) ⟨fun _ => trivial, fun hf => (hf trivial).elim⟩ ?_ (fun k h => by omega))
  · rw [size_new]
    rcases h with h | h
    · have := hm k h; omega
    · omega
  · rw [val_self (by rw [hsz]; exact Nat.le_of_ble_eq_true hd)]
    have hkm : ∀ k, (M k ∨ k = w.heap.size) → M k ∨ w.heap.size ≤ k := fun k h => h.imp id (by omega)
    have hl := Rep.len (hz2 M w)
    have helems := zeros_elems (M := fun k => M k ∨ k = w.heap.size) (w := w.alloc (.cells (madeCells (mkv (Rep.agg α) zs).cells (c.toNat * i.size)) E)) (hz2 _ _) n.toNat
    refine ⟨some ⟨w.heap.size, 0, none⟩, c.toNat, by rw [List.length_replicate], by rw [List.length_replicate]; omega, by omega, rfl, fun k => Iff.rfl, .inr rfl, [], _, ((List.range' (n.toNat * Rep.sz α) ((c.toNat - n.toNat) * Rep.sz α)).map fun j => zs.toArray[j % zs.length]!), ?_, rfl, helems, ?_⟩
    · refine HRow.of ?_
      show (w.heap.push _)[w.heap.size]? = _
      rw [Array.getElem?_push_size, hzc, madeCells, hsize, List.nil_append, ← List.map_append]
      have hr : List.range (n.toNat * Rep.sz α) ++ List.range' (n.toNat * Rep.sz α) ((c.toNat - n.toNat) * Rep.sz α) = List.range (c.toNat * Rep.sz α) := by
        rw [List.range_eq_range', List.range_eq_range']
        have h2 : c.toNat * Rep.sz α = n.toNat * Rep.sz α + (c.toNat - n.toNat) * Rep.sz α := by rw [← Nat.add_mul]; congr 1; omega
        rw [h2]
        have := List.range'_append (s := 0) (m := n.toNat * Rep.sz α) (n := (c.toNat - n.toNat) * Rep.sz α) (step := 1)
        simp only [Nat.one_mul, Nat.zero_add] at this
        exact this
      rw [hr, ← List.map_toArray, List.toArray_range]
      simp
    · rw [List.length_map, List.length_range', List.length_replicate]; exact Nat.le_refl _

end
end Go.DB

/-
  Rows that are named: their elements; calls that are handed memory of one's own.
-/
set_option linter.unusedSimpArgs false
set_option linter.unusedVariables false
namespace Go.DB
open Go Go.RowKit

section
variable {P : Program} {Q : Exit → Act → World → Prop} {n : Nat} {F : Fr} {L : Slots} {B : Owns}

/-- A slot's row gets a name. -/
theorem Cod.nameRow {c : Code} {t g T : Nat} {α : Type} [Rep α] {l : List α} (hl : lookB B t = some (rowV T l)) (ht : Nat.blt t n = true) (hg : lookB B g = none)
    (k : ∀ s, Cod P c Q n F ((t, ⟨True, isV s⟩) :: L) ((g, some (CPred.at s (rowV T l))) :: (t, none) :: B)) : Cod P c Q n F L B := by
  intro a w hs
  obtain ⟨M, D, h⟩ := id hs
  have hC := h.hasB t _ hl
  refine k (Act.val a t) a w ⟨M, _, h.rekey hl hg hC fun t' e he => ?_⟩
  simp only [look] at he
  by_cases hne : t = t'
  · subst hne
    simp at he; subst he
    have hlt : t < a.tmps.size := by rw [h.size]; exact Nat.le_of_ble_eq_true ht
    refine ⟨Act.val a t, by unfold Act.val; simp [hlt], fun _ => ?_, fun hf => (hf trivial).elim⟩
    obtain ⟨ad, cap, hv, _⟩ := hC
    rw [hv]
    exact rep_raw.2 ⟨rfl, rfl, rfl⟩
  · rw [beq_ne hne, cond_false] at he; exact h.has t' e he

/-- What has a name is a slot's again. -/
theorem Cod.anon {c : Code} {t g : Nat} {s : Value} {C : CPred} {cd : Prop} (hl : lookB B g = some (CPred.at s C)) (ht : look L t = some ⟨cd, isV s⟩) (hc : cd) (hg : lookB B t = none)
    (k : Cod P c Q n F L ((t, some C) :: (g, none) :: B)) : Cod P c Q n F L B := by
  intro a w hs
  obtain ⟨M, D, h⟩ := id hs
  have hC : C.p M (D g) s w := h.hasB g _ hl
  obtain ⟨v, hv, he⟩ := h.has t _ ht
  obtain ⟨rfl, _⟩ := rep_raw.1 (he.1 hc)
  refine k a w ⟨M, _, h.rekey hl hg ?_ h.has⟩
  have : Act.val a t = v := by unfold Act.val; rw [hv]; rfl
  rw [this]; exact hC

theorem rowV_rep {α : Type} [Rep α] {T : TypeId} {l : List α} (M D : MSet) (w : World) (s : Value) (h : (rowV T l).p M D s w) (hms : ∀ k, M k → k < w.heap.size) : (rep l).p (fun k => M k ∧ ¬ D k) s w := by
  obtain ⟨a, cap, rfl, h1, h2, h3⟩ := h
  refine rep_list.2 ⟨a, cap, rfl, h1, h2, ?_⟩
  cases a with
  | none => exact h3.1
  | some ad =>
    obtain ⟨hsp, hD, hM, pre, cs, rest, hh, hp, he, hr⟩ := h3
    intro i hi
    obtain ⟨c, hc, hj⟩ := he.at l cs i hi
    refine ⟨hsp, fun hf => hf.2 ((hD _).2 rfl), hms _ hM, c, Rep.law (Keeps.refl M w) (fun k h => .inl h.1) hc, fun j hjl => ?_⟩
    have hcl := he.len
    have hlt : i * Rep.sz α + j < cs.length := by
      rw [hcl]
      have := Nat.mul_le_mul_right (Rep.sz α) (show i + 1 ≤ l.length by omega)
      rw [Nat.add_mul] at this; omega
    rw [← hj j hjl, hh.cell, List.getElem?_toArray, List.append_assoc, List.getElem?_append_right (by omega), List.getElem?_append_left (by omega), hp]
    congr 1; omega

end

section
variable {P : Program} {ops : Array Oper} {fs : Nat} {L : Slots} {B : Owns} {G : Prop}
variable {d : Option Tmp} {ty : TypeId} {pos : String} {after : Array Edge} {xr : List Nat} {g : Option (Nat × Bool)}

theorem StepOK.loadAt0 {T T' m k : Nat} {x : Operand} {α : Type} [Rep α] {y : α} (hg : Guard ops g L G) (hT : Ty P T α)
    (hl : lookB B k = some (boxAt m T' y)) (hx : Opd L G x (isV (ptr m 0))) : StepOK P ops fs ⟨d, .load T x, ty, pos, after, g⟩ L B ([k], []) ⟨G, rep y⟩ [] := .loadAt (proj := fun x => x) hg hT hl hx .id
theorem StepOK.storeAt0 {T T' m g : Nat} {p x : Operand} {α : Type} [Rep α] {y0 z : α} (hT : Ty P T α) (hl : lookB B g = some (boxAt m T' y0)) (hp : Opd L True p (isV (ptr m 0))) (hx : Opd L True x (rep z)) :
    StepOK P ops fs ⟨none, .store T p x, ty, pos, after, none⟩ L B ([g], [g]) ⟨True, anyV⟩ [(g, some (boxAt m T' z))] := .storeAt (set := fun _ z => z) hT hl hp .self hx

/-- A part of a slice that stays. -/
theorem StepOK.slice {T E : Nat} {x : Operand} {lo hi : Option Operand} {α : Type} [Rep α] {l : List α} {i j : Int} (hg : Guard ops g L G) (hT : SliceOf P T E) (hE : Ty P E α) (hx : Opd L G x (rep l))
    (hlo : match lo with | some o => Opd L G o (rep i) | none => i = 0) (hhi : match hi with | some o => Opd L G o (rep j) | none => j = l.length) (hb : G → 0 ≤ i ∧ i ≤ j ∧ j ≤ l.length) :
    StepOK P ops fs ⟨d, .slice T x lo hi none, ty, pos, after, g⟩ L B (xr, []) ⟨G, rep ((l.take j.toNat).drop i.toNat)⟩ [] :=
  .pure hg fun M a w _ hs hG => by
    obtain ⟨ad, cap, hv, hcap, hcm, hl⟩ := rep_list.1 (hx.get hs (fun t ht => looksAt_op (by simp [Op.operands, ht])) hG)
    obtain ⟨h0, h1, h2⟩ := hb hG
    obtain ⟨ti, hti, hsize⟩ := Option.map_eq_some_iff.1 hE.size
    have hTe : P.underlying T = some (.slice (P.elem T)) ∧ P.elem T = E := by
      have : P.elem T = E := by unfold Program.elem; rw [show P.underlying T = _ from hT]
      exact ⟨by rw [this]; exact hT, this⟩
    have hsz : (sizeOf (P.elem T)).run P w = .ok (Rep.sz α) w := by rw [hTe.2]; simp [sizeOf, typeInfo, hti, hsize, go_sem]
    have hlov : (lo.map a.eval = none ∧ i = 0) ∨ lo.map a.eval = some (.int .i64 i) := by
      cases lo with
      | none => exact .inl ⟨rfl, hlo⟩
      | some o => exact .inr (by rw [Option.map_some, (rep_int.1 (Opd.get hlo hs (fun t ht => looksAt_op (by simp [Op.operands, ht])) hG)).1])
    have hhiv : (hi.map a.eval = none ∧ j = l.length) ∨ hi.map a.eval = some (.int .i64 j) := by
      cases hi with
      | none => exact .inl ⟨rfl, hhi⟩
      | some o => exact .inr (by rw [Option.map_some, (rep_int.1 (Opd.get hhi hs (fun t ht => looksAt_op (by simp [Op.operands, ht])) hG)).1])
    have hrun : (Instr.sliceAt T (.slice ad l.length cap) (lo.map a.eval) (hi.map a.eval) none).run P w = .ok (sliced ad i.toNat j.toNat cap (Rep.sz α)) w := by
      rw [run_sliceAt_slice (h := hTe.1)]
      rcases hlov with ⟨e1, rfl⟩ | e1 <;> rcases hhiv with ⟨e2, rfl⟩ | e2 <;> rw [e1, e2]
      · rw [run_slice_all w T ad l.length cap hTe.1, hsz]; simp [Result.andThen]
      · rw [run_slice_h w T ad l.length cap hTe.1 .i64 j (by omega) (by omega), hsz]; simp [Result.andThen]
      · rw [run_slice_l w T ad l.length cap hTe.1 .i64 i (by omega) (by omega), hsz]; simp [Result.andThen]
      · rw [run_slice_lh w T ad l.length cap hTe.1 .i64 .i64 i j (by omega) (by omega) (by omega), hsz]; simp [Result.andThen]
    refine ⟨sliced ad i.toNat j.toNat cap (Rep.sz α), ?_, rep_list.2 ⟨if cap = i.toNat then ad else ad.map (·.add (i.toNat * Rep.sz α)), cap - i.toNat, ?_, ?_, by omega, ?_⟩⟩
    · simp only [execOp, hv]
      rw [Sem.run_bind]
      simp only [Option.map] at hrun ⊢
      rw [hrun]; rfl
    · simp only [sliced, List.length_drop, List.length_take]
      congr 1; omega
    · simp only [List.length_drop, List.length_take]; omega
    · cases ad with
      | none =>
        have : l = [] := hl
        subst this
        split <;> simp [Lies]
      | some ad =>
        have key : ∀ ad' : Addr, (∀ q, q < ((l.take j.toNat).drop i.toNat).length → ad' = ⟨ad.block, ad.off + i.toNat * Rep.sz α, none⟩) → Lies M ((l.take j.toNat).drop i.toNat) (some ad') w := by
          intro ad' hq q hql
          obtain rfl := hq q hql
          have hql' : i.toNat + q < l.length := by simp only [List.length_drop, List.length_take] at hql; omega
          obtain ⟨g1, g2, g3, cs, g4, g5⟩ := hl (i.toNat + q) hql'
          refine ⟨rfl, g2, g3, cs, ?_, fun k hk => ?_⟩
          · simp only [List.getElem_drop, List.getElem_take]; exact g4
          · rw [← g5 k hk]
            have : ad.spot = none := g1
            simp only [Nat.add_mul]
            congr 2; omega
        have hspot : ∀ q, q < ((l.take j.toNat).drop i.toNat).length → ad.spot = none := fun q hq => (hl (i.toNat + q) (by simp only [List.length_drop, List.length_take] at hq; omega)).1
        split
        · rename_i he
          refine key ad fun q hq => ?_
          simp only [List.length_drop, List.length_take] at hq
          omega
        · refine key _ fun q hq => ?_
          have := hspot q hq
          obtain ⟨b, off, sp⟩ := ad
          simp only at this
          subst this
          exact add_none _ _ _

end

section
variable {P : Program} {Q : Exit → Act → World → Prop} {n : Nat} {F : Fr} {L : Slots} {B : Owns}

theorem Cod.freezeKey {c : Code} {t : Nat} {C : CPred} {S : SPred} {B' : Owns} (hl : lookB B t = some C) (ht : Nat.blt t n = true) (hB : SubB B B') (hn : hasKey B' t = false)
    (hS : ∀ (M D : MSet) (w : World) (s : Value), C.p M D s w → (∀ k, M k → k < w.heap.size) → S.p (fun k => M k ∧ ¬ D k) s w) (k : Cod P c Q n F ((t, ⟨True, S⟩) :: L) B') : Cod P c Q n F L B := by
  intro a w hs
  obtain ⟨M, D, h⟩ := id hs
  have hC := h.hasB t _ hl
  refine k a w ⟨_, D, h.free hl hB hn fun t' e he => ?_⟩
  have hlow : ∀ k, (M k ∧ ¬ D t k) → M k ∨ w.heap.size ≤ k := fun k h => .inl h.1
  simp only [look] at he
  by_cases hne : t = t'
  · subst hne
    simp at he; subst he
    have hlt : t < a.tmps.size := by rw [h.size]; exact Nat.le_of_ble_eq_true ht
    exact ⟨Act.val a t, by unfold Act.val; simp [hlt], fun _ => hS M (D t) w _ hC h.msub, fun hf => (hf trivial).elim⟩
  · rw [beq_ne hne, cond_false] at he
    obtain ⟨v', h1, h2⟩ := h.has t' e he
    exact ⟨v', h1, Ent.holds_law (Keeps.refl M w) hlow h2⟩

/-- A slot's row that is written no more. -/
theorem Cod.freezeRowA {c : Code} {t T : Nat} {α : Type} [Rep α] {l : List α} {B' : Owns} (hl : lookB B t = some (rowV T l)) (ht : Nat.blt t n = true) (hB : SubB B B') (hn : hasKey B' t = false)
    (k : Cod P c Q n F ((t, ⟨True, rep l⟩) :: L) B') : Cod P c Q n F L B :=
  Cod.freezeKey hl ht hB hn (fun M D w s h hms => rowV_rep M D w s h hms) k

/-- A named box that is written no more. -/
theorem Cod.freezeBox {c : Code} {g T m : Nat} {α : Type} [Rep α] {y : α} {ts : List Nat} {B' : Owns} (hl : lookB B g = some (boxAt m T y)) (hts : AllAre L (ptr m 0) ts) (hB : SubB B B') (hn : hasKey B' g = false)
    (k : Cod P c Q n F (fillS (ref y) ts L) B') : Cod P c Q n F L B :=
  Cod.freezeAt hl hts hB hn (fun M D w h hms => cont_ref h hms) k

theorem Ends.anon {e : Exit} {t g : Nat} {s : Value} {C : CPred} {cd : Prop} (hl : lookB B g = some (CPred.at s C)) (ht : look L t = some ⟨cd, isV s⟩) (hc : cd) (hg : lookB B t = none)
    (k : Ends Q e n F L ((t, some C) :: (g, none) :: B)) : Ends Q e n F L B := by
  intro a w hs
  obtain ⟨M, D, h⟩ := id hs
  have hC : C.p M (D g) s w := h.hasB g _ hl
  obtain ⟨v, hv, he⟩ := h.has t _ ht
  obtain ⟨rfl, _⟩ := rep_raw.1 (he.1 hc)
  refine k a w ⟨M, _, h.rekey hl hg ?_ h.has⟩
  have : Act.val a t = v := by unfold Act.val; rw [hv]; rfl
  rw [this]; exact hC

theorem Ends.join {ι : Type} {Ls : ι → Slots} {Bs : ι → Owns} {prop : ι → Prop} {keep : Slots} {keepB : Owns} (j : ι) (hp : prop j) (h : Sub L (Ls j ++ keep)) (hB : SubB B (Bs j ++ keepB)) :
    Ends (Exit.then (fun a w => ∃ j, prop j ∧ Sat n F (Ls j ++ keep) (Bs j ++ keepB) a w) Q) .normal n F L B := fun _ _ hs => ⟨j, hp, hs.weaken h hB⟩

end
end Go.DB

/-
  Calls that are handed memory of one's own; slices of rows.
-/
set_option linter.unusedSimpArgs false
set_option linter.unusedVariables false
namespace Go.DB
open Go Go.RowKit

/-- The keys hold what is handed over. -/
inductive Holds (B : Owns) : List Nat → Given → Prop
  | nil : Holds B [] []
  | cons {k ks s c Os} : lookB B k = some (CPred.at s c) → Holds B ks Os → Holds B (k :: ks) ((s, c) :: Os)

theorem Holds.length {B : Owns} : ∀ {ks : List Nat} {Os : Given}, Holds B ks Os → ks.length = Os.length
  | _, _, .nil => rfl
  | _, _, .cons _ h => by simp [h.length]
theorem Holds.at {B : Owns} : ∀ {ks : List Nat} {Os : Given}, Holds B ks Os → ∀ (i : Nat) (s : Value) (c : CPred), Os[i]? = some (s, c) → ∃ k, ks[i]? = some k ∧ lookB B k = some (CPred.at s c)
  | _, _, .nil, i, s, c, h => by simp at h
  | _, _, .cons h1 _, 0, s, c, h => by
    simp at h
    obtain ⟨rfl, rfl⟩ := h
    exact ⟨_, rfl, h1⟩
  | _, _, .cons _ h2, i + 1, s, c, h => by
    obtain ⟨k, h3, h4⟩ := h2.at i s c (by simpa using h)
    exact ⟨k, by simpa using h3, h4⟩

/-- The keys behind a call: what was handed over, and the result's slot. -/
def outW : List Value → List Nat → Option Nat → List (Option CPred) → Writes
  | s :: an, k :: ks, d, some c :: outs => (k, some (CPred.at s c)) :: outW an ks d outs
  | _ :: an, k :: ks, d, none :: outs => (k, none) :: outW an ks d outs
  | [], [], some d, [o] => [(d, o)]
  | _, _, _, _ => []

theorem outW_at : ∀ (an : List Value) (ks : List Nat) (d : Option Nat) (outs : List (Option CPred)) (t : Nat) (c : CPred), lookB (outW an ks d outs) t = some c →
    ∃ i c0, outs[i]? = some (some c0) ∧ ((∃ s, an[i]? = some s ∧ ks[i]? = some t ∧ c = CPred.at s c0) ∨ (i = an.length ∧ i = ks.length ∧ d = some t ∧ c = c0))
  | s :: an, k :: ks, d, some c1 :: outs, t, c, h => by
    simp only [outW, lookB] at h
    by_cases he : k = t
    · subst he; simp at h; subst h
      exact ⟨0, c1, rfl, .inl ⟨s, rfl, rfl, rfl⟩⟩
    · rw [beq_ne he, cond_false] at h
      obtain ⟨i, c0, h1, h2⟩ := outW_at an ks d outs t c h
      refine ⟨i + 1, c0, by simpa using h1, ?_⟩
      rcases h2 with ⟨s', a1, a2, a3⟩ | ⟨a1, a2, a3⟩
      · exact .inl ⟨s', by simpa using a1, by simpa using a2, a3⟩
      · exact .inr ⟨by simp [a1], by simp [a2], a3⟩
  | s :: an, k :: ks, d, none :: outs, t, c, h => by
    simp only [outW, lookB] at h
    by_cases he : k = t
    · subst he; simp at h
    · rw [beq_ne he, cond_false] at h
      obtain ⟨i, c0, h1, h2⟩ := outW_at an ks d outs t c h
      refine ⟨i + 1, c0, by simpa using h1, ?_⟩
      rcases h2 with ⟨s', a1, a2, a3⟩ | ⟨a1, a2, a3⟩
      · exact .inl ⟨s', by simpa using a1, by simpa using a2, a3⟩
      · exact .inr ⟨by simp [a1], by simp [a2], a3⟩
  | [], [], some d, [o], t, c, h => by
    simp only [outW, lookB] at h
    by_cases he : d = t
    · subst he
      simp at h; subst h
      exact ⟨0, c, rfl, .inr ⟨rfl, rfl, rfl, rfl⟩⟩
    · rw [beq_ne he] at h; cases h
  | [], [], none, _, t, c, h => by simp [outW, lookB] at h
  | [], [], some d, [], t, c, h => by simp [outW, lookB] at h
  | [], [], some d, _ :: _ :: _, t, c, h => by simp [outW, lookB] at h
  | [], _ :: _, _, _, t, c, h => by simp [outW, lookB] at h
  | _ :: _, [], _, _, t, c, h => by simp [outW, lookB] at h
  | _ :: _, _ :: _, _, [], t, c, h => by simp [outW, lookB] at h

section
variable {P : Program} {ops : Array Oper} {fs : Nat} {L : Slots} {B : Owns} {G : Prop}
variable {ty : TypeId} {pos : String} {after : Array Edge}

theorem Does.enterO {o : Oper} {a : Act} {w : World} {f : Nat} {vs : List Value} {R : Ending → World → Prop} {R' : Value → World → Prop} (hr : (execOp a.eval o).run P w = .ok (.enter f vs.toArray) w)
    (h : Calls P f vs.toArray w R) (hR : ∀ e w', R e w' → ∃ v, e = .returned v ∧ R' v w') : Does P o a w R' := by
  unfold Does Oper.wp
  rw [hr]
  refine Calls.mono h fun e w' he => ?_
  obtain ⟨v, rfl, hv⟩ := hR e w' he
  exact ⟨v, rfl, hv⟩

/-- The keys that a call writes: all that were handed over, and the result's slot, where that is its own memory. -/
def outK (ks : List Nat) (d : Option Nat) (outs : List (Option CPred)) : List Nat := ks ++ (if ks.length < outs.length then d.toList else [])

/-- What a call leaves, where memory was handed over. -/
theorem Leaves.call {o : Oper} {M : MSet} {D : Nat → MSet} {a : Act} {w : World} {xs ks : List Nat} {Os : Given} {S : SPred} {outs : List (Option CPred)} {W : Nat × Option CPred} {Ws : Writes} {v : Value} {w' : World}
    (hH : Holds B ks Os) (hW : outW (Os.map (·.1)) ks o.dst outs = W :: Ws) (hxs : ∀ k ∈ ks, k ∈ xs) (hnd : (ks ++ o.dst.toList).Nodup) (hsz : ∀ d, o.dst = some d → d < a.tmps.size)
    (h : PostO ⟨w, M, DU (fun i => D ((ks[i]?).getD 0)) Os.length⟩ S (Os.map (·.1)) outs (.returned v) w') : Leaves o B D xs ⟨True, S⟩ (W :: Ws) M a w v w' := by
  obtain ⟨v', M', D', hv, hk, hml, hmh, hms, hS, hC, hA⟩ := h
  obtain rfl : v = v' := by simpa using hv
  have hlen := hH.length
  have mine : ∀ k, DU (fun i => D ((ks[i]?).getD 0)) Os.length k → Mine xs B D k := by
    rintro k ⟨i, hi, hd⟩
    obtain ⟨s, c, hsc⟩ : ∃ s c, Os[i]? = some (s, c) := ⟨_, _, List.getElem?_eq_getElem hi⟩
    obtain ⟨t, ht, hl⟩ := hH.at i s c hsc
    simp only [ht, Option.getD_some] at hd
    exact ⟨t, hxs t (List.mem_of_getElem? ht), _, hl, hd⟩
  -- the index of a key
  let ix : Nat → Nat := fun t => (ks ++ o.dst.toList).idxOf t
  have ixk : ∀ i t, (ks ++ o.dst.toList)[i]? = some t → ix t = i := by
    intro i t ht
    have hm : t ∈ ks ++ o.dst.toList := List.mem_of_getElem? ht
    have h1 : (ks ++ o.dst.toList)[ix t]? = some t := by
      have hlt := List.idxOf_lt_length_iff.2 hm
      rw [List.getElem?_eq_getElem hlt]
      simp only [Option.some.injEq]
      exact List.getElem_idxOf hlt
    exact nodup_inj hnd h1 ht
  have at_ : ∀ t c, lookB (W :: Ws) t = some c → ∃ c0, outs[ix t]? = some (some c0) ∧ ∀ M D w, c0.p M D ((((Os.map (·.1)) ++ [v])[ix t]?).getD undef) w → c.p M D (Act.val (a.put o.dst v) t) w := by
    intro t c hc
    rw [← hW] at hc
    obtain ⟨i, c0, h1, h2⟩ := outW_at _ _ _ _ _ _ hc
    rcases h2 with ⟨s, a1, a2, rfl⟩ | ⟨a1, a2, a3, rfl⟩
    · have hit : ix t = i := ixk i t (by rw [List.getElem?_append_left (List.getElem?_eq_some_iff.1 a2).1]; exact a2)
      rw [hit]
      refine ⟨c0, h1, fun M D w hp => ?_⟩
      rw [List.getElem?_append_left (List.getElem?_eq_some_iff.1 a1).1, a1, Option.getD_some] at hp
      exact hp
    · have hit : ix t = i := ixk i t (by rw [a2, List.getElem?_append_right (Nat.le_refl _), a3]; simp)
      rw [hit]
      refine ⟨c, h1, fun M D w hp => ?_⟩
      rw [a1, List.getElem?_concat_length, Option.getD_some] at hp
      rw [a3, val_self (hsz t a3)]
      exact hp
  refine ⟨M', fun t => D' (ix t), hk.mono (fun k _ h => mine k h), fun k h => (hml k h).imp id (mine k), hmh, hms, ⟨fun _ => hS, fun hf => (hf trivial).elim⟩, fun t c hc => ?_, fun t1 t2 c1 c2 h1 h2 hne => ?_⟩
  · obtain ⟨c0, h1, h2⟩ := at_ t c hc
    obtain ⟨h3, h4⟩ := hC _ _ h1
    exact ⟨h2 _ _ _ h3, fun k hk => (h4 k hk).imp (mine k) id⟩
  · obtain ⟨c1', g1, _⟩ := at_ t1 c1 h1
    obtain ⟨c2', g2, _⟩ := at_ t2 c2 h2
    refine hA (ix t1) (ix t2) c1' c2' g1 g2 (fun e => hne ?_)
    have m1 : ∀ t c, lookB (W :: Ws) t = some c → (ks ++ o.dst.toList)[ix t]? = some t := by
      intro t c hc
      rw [← hW] at hc
      obtain ⟨i, c0, _, h2⟩ := outW_at _ _ _ _ _ _ hc
      have hm : t ∈ ks ++ o.dst.toList := by
        rcases h2 with ⟨s, _, a2, _⟩ | ⟨_, _, a3, _⟩
        · exact List.mem_append_left _ (List.mem_of_getElem? a2)
        · exact List.mem_append_right _ (by rw [a3]; simp)
      have hlt := List.idxOf_lt_length_iff.2 hm
      rw [List.getElem?_eq_getElem hlt]
      simp only [Option.some.injEq]
      exact List.getElem_idxOf hlt
    have e1 := m1 t1 c1 h1
    have e2 := m1 t2 c2 h2
    rw [e] at e1
    rw [e1] at e2
    exact Option.some.inj e2

theorem OwnL.of {M : MSet} {D : Nat → MSet} {a : Act} {w : World} {xr ks : List Nat} {Os : Given} (hH : Holds B ks Os) (hnd : ks.Nodup) (hsB : SatB xr M D B a w) (hx : ∀ k ∈ ks, k ∈ xr) : OwnL M (fun i => D ((ks[i]?).getD 0)) w Os := by
  refine ⟨fun i s c h => ?_, fun i j x y hi hj hne k h1 h2 => ?_⟩
  · obtain ⟨k, hk, hl⟩ := hH.at i s c h
    have := hsB.has k (hx k (List.mem_of_getElem? hk)) _ hl
    simp only [hk, Option.getD_some]
    exact this
  · obtain ⟨s, c⟩ := x
    obtain ⟨s', c'⟩ := y
    obtain ⟨k1, hk1, hl1⟩ := hH.at i s c hi
    obtain ⟨k2, hk2, hl2⟩ := hH.at j s' c' hj
    simp only [hk1, hk2, Option.getD_some] at h1 h2
    refine hsB.apart k1 (hx k1 (List.mem_of_getElem? hk1)) k2 (hx k2 (List.mem_of_getElem? hk2)) _ _ hl1 hl2 (fun e => ?_) k h1 h2
    subst e
    exact hne (nodup_inj hnd hk1 hk2)

theorem StepOK.callO {d : Option Nat} {f : Nat} {xs : Array Operand} {ts : Array TypeId} {Ss : List SPred} {Os : Given} {S : SPred} {outs : List (Option CPred)} {W : Nat × Option CPred} {Ws : Writes} {xk : List Nat} (ks : List Nat) (hspec : FSpecO P f Ss Os S outs)
    (hx : OpdL L True xs.toList Ss) (hH : Holds B ks Os) (hW : outW (Os.map (·.1)) ks d outs = W :: Ws) (hnd : (ks ++ d.toList).Nodup) (hxk : ∀ k ∈ ks, k ∈ xk) (hd : ∀ d', d = some d' → d' < fs) :
    StepOK P ops fs ⟨d, .call { callee := .value (.func f), args := xs, argTypes := ts }, ty, pos, after, none⟩ L B (ks, xk) ⟨True, S⟩ (W :: Ws) :=
  .doing fun M D a w hsz hm hs hsB => by
    have ha := hx.get hs (fun x hxm t ht => looksAt_op (call_ops (by subst ht; simpa using hxm))) trivial
    have hr : (execOp a.eval ⟨d, .call { callee := .value (.func f), args := xs, argTypes := ts }, ty, pos, after, none⟩).run P w = .ok (.enter f (xs.toList.map a.eval).toArray) w := by
      rw [show (xs.toList.map a.eval).toArray = xs.map a.eval ++ #[] by rw [Array.append_empty, ← List.map_toArray]]
      exact ex_callV hspec.ok rfl
    have hnd' : ks.Nodup := (List.nodup_append.1 hnd).1
    refine Does.enterO hr (hspec.calls M _ w _ hm ha (OwnL.of hH hnd' hsB (fun k hk => List.mem_append_left _ hk))) fun e w' he => ?_
    obtain ⟨v, M', D', rfl, rest⟩ := he
    exact ⟨v, rfl, .call hH hW hxk hnd (fun d' h => by rw [hsz]; exact hd d' h) ⟨v, M', D', rfl, rest⟩⟩

end
end Go.DB

/-
  Lifted functions: plain functions that say what a function computes, where it comes to an end; rules that walk along them.
-/
set_option linter.unusedSimpArgs false
set_option linter.unusedVariables false
namespace Go.DB
open Go Go.RowKit

/-! The words of lifted functions: none where the function would panic or not end. -/

inductive Step (σ ρ : Type) where
  | again (s : σ)
  | done (e : ρ)
inductive Res (σ ρ : Type) where
  | nx (s : σ)
  | ab (r : ρ)

def bnd {α β : Type} (e : α) (k : α → Option β) : Option β := k e
open Classical in
noncomputable def need {β : Type} (c : Prop) (k : Option β) : Option β := if c then k else none
/-- What is asked for only where b holds. -/
def gd {α : Type} [Inhabited α] (b : Bool) (m : Option α) : Option α := bif b then m else some default
/-- k is an index of l. -/
def inR {α : Type} (l : List α) (k : Int) : Prop := 0 ≤ k ∧ k < l.length
/-- l has room. -/
def room (n : Nat) : Prop := n ≤ 1073741824
/-- A part of a list. -/
def seg {α : Type} (l : List α) (i j : Int) : List α := (l.take j.toNat).drop i.toNat
def segR (n : Nat) (i j : Int) : Prop := 0 ≤ i ∧ i ≤ j ∧ j ≤ n

def iter {σ ρ : Type} (body : σ → Option (Step σ ρ)) : Nat → σ → Option ρ
  | 0, _ => none
  | n + 1, s => match body s with
    | none => none
    | some (.again s') => iter body n s'
    | some (.done e) => some e
open Classical in
noncomputable def loop {σ ρ : Type} (body : σ → Option (Step σ ρ)) (s : σ) : Option ρ :=
  if h : ∃ e n, iter body n s = some e then some h.choose else none

theorem need_some {β : Type} {c : Prop} {k : Option β} {r : β} (h : need c k = some r) : c ∧ k = some r := by
  unfold need at h
  by_cases hc : c
  · rw [if_pos hc] at h; exact ⟨hc, h⟩
  · rw [if_neg hc] at h; cases h
theorem need_pos {β : Type} {c : Prop} {k : Option β} (h : c) : need c k = k := by unfold need; rw [if_pos h]
theorem bnd_some {α β : Type} {e : α} {k : α → Option β} {r : β} (h : bnd e k = some r) : ∃ v, v = e ∧ k v = some r := ⟨e, rfl, h⟩
theorem bind_some {α β : Type} {m : Option α} {k : α → Option β} {r : β} (h : m.bind k = some r) : ∃ v, m = some v ∧ k v = some r := Option.bind_eq_some_iff.1 h
theorem bif_t {β : Type} {b : Bool} {x y : Option β} {r : Option β} (h : (bif b then x else y) = r) (hb : b = true) : x = r := by subst hb; exact h
theorem bif_f {β : Type} {b : Bool} {x y : Option β} {r : Option β} (h : (bif b then x else y) = r) (hb : b = false) : y = r := by subst hb; exact h
theorem gd_some {α : Type} [Inhabited α] {b : Bool} {m : Option α} {r : α} (h : gd b m = some r) (hb : b = true) : m = some r := by subst hb; exact h
theorem some_eq {α : Type} {x y : α} (h : some x = some y) : y = x := (Option.some.inj h).symm

theorem iter_mono {σ ρ : Type} {body : σ → Option (Step σ ρ)} : ∀ {n m : Nat} {s : σ} {e : ρ}, iter body n s = some e → n ≤ m → iter body m s = some e
  | 0, _, _, _, h, _ => by simp [iter] at h
  | n + 1, 0, _, _, _, h => by omega
  | n + 1, m + 1, s, e, h, hm => by
    simp only [iter] at h ⊢
    cases hb : body s with
    | none => rw [hb] at h; cases h
    | some x =>
      rw [hb] at h
      cases x with
      | again s' => exact iter_mono (n := n) h (by omega)
      | done e' => exact h
theorem loop_iff {σ ρ : Type} {body : σ → Option (Step σ ρ)} {s : σ} {e : ρ} : loop body s = some e ↔ ∃ n, iter body n s = some e := by
  unfold loop
  constructor
  · intro h
    by_cases hx : ∃ e n, iter body n s = some e
    · rw [dif_pos hx] at h
      obtain ⟨n, hn⟩ := hx.choose_spec
      rw [Option.some.inj h] at hn
      exact ⟨n, hn⟩
    · rw [dif_neg hx] at h; cases h
  · rintro ⟨n, hn⟩
    have hx : ∃ e n, iter body n s = some e := ⟨e, n, hn⟩
    rw [dif_pos hx]
    obtain ⟨m, hm⟩ := hx.choose_spec
    have h1 := iter_mono hm (Nat.le_max_left m n)
    have h2 := iter_mono hn (Nat.le_max_right m n)
    rw [h1] at h2
    exact h2
theorem loop_eq {σ ρ : Type} (body : σ → Option (Step σ ρ)) (s : σ) : loop body s = match body s with
    | none => none
    | some (.again s') => loop body s'
    | some (.done e) => some e := by
  cases hb : body s with
  | none =>
    cases hl : loop body s with
    | none => rfl
    | some e =>
      obtain ⟨n, hn⟩ := loop_iff.1 hl
      cases n with
      | zero => simp [iter] at hn
      | succ n => simp [iter, hb] at hn
  | some x =>
    cases x with
    | done e => exact loop_iff.2 ⟨1, by simp [iter, hb]⟩
    | again s' =>
      simp only
      cases hl : loop body s' with
      | some e =>
        obtain ⟨n, hn⟩ := loop_iff.1 hl
        exact loop_iff.2 ⟨n + 1, by simp [iter, hb, hn]⟩
      | none =>
        cases hl' : loop body s with
        | none => rfl
        | some e =>
          obtain ⟨n, hn⟩ := loop_iff.1 hl'
          cases n with
          | zero => simp [iter] at hn
          | succ n =>
            simp only [iter, hb] at hn
            rw [loop_iff.2 ⟨n, hn⟩] at hl; cases hl

/-- A loop over the numbers below n. -/
noncomputable def rforE {σ O : Type} (n : Int) (step : Int → σ → Option (Res σ O)) (fin : σ → O) (s0 : σ) : Option O :=
  loop (fun p : Int × σ => bif decide (p.1 < n) then (step p.1 p.2).bind (fun r => match r with
    | .nx s' => some (.again (W (p.1 + 1), s'))
    | .ab e => some (.done e)) else some (.done (fin p.2))) (0, s0)
noncomputable def rfor {σ : Type} (n : Int) (step : Int → σ → Option σ) (s0 : σ) : Option σ :=
  loop (fun p : Int × σ => bif decide (p.1 < n) then (step p.1 p.2).bind (fun s' => some (.again (W (p.1 + 1), s'))) else some (.done p.2)) (0, s0)

/-- Recursion: what comes out from some depth on. -/
def fixN {α β : Type} (b : (α → Option β) → α → Option β) : Nat → α → Option β
  | 0 => fun _ => none
  | n + 1 => b (fixN b n)
open Classical in
noncomputable def fixp {α β : Type} (b : (α → Option β) → α → Option β) (a : α) : Option β :=
  if h : ∃ r N, ∀ n, N ≤ n → fixN b n a = some r then some h.choose else none
theorem fixp_some {α β : Type} {b : (α → Option β) → α → Option β} {a : α} {r : β} (h : fixp b a = some r) : ∃ n, fixN b n a = some r := by
  unfold fixp at h
  by_cases hx : ∃ r N, ∀ n, N ≤ n → fixN b n a = some r
  · rw [dif_pos hx] at h
    obtain ⟨N, hN⟩ := hx.choose_spec
    rw [Option.some.inj h] at hN
    exact ⟨N, hN N (Nat.le_refl _)⟩
  · rw [dif_neg hx] at h; cases h
theorem fixp_of {α β : Type} {b : (α → Option β) → α → Option β} {a : α} {r : β} (N : Nat) (h : ∀ n, N ≤ n → fixN b n a = some r) : fixp b a = some r := by
  unfold fixp
  have hx : ∃ r N, ∀ n, N ≤ n → fixN b n a = some r := ⟨r, N, h⟩
  rw [dif_pos hx]
  obtain ⟨M, hM⟩ := hx.choose_spec
  have h1 := hM (max M N) (Nat.le_max_left _ _)
  rw [h _ (Nat.le_max_right _ _)] at h1
  exact h1.symm

/-! Function values. -/

abbrev fn0 (P : Program) {β : Type} (S : β → SPred) (f : Option β) : SPred := fnv P (ι := β) (fun r => f = some r) (fun _ => []) S
abbrev fn1 (P : Program) {α β : Type} [Rep α] (S : β → SPred) (f : α → Option β) : SPred := fnv P (ι := α × β) (fun i => f i.1 = some i.2) (fun i => [rep i.1]) (fun i => S i.2)
abbrev fn2 (P : Program) {α α' β : Type} [Rep α] [Rep α'] (S : β → SPred) (f : α → α' → Option β) : SPred := fnv P (ι := α × α' × β) (fun i => f i.1 i.2.1 = some i.2.2) (fun i => [rep i.1, rep i.2.1]) (fun i => S i.2.2)
abbrev fn3 (P : Program) {α α' α'' β : Type} [Rep α] [Rep α'] [Rep α''] (S : β → SPred) (f : α → α' → α'' → Option β) : SPred :=
  fnv P (ι := α × α' × α'' × β) (fun i => f i.1 i.2.1 i.2.2.1 = some i.2.2.2) (fun i => [rep i.1, rep i.2.1, rep i.2.2.1]) (fun i => S i.2.2.2)
abbrev tup2 {α β : Type} [Rep α] [Rep β] (r : α × β) : SPred := tup [rep r.1, rep r.2]
abbrev tup3 {α β γ : Type} [Rep α] [Rep β] [Rep γ] (r : α × β × γ) : SPred := tup [rep r.1, rep r.2.1, rep r.2.2]
abbrev tup4 {α β γ δ : Type} [Rep α] [Rep β] [Rep γ] [Rep δ] (r : α × β × γ × δ) : SPred := tup [rep r.1, rep r.2.1, rep r.2.2.1, rep r.2.2.2]

/-! Steps in other words. -/

section
variable {P : Program} {ops : Array Oper} {fs : Nat} {L : Slots} {B : Owns} {G : Prop}

theorem StepOK.re {o : Oper} {x : Aux} {α : Type} [Rep α] {e v : α} {Ws : Writes} (hv : v = e) (h : StepOK P ops fs o L B x ⟨G, rep e⟩ Ws) : StepOK P ops fs o L B x ⟨G, rep v⟩ Ws := hv ▸ h

/-- What stands for nothing in memory that is written. -/
def FlatS (S : SPred) : Prop := ∀ M M' v w, S.p M v w → S.p M' v w
class Flat (α : Type) [Rep α] : Prop where
  cells : ∀ {M M' : MSet} {x : α} {cs : List Value} {w : World}, Rep.cells M x cs w → Rep.cells M' x cs w
instance : Flat Int := ⟨fun h => h⟩
instance : Flat Bool := ⟨fun h => h⟩
instance {α β : Type} [Rep α] [Rep β] [Flat α] [Flat β] : Flat (α × β) := ⟨fun ⟨c1, c2, h, h1, h2⟩ => ⟨c1, c2, h, Flat.cells h1, Flat.cells h2⟩⟩
theorem Flat.via {α β : Type} [r : Rep β] [Flat β] (f : α → β) : @Flat α (Rep.via f) := @Flat.mk α (Rep.via f) (fun h => Flat.cells (α := β) h)
theorem FlatS.any : FlatS anyV := fun _ _ _ _ _ => trivial
/-- Operands, some of which are rows of one's own that are lent. -/
inductive OpdB (L : Slots) (B : Owns) (G : Prop) : List Operand → List SPred → List Nat → Prop
  | nil : OpdB L B G [] [] []
  | cons {x S xs Ss ks} : Opd L G x S → OpdB L B G xs Ss ks → OpdB L B G (x :: xs) (S :: Ss) ks
  | lend {x xs Ss ks k T} {α : Type} [Rep α] {l : List α} : RowArg L B x k (rowV T l) → OpdB L B G xs Ss ks → OpdB L B G (x :: xs) (rep l :: Ss) (k :: ks)

theorem rep_less {S : SPred} {M M' : MSet} {v : Value} {w : World} (h : S.p M v w) (hm : ∀ k, M' k → M k) : S.p M' v w := S.law M M' v w w (Keeps.refl _ _) (fun k hk => .inl (hm k hk)) h

theorem OpdB.get {xs : List Operand} {Ss : List SPred} {ks : List Nat} (h : OpdB L B G xs Ss ks) {ts kz : List Nat} {M : MSet} {D : Nat → MSet} {a : Act} {w : World}
    (hs : SatOn ts M L a w) (hx : ∀ x ∈ xs, ∀ t, x = .tmp t → t ∈ ts) (hB : SatB kz M D B a w) (hk : ∀ k ∈ ks, k ∈ kz) (hG : G) (hm : ∀ k, M k → k < w.heap.size)
    (M' : MSet) (hM : ∀ k, M' k → M k) (hD : ∀ k ∈ ks, ∀ j, D k j → ¬ M' j) : All2 M' w Ss (xs.map a.eval) := by
  induction h with
  | nil => trivial
  | cons h1 _ ih => exact ⟨rep_less (h1.get hs (hx _ List.mem_cons_self) hG) hM, ih (fun x hm => hx x (List.mem_cons_of_mem _ hm)) hk hD⟩
  | lend h1 _ ih =>
    refine ⟨?_, ih (fun x hm => hx x (List.mem_cons_of_mem _ hm)) (fun k h => hk k (List.mem_cons_of_mem _ h)) (fun k h => hD k (List.mem_cons_of_mem _ h))⟩
    obtain ⟨hC, _⟩ := h1.get hs (hx _ List.mem_cons_self) hB (hk _ List.mem_cons_self)
    exact rep_less (rowV_rep M (D _) w _ hC hm) (fun k h => ⟨hM k h, fun hd => hD _ List.mem_cons_self k hd h⟩)

variable {d : Option Tmp} {ty : TypeId} {pos : String} {after : Array Edge} {g : Option (Nat × Bool)}

end

/-! Loops. -/

section
variable {P : Program} {Q : Exit → Act → World → Prop} {n : Nat} {F : Fr} {L : Slots} {B : Owns}

theorem Cod.loopL {c : Code} {σ ρ : Type} {body : σ → Option (Step σ ρ)} {s0 : σ} {e : ρ} (he : Go.DB.loop body s0 = some e) (Ls : σ → Slots) (Bs : σ → Owns) {keep : Slots} {keepB : Owns}
    (h0 : Sub L (Ls s0)) (hB0 : SubB B (Bs s0)) (hk : Sub L keep) (hkB : SubB B keepB)
    (round : ∀ s o, body s = some o → (∀ e', o = .done e' → some e' = some e) → Cod P c (Exit.then (fun a w => ∃ s', o = .again s' ∧ Sat n F (Ls s' ++ keep) (Bs s' ++ keepB) a w) Q) n F (Ls s ++ keep) (Bs s ++ keepB)) :
    Cod P (.loop c) Q n F L B := by
  obtain ⟨m, hm⟩ := loop_iff.1 he
  refine Cod.loop (ι := { p : σ × Nat // iter body p.2 p.1 = some e }) (fun p => Ls p.1.1 ++ keep) (fun p => Bs p.1.1 ++ keepB) (fun p => p.1.2) ⟨(s0, m), hm⟩ (h0.append hk) (hB0.append hkB) ?_
  rintro ⟨⟨s, k⟩, hi⟩
  cases k with
  | zero => simp [iter] at hi
  | succ k =>
    simp only [iter] at hi
    cases hb : body s with
    | none => rw [hb] at hi; cases hi
    | some o =>
      rw [hb] at hi
      have hr := round s o hb (fun e' ho => by subst ho; exact hi)
      intro a w hs
      refine wp_mono (hr a w hs) (fun x a w hq => ?_)
      cases x with
      | normal =>
        obtain ⟨s', ho, h3⟩ := hq
        subst ho
        exact ⟨⟨(s', k), hi⟩, Nat.lt_succ_self k, h3⟩
      | _ => exact hq

theorem Ends.againL {σ ρ : Type} {o : Step σ ρ} {Ls : σ → Slots} {Bs : σ → Owns} {keep : Slots} {keepB : Owns} {s' : σ} (ho : o = .again s') (h : Sub L (Ls s' ++ keep)) (hB : SubB B (Bs s' ++ keepB)) :
    Ends (Exit.then (fun a w => ∃ s', o = .again s' ∧ Sat n F (Ls s' ++ keep) (Bs s' ++ keepB) a w) Q) .normal n F L B := fun _ _ hs => ⟨s', ho, hs.weaken h hB⟩

end

/-! Structs that are made. -/

section
variable {P : Program} {ops : Array Oper} {fs : Nat} {L : Slots} {B : Owns} {G : Prop}
variable {d : Option Tmp} {ty : TypeId} {pos : String} {after : Array Edge} {g : Option (Nat × Bool)} {xr : List Nat}

inductive Fills {α : Type} [Rep α] (pl : List (Nat × Nat)) : α → List Nat → List SPred → α → Prop
  | nil {x} : Fills pl x [] [] x
  | cons {x i is off Ss y} {β : Type} [Rep β] {z : β} {set : α → β → α} : pl[i]? = some (off, Rep.sz β) → SetField α β off set → Fills pl (set x z) is Ss y → Fills pl x (i :: is) (rep z :: Ss) y

theorem foldl_put (off : Nat) : ∀ (vs : List Value) (pre mid rest : List Value) (j : Nat), mid.length = vs.length → pre.length = off + j →
    (vs.zipIdx j).foldl (fun (cs : Array Value) (p : Value × Nat) => cs.setIfInBounds (off + p.2) p.1) (pre ++ mid ++ rest).toArray = (pre ++ vs ++ rest).toArray
  | [], pre, mid, rest, j, hl, _ => by
    have : mid = [] := List.length_eq_zero_iff.1 hl
    subst this; rfl
  | v :: vs, pre, m :: mid, rest, j, hl, hp => by
    simp only [List.zipIdx_cons, List.foldl_cons]
    have h1 : (pre ++ m :: mid ++ rest).toArray.setIfInBounds (off + j) v = ((pre ++ [v]) ++ mid ++ rest).toArray := by
      rw [← hp]
      apply Array.ext'
      simp
    rw [h1, foldl_put off vs (pre ++ [v]) mid rest (j + 1) (by simpa using hl) (by simp [hp]; omega)]
    simp

theorem Fills.run {α : Type} [Rep α] {pl : List (Nat × Nat)} {x y : α} {is : List Nat} {Ss : List SPred} (h : Fills pl x is Ss y) {M : MSet} {w : World} : ∀ {zs vs : List Value}, Rep.cells M x zs w → All2 M w Ss vs →
    ∃ cs, Instr.fill (pl.toArray[·]?) zs.toArray (is.zip vs) = some cs.toArray ∧ Rep.cells M y cs w := by
  induction h with
  | nil => intro zs vs hz ha; exact ⟨zs, by simp [Instr.fill], hz⟩
  | @cons x i is off Ss y β _ z set hi hF _ ih =>
    intro zs vs hz ha
    match vs, ha with
    | v :: vs, ha =>
      obtain ⟨⟨zc, hzc, rfl⟩, ha⟩ := ha
      have hfl := Rep.flat hzc
      have hlz := Rep.len hzc
      have hlx := Rep.len hz
      have hle := hF.1
      have hsplit : zs = zs.take off ++ (zs.drop off).take (Rep.sz β) ++ zs.drop (off + Rep.sz β) := by
        rw [← List.drop_drop, List.append_assoc, List.take_append_drop, List.take_append_drop]
      obtain ⟨cs, h1, h2⟩ := ih (hF.2 M x z zs zc w hz hzc) ha
      refine ⟨cs, ?_, h2⟩
      rw [List.zip_cons_cons, Instr.fill]
      simp only [List.getElem?_toArray, hi, hfl]
      rw [if_neg (by simp [hlz, hlx]; omega)]
      have key := foldl_put off zc (zs.take off) ((zs.drop off).take (Rep.sz β)) (zs.drop (off + Rep.sz β)) 0 (by rw [List.length_take, List.length_drop]; omega) (by rw [List.length_take]; omega)
      rw [← hsplit] at key
      have key2 : zc.toArray.zipIdx.foldl (fun (cs : Array Value) (p : Value × Nat) => cs.setIfInBounds (off + p.2) p.1) zs.toArray = (zs.take off ++ zc ++ zs.drop (off + Rep.sz β)).toArray := by
        rw [← key, ← Array.foldl_toList, Array.toList_zipIdx]
      have h1' := h1
      simp only [List.getElem?_toArray] at h1'
      rw [← h1', ← key2]

theorem StepOK.buildF {T : Nat} {α : Type} [Rep α] {parts : Array (Nat × Operand)} {x0 y : α} {zero : List Value} {places : List (Nat × Nat)} {Ss : List SPred} (hg : Guard ops g L G) (hb : BuildAt P T zero places) (hz : ∀ M w, Rep.cells M x0 zero w) (hagg : Rep.agg α = true)
    (hx : OpdL L G (parts.toList.map (·.2)) Ss) (hf : Fills places x0 (parts.toList.map (·.1)) Ss y) :
    StepOK P ops fs ⟨d, .build T parts, ty, pos, after, g⟩ L B (xr, []) ⟨G, rep y⟩ [] :=
  .build hg hb hx hagg (fun M w vs ha => hf.run (hz M w) ha)

end
end Go.DB

/-
  More rules for walks along lifted functions: joins, ranges, what is written no more at an end, parts that are lent.
-/
set_option linter.unusedSimpArgs false
set_option linter.unusedVariables false
namespace Go.DB
open Go Go.RowKit

/-! Outcomes. -/

def resb {σ ρ : Type} (o : Res σ ρ) (k : σ → Option ρ) : Option ρ := match o with
  | .nx s => k s
  | .ab r => some r
def bindR {σ ρ : Type} (m : Option (Res σ ρ)) (k : σ → Option ρ) : Option ρ := m.bind (fun o => resb o k)
def resd {σ τ ρ : Type} (o : Res σ ρ) (k : σ → Option (Step τ ρ)) : Option (Step τ ρ) := match o with
  | .nx s => k s
  | .ab r => some (.done r)
def bindD {σ τ ρ : Type} (m : Option (Res σ ρ)) (k : σ → Option (Step τ ρ)) : Option (Step τ ρ) := m.bind (fun o => resd o k)
theorem bindR_some {σ ρ : Type} {m : Option (Res σ ρ)} {k : σ → Option ρ} {r : ρ} (h : bindR m k = some r) : ∃ o, m = some o ∧ resb o k = some r := bind_some h
theorem bindD_some {σ τ ρ : Type} {m : Option (Res σ ρ)} {k : σ → Option (Step τ ρ)} {r : Step τ ρ} (h : bindD m k = some r) : ∃ o, m = some o ∧ resd o k = some r := bind_some h
theorem resb_nx {σ ρ : Type} {o : Res σ ρ} {k : σ → Option ρ} {r : Option ρ} {s : σ} (h : resb o k = r) (ho : o = .nx s) : k s = r := by subst ho; exact h
theorem resb_ab {σ ρ : Type} {o : Res σ ρ} {k : σ → Option ρ} {r : Option ρ} {s : ρ} (h : resb o k = r) (ho : o = .ab s) : some s = r := by subst ho; exact h
theorem resd_nx {σ τ ρ : Type} {o : Res σ ρ} {k : σ → Option (Step τ ρ)} {r : Option (Step τ ρ)} {s : σ} (h : resd o k = r) (ho : o = .nx s) : k s = r := by subst ho; exact h
theorem resd_ab {σ τ ρ : Type} {o : Res σ ρ} {k : σ → Option (Step τ ρ)} {r : Option (Step τ ρ)} {s : ρ} (h : resd o k = r) (ho : o = .ab s) : some (.done s) = r := by subst ho; exact h

theorem rforE_loop {σ O : Type} {n : Int} {step : Int → σ → Option (Res σ O)} {fin : σ → O} {s0 : σ} :
    rforE n step fin s0 = loop (fun p : Int × σ => bif decide (p.1 < n) then bindD (step p.1 p.2) (fun s' => some (.again (W (p.1 + 1), s'))) else some (.done (fin p.2))) (0, s0) := by
  rfl

section
variable {P : Program} {Q : Exit → Act → World → Prop} {n : Nat} {F : Fr} {L : Slots} {B : Owns}

theorem Cod.rforL {c : Code} {σ : Type} {m : Int} {step : Int → σ → Option σ} {s0 e : σ} (he : rfor m step s0 = some e) (Ls : Int × σ → Slots) (Bs : Int × σ → Owns) {keep : Slots} {keepB : Owns}
    (h0 : Sub L (Ls (0, s0))) (hB0 : SubB B (Bs (0, s0))) (hk : Sub L keep) (hkB : SubB B keepB)
    (round : ∀ (p : Int × σ) (o : Step (Int × σ) σ), (bif decide (p.1 < m) then (step p.1 p.2).bind (fun s' => some (.again (W (p.1 + 1), s'))) else some (.done p.2)) = some o → (∀ e', o = .done e' → some e' = some e) →
      Cod P c (Exit.then (fun a w => ∃ s', o = .again s' ∧ Sat n F (Ls s' ++ keep) (Bs s' ++ keepB) a w) Q) n F (Ls p ++ keep) (Bs p ++ keepB)) : Cod P (.loop c) Q n F L B :=
  Cod.loopL he Ls Bs h0 hB0 hk hkB round
theorem Cod.rforEL {c : Code} {σ O : Type} {m : Int} {step : Int → σ → Option (Res σ O)} {fin : σ → O} {s0 : σ} {e : O} (he : rforE m step fin s0 = some e) (Ls : Int × σ → Slots) (Bs : Int × σ → Owns) {keep : Slots} {keepB : Owns}
    (h0 : Sub L (Ls (0, s0))) (hB0 : SubB B (Bs (0, s0))) (hk : Sub L keep) (hkB : SubB B keepB)
    (round : ∀ (p : Int × σ) (o : Step (Int × σ) O), (bif decide (p.1 < m) then bindD (step p.1 p.2) (fun s' => some (.again (W (p.1 + 1), s'))) else some (.done (fin p.2))) = some o → (∀ e', o = .done e' → some e' = some e) →
      Cod P c (Exit.then (fun a w => ∃ s', o = .again s' ∧ Sat n F (Ls s' ++ keep) (Bs s' ++ keepB) a w) Q) n F (Ls p ++ keep) (Bs p ++ keepB)) : Cod P (.loop c) Q n F L B :=
  Cod.loopL (rforE_loop.symm.trans he) Ls Bs h0 hB0 hk hkB round

/-- What comes behind is shown once, from what every road there tells. -/
theorem Cod.thenJ {x y : Code} {ι : Type} (Ls : ι → Slots) (Bs : ι → Owns) (prop : ι → Prop) {keep : Slots} {keepB : Owns} (hk : Sub L keep) (hkB : SubB B keepB)
    (h : Cod P x (Exit.then (fun a w => ∃ j, prop j ∧ Sat n F (Ls j ++ keep) (Bs j ++ keepB) a w) Q) n F L B)
    (k : ∀ i, prop i → Cod P y Q n F (Ls i ++ keep) (Bs i ++ keepB)) : Cod P x (Exit.then (y.wp P Q) Q) n F L B := fun a w hs => wp_mono (h a w hs) (fun e a w hq => by
  cases e with
  | normal => obtain ⟨j, h1, h2⟩ := hq; exact k j h1 a w h2
  | _ => exact hq)

/-! What is written no more, whatever follows. -/

theorem lookB_shadow {t : Nat} {C : Option CPred} {t' : Nat} : lookB ((t, C) :: B) t' = if t = t' then C else lookB B t' := by
  simp only [lookB]
  by_cases h : t = t'
  · subst h; simp
  · rw [beq_ne h, if_neg h]; rfl

theorem Cod.reB {c : Code} {t : Nat} {C C' : CPred} (hl : lookB B t = some C) (hC : C' = C) (k : Cod P c Q n F L ((t, some C') :: B)) : Cod P c Q n F L B := by
  refine Cod.weaken (fun _ _ h => h) (fun t' c' h => ?_) k
  rw [lookB_shadow] at h
  by_cases he : t = t'
  · subst he; rw [if_pos rfl] at h; rw [hl, ← hC]; exact h
  · rw [if_neg he] at h; exact h

variable {e : Exit}

theorem Ends.freezeKey {t : Nat} {C : CPred} {S : SPred} {B' : Owns} (hl : lookB B t = some C) (ht : Nat.blt t n = true) (hB : SubB B B') (hn : hasKey B' t = false)
    (hS : ∀ (M D : MSet) (w : World) (s : Value), C.p M D s w → (∀ k, M k → k < w.heap.size) → S.p (fun k => M k ∧ ¬ D k) s w) (k : Ends Q e n F ((t, ⟨True, S⟩) :: L) B') : Ends Q e n F L B := by
  intro a w hs
  obtain ⟨M, D, h⟩ := id hs
  have hC := h.hasB t _ hl
  refine k a w ⟨_, D, h.free hl hB hn fun t' e he => ?_⟩
  have hlow : ∀ k, (M k ∧ ¬ D t k) → M k ∨ w.heap.size ≤ k := fun k h => .inl h.1
  simp only [look] at he
  by_cases hne : t = t'
  · subst hne
    simp at he; subst he
    have hlt : t < a.tmps.size := by rw [h.size]; exact Nat.le_of_ble_eq_true ht
    exact ⟨Act.val a t, by unfold Act.val; simp [hlt], fun _ => hS M (D t) w _ hC h.msub, fun hf => (hf trivial).elim⟩
  · rw [beq_ne hne, cond_false] at he
    obtain ⟨v', h1, h2⟩ := h.has t' e he
    exact ⟨v', h1, Ent.holds_law (Keeps.refl M w) hlow h2⟩
theorem Ends.freezeRowA {t T : Nat} {α : Type} [Rep α] {l : List α} {B' : Owns} (hl : lookB B t = some (rowV T l)) (ht : Nat.blt t n = true) (hB : SubB B B') (hn : hasKey B' t = false)
    (k : Ends Q e n F ((t, ⟨True, rep l⟩) :: L) B') : Ends Q e n F L B := Ends.freezeKey hl ht hB hn (fun M D w s h hms => rowV_rep M D w s h hms) k
theorem Ends.freeze {t T : Nat} {α : Type} [Rep α] {y : α} {B' : Owns} (hl : lookB B t = some (cont T y)) (ht : Nat.blt t n = true) (hB : SubB B B') (hn : hasKey B' t = false)
    (k : Ends Q e n F ((t, ⟨True, ref y⟩) :: L) B') : Ends Q e n F L B := Ends.freezeKey hl ht hB hn (fun M D w s h hms => cont_ref h hms) k
theorem Ends.freezeAt {g : Nat} {s : Value} {C : CPred} {S : SPred} {ts : List Nat} {B' : Owns} (hl : lookB B g = some (CPred.at s C)) (hts : AllAre L s ts) (hB : SubB B B') (hn : hasKey B' g = false)
    (hS : ∀ (M D : MSet) (w : World), C.p M D s w → (∀ k, M k → k < w.heap.size) → S.p (fun k => M k ∧ ¬ D k) s w) (k : Ends Q e n F (fillS S ts L) B') : Ends Q e n F L B := by
  intro a w hs
  obtain ⟨M, D, h⟩ := id hs
  have hC : C.p M (D g) s w := h.hasB g _ hl
  refine k a w ⟨_, D, h.free hl hB hn fun t' e he => ?_⟩
  have hlow : ∀ k, (M k ∧ ¬ D g k) → M k ∨ w.heap.size ≤ k := fun k h => .inl h.1
  rcases look_fillS he with ⟨h1, rfl⟩ | h1
  · obtain ⟨c, hc, hl'⟩ := hts t' h1
    obtain ⟨v, hv, he'⟩ := h.has t' _ hl'
    obtain ⟨rfl, _⟩ := rep_raw.1 (he'.1 hc)
    exact ⟨v, hv, fun _ => hS M (D g) w hC h.msub, fun hf => (hf trivial).elim⟩
  · obtain ⟨v', h1, h2⟩ := h.has t' e h1
    exact ⟨v', h1, Ent.holds_law (Keeps.refl M w) hlow h2⟩
theorem Ends.freezeBox {g T m : Nat} {α : Type} [Rep α] {y : α} {ts : List Nat} {B' : Owns} (hl : lookB B g = some (boxAt m T y)) (hts : AllAre L (ptr m 0) ts) (hB : SubB B B') (hn : hasKey B' g = false)
    (k : Ends Q e n F (fillS (ref y) ts L) B') : Ends Q e n F L B := Ends.freezeAt hl hts hB hn (fun M D w h hms => cont_ref h hms) k

end

/-! Parts of rows. -/

/-- The value of a part of a slice. -/
def partV (s : Value) (i j : Int) (sz : Nat) : Value := match s with
  | .slice ad _ cap => sliced ad i.toNat j.toNat cap sz
  | _ => s

section
variable {P : Program} {ops : Array Oper} {fs : Nat} {L : Slots} {B : Owns} {G : Prop}
variable {d : Option Tmp} {ty : TypeId} {pos : String} {after : Array Edge} {g : Option (Nat × Bool)} {xr : List Nat}

theorem rep_part {α : Type} [Rep α] {l : List α} {i j : Int} {M : MSet} {s : Value} {w : World} (h : (rep l).p M s w) (hb : segR l.length i j) : (rep (seg l i j)).p M (partV s i j (Rep.sz α)) w := by
  obtain ⟨ad, cap, rfl, hcap, hcm, hl⟩ := rep_list.1 h
  obtain ⟨h0, h1, h2⟩ := hb
  refine rep_list.2 ⟨if cap = i.toNat then ad else ad.map (·.add (i.toNat * Rep.sz α)), cap - i.toNat, ?_, ?_, by omega, ?_⟩
  · simp only [partV, sliced, seg, List.length_drop, List.length_take]
    congr 1; omega
  · simp only [seg, List.length_drop, List.length_take]; omega
  · unfold seg
    cases ad with
    | none =>
      have : l = [] := hl
      subst this
      split <;> simp [Lies]
    | some ad =>
      have key : ∀ ad' : Addr, (∀ q, q < ((l.take j.toNat).drop i.toNat).length → ad' = ⟨ad.block, ad.off + i.toNat * Rep.sz α, none⟩) → Lies M ((l.take j.toNat).drop i.toNat) (some ad') w := by
        intro ad' hq q hql
        obtain rfl := hq q hql
        have hql' : i.toNat + q < l.length := by simp only [List.length_drop, List.length_take] at hql; omega
        obtain ⟨g1, g2, g3, cs, g4, g5⟩ := hl (i.toNat + q) hql'
        refine ⟨rfl, g2, g3, cs, ?_, fun k hk => ?_⟩
        · simp only [List.getElem_drop, List.getElem_take]; exact g4
        · rw [← g5 k hk]
          have : ad.spot = none := g1
          simp only [Nat.add_mul]
          congr 2; omega
      have hspot : ∀ q, q < ((l.take j.toNat).drop i.toNat).length → ad.spot = none := fun q hq => (hl (i.toNat + q) (by simp only [List.length_drop, List.length_take] at hq; omega)).1
      split
      · rename_i he
        refine key ad fun q hq => ?_
        simp only [List.length_drop, List.length_take] at hq
        omega
      · refine key _ fun q hq => ?_
        have := hspot q hq
        obtain ⟨b, off, sp⟩ := ad
        simp only at this
        subst this
        exact add_none _ _ _

/-- Operands, some of which are rows of one's own, or parts of them, that are lent. -/
inductive OpdB2 (L : Slots) (B : Owns) (G : Prop) : List Operand → List SPred → List Nat → Prop
  | nil : OpdB2 L B G [] [] []
  | cons {x S xs Ss ks} : Opd L G x S → OpdB2 L B G xs Ss ks → OpdB2 L B G (x :: xs) (S :: Ss) ks
  | lend {x xs Ss ks k T} {α : Type} [Rep α] {l : List α} : RowArg L B x k (rowV T l) → OpdB2 L B G xs Ss ks → OpdB2 L B G (x :: xs) (rep l :: Ss) (k :: ks)
  | lendG {x xs Ss ks k T s} {α : Type} [Rep α] {l : List α} : Opd L G x (isV s) → lookB B k = some (CPred.at s (rowV T l)) → OpdB2 L B G xs Ss ks → OpdB2 L B G (x :: xs) (rep l :: Ss) (k :: ks)
  | lendP {x xs Ss ks k T s i j} {α : Type} [Rep α] {l : List α} : Opd L G x (isV (partV s i j (Rep.sz α))) → lookB B k = some (CPred.at s (rowV T l)) → segR l.length i j → OpdB2 L B G xs Ss ks → OpdB2 L B G (x :: xs) (rep (seg l i j) :: Ss) (k :: ks)

theorem OpdB2.get {xs : List Operand} {Ss : List SPred} {ks : List Nat} (h : OpdB2 L B G xs Ss ks) {ts kz : List Nat} {M : MSet} {D : Nat → MSet} {a : Act} {w : World}
    (hs : SatOn ts M L a w) (hx : ∀ x ∈ xs, ∀ t, x = .tmp t → t ∈ ts) (hB : SatB kz M D B a w) (hk : ∀ k ∈ ks, k ∈ kz) (hG : G) (hm : ∀ k, M k → k < w.heap.size)
    (M' : MSet) (hM : ∀ k, M' k → M k) (hD : ∀ k ∈ ks, ∀ j, D k j → ¬ M' j) : All2 M' w Ss (xs.map a.eval) := by
  induction h with
  | nil => trivial
  | cons h1 _ ih => exact ⟨rep_less (h1.get hs (hx _ List.mem_cons_self) hG) hM, ih (fun x hm => hx x (List.mem_cons_of_mem _ hm)) hk hD⟩
  | lend h1 _ ih =>
    refine ⟨?_, ih (fun x hm => hx x (List.mem_cons_of_mem _ hm)) (fun k h => hk k (List.mem_cons_of_mem _ h)) (fun k h => hD k (List.mem_cons_of_mem _ h))⟩
    obtain ⟨hC, _⟩ := h1.get hs (hx _ List.mem_cons_self) hB (hk _ List.mem_cons_self)
    exact rep_less (rowV_rep M (D _) w _ hC hm) (fun k h => ⟨hM k h, fun hd => hD _ List.mem_cons_self k hd h⟩)
  | lendG h1 h2 _ ih =>
    refine ⟨?_, ih (fun x hm => hx x (List.mem_cons_of_mem _ hm)) (fun k h => hk k (List.mem_cons_of_mem _ h)) (fun k h => hD k (List.mem_cons_of_mem _ h))⟩
    have hv := (rep_raw.1 (h1.get hs (hx _ List.mem_cons_self) hG)).1
    have hC := hB.has _ (hk _ List.mem_cons_self) _ h2
    rw [hv]
    exact rep_less (rowV_rep M (D _) w _ hC hm) (fun k h => ⟨hM k h, fun hd => hD _ List.mem_cons_self k hd h⟩)
  | lendP h1 h2 h3 _ ih =>
    refine ⟨?_, ih (fun x hm => hx x (List.mem_cons_of_mem _ hm)) (fun k h => hk k (List.mem_cons_of_mem _ h)) (fun k h => hD k (List.mem_cons_of_mem _ h))⟩
    have hv := (rep_raw.1 (h1.get hs (hx _ List.mem_cons_self) hG)).1
    have hC := hB.has _ (hk _ List.mem_cons_self) _ h2
    rw [hv]
    exact rep_part (rep_less (rowV_rep M (D _) w _ hC hm) (fun k h => ⟨hM k h, fun hd => hD _ List.mem_cons_self k hd h⟩)) h3

theorem ex_nilCheck {ρ : Operand → Value} {x : Operand} {ad : Addr} {w : World} (h : ρ x = .pointer (some ad)) :
    (execOp ρ ⟨d, .nilCheck x, ty, pos, after, g⟩).run P w = .ok (.value (.pointer (some ad))) w := by
  simp only [execOp, h]; rfl
theorem StepOK.nilCheckR {x : Operand} {α : Type} [Rep α] {y : α} (hg : Guard ops g L G) (hx : Opd L G x (ref y)) : StepOK P ops fs ⟨d, .nilCheck x, ty, pos, after, g⟩ L B (xr, []) ⟨G, ref y⟩ [] :=
  .pure hg fun M a w _ hs hG => by
    have h := hx.get hs (fun t ht => looksAt_op (by simp [Op.operands, ht])) hG
    obtain ⟨b, o, cs, hv, h'⟩ := id h
    exact ⟨_, ex_nilCheck hv, hv ▸ h⟩
theorem StepOK.nilCheckP {x : Operand} {m o : Nat} (hg : Guard ops g L G) (hx : Opd L G x (isV (ptr m o))) : StepOK P ops fs ⟨d, .nilCheck x, ty, pos, after, g⟩ L B (xr, []) ⟨G, isV (ptr m o)⟩ [] :=
  .pure hg fun M a w _ hs hG => by
    have h := hx.get hs (fun t ht => looksAt_op (by simp [Op.operands, ht])) hG
    exact ⟨_, ex_nilCheck (rep_raw.1 h).1, isV_ptr⟩

end

/-! Comparison of structs of integers. -/

theorem All2.ints {M : MSet} {w : World} : ∀ (xs : List Int) (vs : List Value), All2 M w (xs.map rep) vs → vs = xs.map (.int .i64 ·) ∧ ∀ x ∈ xs, InI x
  | [], [], _ => ⟨rfl, by simp⟩
  | [], _ :: _, h => h.elim
  | _ :: _, [], h => h.elim
  | x :: xs, v :: vs, h => by
    obtain ⟨h1, h2⟩ := All2.ints xs vs h.2
    obtain ⟨h3, h4⟩ := rep_int.1 h.1
    exact ⟨by rw [h1, h3]; rfl, fun y hy => by
      rcases List.mem_cons.1 hy with rfl | hy
      · exact h4
      · exact h2 y hy⟩

/-- Two structs of integers are compared part by part. -/
def IntFields (P : Program) (T : Nat) (n : Nat) : Prop :=
  P.underlying T = some (.struct (P.fieldsOf T)) ∧ P.stoodInHeld T = false ∧ P.eqGuardType P.depth T = false ∧
    (P.fieldsOf T).toList.map (fun f => (f.name != "_", f.offset, P.underlying f.type)) = (List.range n).map (fun i => (true, i, some (.int .i64)))

theorem run_eqFields {P : Program} {w : World} (k : Nat) (xs ys : List Int) (hxy : xs.length = ys.length) : ∀ (fs : List Field) (i m : Nat), i + m = xs.length →
    fs.map (fun f => (f.name != "_", f.offset, P.underlying f.type)) = (List.range' i m).map (fun i => (true, i, some (.int .i64))) →
    (Op.eqFields (k + 1) (xs.map (Value.int .i64 ·)).toArray (ys.map (Value.int .i64 ·)).toArray fs).run P w = .ok (decide (xs.drop i = ys.drop i)) w
  | [], i, m, him, h => by
    have hm : m = 0 := by
      have := congrArg List.length h
      simp at this; omega
    subst hm
    rw [List.drop_of_length_le (by omega), List.drop_of_length_le (by omega)]
    simp [Op.eqFields, go_sem]
  | f :: fs, i, m, him, h => by
    obtain ⟨m, rfl⟩ : ∃ m', m = m' + 1 := ⟨m - 1, by have := congrArg List.length h; simp at this; omega⟩
    rw [List.range'_succ] at h
    simp only [List.map_cons, List.cons.injEq, Prod.mk.injEq] at h
    obtain ⟨⟨h1, h2, h3⟩, h4⟩ := h
    have hne : f.name ≠ "_" := by simpa using h1
    have hx : i < xs.length := by omega
    have hy : i < ys.length := by omega
    have hag : (isAgg f.type).run P w = .ok false w := by simp [isAgg, underlying, h3, go_sem]
    have pt : ∀ (zs : List Int) (hz : i < zs.length), (part f.type (zs.map (Value.int .i64 ·)).toArray f.offset).run P w = .ok (.int .i64 zs[i]) w := by
      intro zs hz
      unfold part
      rw [Sem.run_bind, hag]
      simp only [Result.andThen, h2]
      have : ((zs.map (Value.int .i64 ·)).toArray)[i]? = some (.int .i64 zs[i]) := by simp [hz]
      simp only [Bool.false_eq_true, if_false, this]
      rfl
    have ih := run_eqFields (P := P) (w := w) k xs ys hxy fs (i + 1) m (by omega) h4
    rw [Op.eqFields, if_pos hne, Sem.run_bind, pt xs hx]
    simp only [Result.andThen]
    rw [Sem.run_bind, pt ys hy]
    simp only [Result.andThen]
    rw [Sem.run_bind, run_equalIn_int k h3]
    simp only [Result.andThen]
    have key : decide (xs.drop i = ys.drop i) = (decide (xs[i] = ys[i]) && decide (xs.drop (i + 1) = ys.drop (i + 1))) := by
      rw [List.drop_eq_getElem_cons hx, List.drop_eq_getElem_cons hy, ← Bool.decide_and]
      exact decide_eq_decide.2 (by rw [List.cons.injEq])
    rw [key]
    by_cases he : xs[i] = ys[i]
    · have hb : (xs[i] == ys[i]) = true := by simp [he]
      rw [hb]
      simp only [Bool.not_true, Bool.false_eq_true, if_false]
      rw [ih, decide_eq_true he, Bool.true_and]
    · have hb : (xs[i] == ys[i]) = false := by simp [he]
      rw [hb, decide_eq_false he, Bool.false_and]
      simp [go_sem]

theorem eqAt_ints {P : Program} {T n : Nat} {α : Type} [Rep α] [DecidableEq α] (f : α → List Int) (hf : ∀ a b, f a = f b ↔ a = b) (hlen : ∀ a, (f a).length = n)
    (hrep : ∀ (M : MSet) (v : Value) (w : World) (a : α), (rep a).p M v w → v = .agg ((f a).map (Value.int .i64 ·)).toArray) (hT : IntFields P T n) : EqAt P T α := by
  obtain ⟨hu, hst, hgd, hfs⟩ := hT
  intro M w p q x y v u hv hu'
  obtain rfl := hrep _ _ _ _ hv
  obtain rfl := hrep _ _ _ _ hu'
  have h : (Op.equal T (.agg ((f x).map (Value.int .i64 ·)).toArray) (.agg ((f y).map (Value.int .i64 ·)).toArray)).run P w = .ok (decide (x = y)) w := by
    show (Op.equalIn (9998 + 1 + 1) T _ _).run P w = _
    rw [run_equalIn_struct w _ T _ _ hu hst, run_eqFields 9998 (f x) (f y) (by rw [hlen, hlen]) _ 0 n (by rw [hlen]; omega) (by rw [hfs, List.range_eq_range'])]
    simp [hf]
  have hg : ∀ op, (op = .eql ∨ op = .neq) → (eqGuard op T p q (.agg ((f x).map (Value.int .i64 ·)).toArray) (.agg ((f y).map (Value.int .i64 ·)).toArray)).run P w = .ok () w := by
    intro op hop
    rcases hop with rfl | rfl <;> simp [eqGuard, go_sem, hgd]
  constructor
  · rw [Sem.run_bind, hg _ (.inl rfl)]
    simp only [Result.andThen, binOp]
    rw [Sem.run_bind, h]; rfl
  · rw [Sem.run_bind, hg _ (.inr rfl)]
    simp only [Result.andThen, binOp]
    rw [Sem.run_bind, h]; rfl


/-! What fits: what a value's being represented tells. -/

class Fits (α : Type) where
  isFits : α → Prop
abbrev fits {α : Type} [Fits α] (x : α) : Prop := Fits.isFits x
instance : Fits Int := ⟨InI⟩
instance : Fits Bool := ⟨fun _ => True⟩
instance {α : Type} [Fits α] : Fits (List α) := ⟨fun l => l.length ≤ 9223372036854775807 ∧ ∀ x ∈ l, fits x⟩

class FitsRep (α : Type) [Rep α] [Fits α] : Prop where
  of : ∀ {M : MSet} {x : α} {cs : List Value} {w : World}, Rep.cells M x cs w → fits x
instance : FitsRep Int := ⟨fun h => h.2⟩
instance : FitsRep Bool := ⟨fun _ => trivial⟩
instance {α β : Type} [Fits α] [Fits β] : Fits (α × β) := ⟨fun x => fits x.1 ∧ fits x.2⟩
instance {α β : Type} [Rep α] [Rep β] [Fits α] [Fits β] [FitsRep α] [FitsRep β] : FitsRep (α × β) := ⟨fun ⟨_, _, _, h1, h2⟩ => ⟨FitsRep.of h1, FitsRep.of h2⟩⟩
instance {α : Type} [Rep α] [Fits α] [FitsRep α] : FitsRep (List α) := ⟨fun {M x cs w} ⟨a, cap, _, h1, h2, h3⟩ => ⟨by omega, fun y hy => by
  obtain ⟨i, hi, rfl⟩ := List.mem_iff_getElem.1 hy
  cases a with
  | none => have : x = [] := h3; subst this; simp at hi
  | some ad => obtain ⟨_, _, _, cs, hc, _⟩ := h3 i hi; exact FitsRep.of hc⟩⟩
theorem rep_fits {α : Type} [Rep α] [Fits α] [FitsRep α] {x : α} {M : MSet} {v : Value} {w : World} (h : (rep x).p M v w) : fits x := by
  obtain ⟨cs, hc, _⟩ := h; exact FitsRep.of hc

@[simp] theorem fits_int {n : Int} : fits n ↔ (-9223372036854775808 ≤ n ∧ n ≤ 9223372036854775807) := Iff.rfl
@[simp] theorem fits_bool {n : Bool} : fits n ↔ True := Iff.rfl
end Go.DB

