/-
  Rows of one's own: slices that are made, appended to, written.
-/
import Derived.Test.YthopjimlhjgoiaaDoorCore7
import Derived.Laws.AppendOwn
import Derived.Laws.MakeOwn
import Derived.Laws.Slices
set_option linter.unusedSimpArgs false
set_option linter.unusedVariables false
namespace Go.DB
open Go Go.RowKit

/-- Where a row of one's own lies: behind it there may be room. -/
def OwnLies {α : Type} [Rep α] (M D : MSet) (T : TypeId) (l : List α) (a : Option Addr) (cap : Nat) (w : World) : Prop :=
  match a with
  | none => l = [] ∧ cap = 0 ∧ ∀ k, ¬ D k
  | some ad => ad.spot = none ∧ (∀ k, D k ↔ k = ad.block) ∧ M ad.block ∧
      ∃ pre cs rest : List Value, w.heap[ad.block]? = some (.cells (pre ++ cs ++ rest).toArray T (0, 0)) ∧ pre.length = ad.off ∧ Elems M w l cs ∧ (cap - l.length) * Rep.sz α ≤ rest.length

/-- A row of one's own. -/
def rowV (T : TypeId) {α : Type} [Rep α] (l : List α) : CPred where
  p := fun M D v w => ∃ a cap, v = .slice a l.length cap ∧ l.length ≤ cap ∧ cap ≤ 9223372036854775807 ∧ OwnLies M D T l a cap w
  inM := fun M D v w ⟨a, cap, _, _, _, h⟩ k hk => by
    cases a with
    | none => exact absurd hk (h.2.2 k)
    | some ad => exact (h.2.1 k).1 hk ▸ h.2.2.1
  law := fun M M' D v w w' hk hm hown ⟨a, cap, hv, h1, h2, h⟩ => ⟨a, cap, hv, h1, h2, by
    cases a with
    | none => exact h
    | some ad =>
      obtain ⟨hs, hD, hM, pre, cs, rest, hh, hp, he, hr⟩ := h
      obtain ⟨g1, g2⟩ := hown ad.block ((hD _).2 rfl)
      exact ⟨hs, hD, g1, pre, cs, rest, by rw [g2]; exact hh, hp, Elems.law hk hm l cs he, hr⟩⟩

/-- The place of a part of an element. -/
def elemPtr (s : Value) (o : Nat) : Value :=
  match s with
  | .slice (some ad) _ _ => ptr ad.block (ad.off + o)
  | _ => .pointer none

/-- What closed facts tell of a slice's elements. -/
def RowOK (P : Program) (T E : TypeId) (α : Type) [Rep α] : Prop :=
  SliceOf P T E ∧ Ty P E α ∧ (P.info? E).bind (fun i => i.zero.map (fun z => Nat.beq z.cells.size (Rep.sz α) && Nat.ble i.bytes 4096)) = some true

theorem RowOK.get {P : Program} {T E : TypeId} {α : Type} [Rep α] (h : RowOK P T E α) : ∃ i z, P.underlying T = some (.slice E) ∧ P.info? E = some i ∧ i.zero = some z ∧ i.size = Rep.sz α ∧ z.cells.size = Rep.sz α ∧ i.bytes ≤ 4096 := by
  obtain ⟨h1, h2, h3⟩ := h
  obtain ⟨i, hi, h4⟩ := Option.bind_eq_some_iff.1 h3
  obtain ⟨z, hz, h5⟩ := Option.map_eq_some_iff.1 h4
  obtain ⟨i', hi', hs⟩ := Option.map_eq_some_iff.1 h2.size
  obtain rfl : i = i' := by rw [hi] at hi'; simpa using hi'
  simp only [Bool.and_eq_true, Nat.beq_eq_true_eq, Nat.ble_eq] at h5
  exact ⟨i, z, h1, hi, hz, hs, by simpa using h5.1, h5.2⟩

theorem Elems.append {α : Type} [Rep α] {M : MSet} {w : World} : ∀ (xs ys : List α) (cs ds : List Value), Elems M w xs cs → Elems M w ys ds → Elems M w (xs ++ ys) (cs ++ ds)
  | [], _, _, _, h, k => by rw [show _ = [] from h]; exact k
  | x :: xs, ys, _, ds, ⟨c, r, h, h1, h2⟩, k => ⟨c, r ++ ds, by rw [h, List.append_assoc], h1, Elems.append xs ys r ds h2 k⟩

theorem Elems.plain {α : Type} [Rep α] {M : MSet} {w : World} : ∀ (xs : List α) (cs : List Value), Elems M w xs cs → ∀ c ∈ cs, isOne c = true
  | [], _, h, c, hc => by rw [show _ = [] from h] at hc; cases hc
  | x :: xs, _, ⟨c1, r, h, h1, h2⟩, c, hc => by
    rw [h] at hc
    rcases List.mem_append.1 hc with hc | hc
    · exact Rep.plain h1 c hc
    · exact Elems.plain xs r h2 c hc

theorem Elems.take {α : Type} [Rep α] {M : MSet} {w : World} : ∀ (xs : List α) (cs : List Value) (i : Nat), i ≤ xs.length → Elems M w xs cs → Elems M w (xs.take i) (cs.take (i * Rep.sz α)) ∧ Elems M w (xs.drop i) (cs.drop (i * Rep.sz α))
  | xs, cs, 0, _, h => by simp only [List.take_zero, Nat.zero_mul, List.drop_zero]; exact ⟨rfl, h⟩
  | x :: xs, _, i + 1, hi, ⟨c, r, h, h1, h2⟩ => by
    obtain ⟨h3, h4⟩ := Elems.take xs r i (by simpa using hi) h2
    have hl := Rep.len h1
    rw [h, show (i + 1) * Rep.sz α = c.length + i * Rep.sz α by rw [hl, Nat.add_mul, Nat.one_mul]; omega, List.take_length_add_append, List.drop_length_add_append]
    exact ⟨⟨c, _, rfl, h1, h3⟩, h4⟩

theorem Elems.set {α : Type} [Rep α] {M : MSet} {w : World} : ∀ (xs : List α) (cs : List Value) (i : Nat) (x : α) (c : List Value), i < xs.length → Elems M w xs cs → Rep.cells M x c w →
    Elems M w (xs.set i x) (cs.take (i * Rep.sz α) ++ c ++ cs.drop (i * Rep.sz α + Rep.sz α))
  | y :: xs, _, 0, x, c, _, ⟨c1, r, h, h1, h2⟩, hc => by
    rw [Nat.zero_mul, List.take_zero, List.nil_append, Nat.zero_add, h, ← Rep.len h1, List.drop_left]
    exact ⟨c, r, rfl, hc, h2⟩
  | y :: xs, _, i + 1, x, c, hi, ⟨c1, r, h, h1, h2⟩, hc => by
    have ih := Elems.set xs r i x c (by simpa using hi) h2 hc
    have hl := Rep.len h1
    refine ⟨c1, _, ?_, h1, ih⟩
    rw [h, show (i + 1) * Rep.sz α = c1.length + i * Rep.sz α by rw [hl, Nat.add_mul, Nat.one_mul]; omega, List.take_length_add_append, Nat.add_assoc, List.drop_length_add_append]
    simp

theorem Lies.elems {α : Type} [Rep α] {M : MSet} {w : World} : ∀ (l : List α) (ad : Addr), Lies M l (some ad) w → ∃ cs, Elems M w l cs ∧ ∀ j u, cs[j]? = some u → w.cell? (ad.add j) = some u
  | [], _, _ => ⟨[], rfl, fun j u h => by simp at h⟩
  | x :: l, ad, h => by
    obtain ⟨h1, h2, h3, c, hc, hr⟩ := h 0 (by simp)
    obtain ⟨b, off, sp⟩ := ad
    simp only at h1 h2 h3 hr
    subst h1
    obtain ⟨r, he, hj⟩ := Lies.elems l ⟨b, off + Rep.sz α, none⟩ (fun i hi => by
      obtain ⟨_, _, _, c', hc', hr'⟩ := h (i + 1) (by simpa using hi)
      refine ⟨rfl, h2, h3, c', by simpa using hc', fun j hj => ?_⟩
      have := hr' j hj
      simp only at this ⊢
      rw [← this, Nat.add_mul]
      congr 2; omega)
    refine ⟨c ++ r, ⟨c, r, rfl, by simpa using hc, he⟩, fun j u hu => ?_⟩
    rw [add_none]
    have hl := Rep.len hc
    by_cases hj' : j < Rep.sz α
    · rw [List.getElem?_append_left (by omega)] at hu
      have := hr j hj'
      simp only [Nat.zero_mul, Nat.add_zero] at this
      rw [this]; exact hu
    · rw [List.getElem?_append_right (by omega)] at hu
      have := hj (j - c.length) u hu
      rw [add_none] at this
      rw [← this, hl]
      congr 2; omega

/-- An operand that stands for memory of one's own: its own slot's, or a told value's. -/
def RowArg (L : Slots) (B : Owns) (x : Operand) (k : Nat) (C : CPred) : Prop :=
  (x = .tmp k ∧ lookB B k = some C) ∨ ∃ s, Opd L True x (isV s) ∧ lookB B k = some (CPred.at s C)

theorem eval_val {a : Act} {t : Nat} : a.eval (.tmp t) = Act.val a t := by
  unfold Act.val
  cases h : a.tmps[t]? with
  | none => simp [Act.eval, h]
  | some v => rw [Act.eval_tmp h]; rfl

theorem RowArg.get {L : Slots} {B : Owns} {x : Operand} {k : Nat} {C : CPred} (h : RowArg L B x k C) {ts ks : List Nat} {M : MSet} {D : Nat → MSet} {a : Act} {w : World}
    (hs : SatOn ts M L a w) (hx : ∀ t, x = .tmp t → t ∈ ts) (hB : SatB ks M D B a w) (hk : k ∈ ks) : C.p M (D k) (a.eval x) w ∧ ∃ C', lookB B k = some C' := by
  rcases h with ⟨rfl, hl⟩ | ⟨s, hx', hl⟩
  · rw [eval_val]; exact ⟨hB.has k hk _ hl, _, hl⟩
  · have := (rep_raw.1 (hx'.get hs hx trivial)).1
    rw [this]
    have := hB.has k hk _ hl
    exact ⟨this, _, hl⟩

theorem RowArg.tmp {L : Slots} {B : Owns} {k : Nat} {C : CPred} (h : lookB B k = some C) : RowArg L B (.tmp k) k C := .inl ⟨rfl, h⟩
theorem RowArg.told {L : Slots} {B : Owns} {x : Operand} {k : Nat} {s : Value} {C : CPred} (hx : Opd L True x (isV s)) (h : lookB B k = some (CPred.at s C)) : RowArg L B x k C := .inr ⟨s, hx, h⟩

section
variable {P : Program} {ops : Array Oper} {fs : Nat} {L : Slots} {B : Owns} {G : Prop}
variable {d : Option Tmp} {ty : TypeId} {pos : String} {after : Array Edge} {xr : List Nat}

theorem lookB2 {d k t : Nat} {C : Option CPred} {c : CPred} (h : lookB [(d, C), (k, none)] t = some c) : t = d ∧ C = some c := by
  simp only [lookB] at h
  by_cases h1 : d = t
  · subst h1
    have hb : Nat.beq d d = true := by simp
    rw [hb, cond_true] at h
    exact ⟨rfl, h⟩
  · rw [beq_ne h1, cond_false] at h
    by_cases h2 : k = t
    · subst h2; simp at h
    · rw [beq_ne h2] at h; cases h

theorem StepOK.doing {op : Op} {x : Aux} {E : Ent} {Ws : Writes} (h : ∀ (M : MSet) (D : Nat → MSet) (a : Act) (w : World), a.tmps.size = fs → Low M w →
    SatOn ((⟨d, op, ty, pos, after, none⟩ : Oper).looksAt ops ++ x.1) M L a w → SatB (x.1 ++ x.2) M D B a w → Does P ⟨d, op, ty, pos, after, none⟩ a w (Leaves ⟨d, op, ty, pos, after, none⟩ B D x.2 E Ws M a w)) :
    StepOK P ops fs ⟨d, op, ty, pos, after, none⟩ L B x E Ws := by
  intro M D a w h1 h2 h3 h4
  have hw : Region.wanted (⟨d, op, ty, pos, after, none⟩ : Oper) (yielded ops a.tmps) = true := rfl
  rw [if_pos hw]
  exact h M D a w h1 h2 h3 h4

/-- Memory goes from one key to another. -/
theorem Leaves.pass {o : Oper} {D : Nat → MSet} {E : Ent} {M : MSet} {a : Act} {w : World} {v : Value} {w' : World} {d k : Nat} {C C0 : CPred} (M' Dd : MSet) (hl : lookB B k = some C0)
    (hk : Keeps (D k) w w') (h1 : ∀ j, M j → M' j) (h2 : ∀ j, M' j → M j ∨ w.heap.size ≤ j) (h3 : ∀ j, M' j → j < w'.heap.size) (h4 : E.holds M' v w') (h5 : C.p M' Dd (Act.val (a.put o.dst v) d) w')
    (h6 : ∀ j, Dd j → D k j ∨ w.heap.size ≤ j) : Leaves o B D [d, k] E [(d, some C), (k, none)] M a w v w' := by
  have hm : ∀ j, D k j → Mine [d, k] B D j := fun j hj => ⟨k, by simp, C0, hl, hj⟩
  refine ⟨M', fun _ => Dd, hk.mono (fun j _ h => hm j h), fun j h => .inl (h1 j h), h2, h3, h4, fun t c hc => ?_, fun t1 t2 c1 c2 hc1 hc2 hne => ?_⟩
  · obtain ⟨rfl, hc'⟩ := lookB2 (C := some C) hc
    obtain rfl : C = c := Option.some.inj hc'
    exact ⟨h5, fun j hj => (h6 j hj).imp (hm j) id⟩
  · exact absurd ((lookB2 hc1).1.trans (lookB2 hc2).1.symm) hne

/-- A slice that is not made yet. -/
theorem StepOK.nilRow {d T : Nat} {α : Type} [Rep α] (hd : Nat.blt d fs = true) : StepOK P ops fs ⟨some d, .assign (.const (.slice none 0 0)), ty, pos, after, none⟩ L B ([], [d]) ⟨True, anyV⟩ [(d, some (rowV T ([] : List α)))] := by
  refine .doing fun M D a w hsz hm _ _ => ?_
  refine Does.value (v := .slice none 0 0) (w' := w) rfl (.one M NoM (Keeps.refl _ _) (fun _ h => h) (fun _ h => .inl h) hm ⟨fun _ => trivial, fun hf => (hf trivial).elim⟩ ?_ (fun k h => h.elim))
  rw [val_self (by rw [hsz]; exact Nat.le_of_ble_eq_true hd)]
  exact ⟨none, 0, rfl, Nat.le_refl _, by omega, rfl, rfl, fun k h => h⟩

/-- A row is handed on. -/
theorem StepOK.passRow {d k : Nat} {x : Operand} {C : CPred} (hd : Nat.blt d fs = true) (hx : RowArg L B x k C) : StepOK P ops fs ⟨some d, .assign x, ty, pos, after, none⟩ L B ([k], [d, k]) ⟨True, anyV⟩ [(d, some C), (k, none)] := by
  refine .doing fun M D a w hsz hm hs hsB => ?_
  obtain ⟨hC, C0, hl⟩ := hx.get hs (fun t ht => looksAt_op (by simp [Op.operands, ht])) hsB (by simp)
  refine Does.value (v := a.eval x) (w' := w) rfl (.pass M (D k) hl (Keeps.refl _ _) (fun _ h => h) (fun _ h => .inl h) hm ⟨fun _ => trivial, fun hf => (hf trivial).elim⟩ ?_ (fun j h => .inl h))
  rw [val_self (by rw [hsz]; exact Nat.le_of_ble_eq_true hd)]
  exact hC

theorem StepOK.lenO {x : Operand} {T E T' k : Nat} {α : Type} [Rep α] {l : List α} (hT : SliceOf P T E) (hx : RowArg L B x k (rowV T' l)) :
    StepOK P ops fs ⟨d, .call { callee := .builtin .len, args := #[x], argTypes := #[T] }, ty, pos, after, none⟩ L B ([k], []) ⟨True, rep (l.length : Int)⟩ [] :=
  .of .none fun M D a w hm hs hsB hG => by
    obtain ⟨⟨ad, cap, hv, h1, h2, _⟩, _⟩ := hx.get hs (fun t ht => looksAt_op (call_ops (by simp [ht]))) hsB (by simp)
    exact Does.value (ex_len hT hv) ⟨Keeps.refl _ _, rep_int.2 ⟨rfl, by unfold InI; omega⟩⟩

theorem run_append_in {T t : Nat} {i : TypeInfo} {w : World} {m off sLen sCap n : Nat} {xa : Option Addr} {xc : Nat} {news pre mid rest : List Value} {E : TypeId} (ht : P.underlying t = some (.slice E)) (hi : P.info? E = some i)
    (hnews : (Builtin.firstCells i.size n (.slice xa n xc)).run P w = .ok news.toArray w) (hl : news.length = n * i.size) (h1 : ∀ c ∈ news, isOne c = true)
    (hroom : sLen + n ≤ sCap) (hpre : pre.length = off + sLen * i.size) (hmid : mid.length = news.length) (hh : w.heap[m]? = some (.cells (pre ++ mid ++ rest).toArray T (0, 0))) :
    ∃ w', (Builtin.append_ #[t, t] ty #[.slice (some ⟨m, off, none⟩) sLen sCap, .slice xa n xc]).run P w = .ok (.slice (some ⟨m, off, none⟩) (sLen + n) sCap) w' ∧ w'.heap[m]? = some (.cells (pre ++ news ++ rest).toArray T (0, 0)) ∧
      w'.os = w.os ∧ w'.tape = w.tape ∧ w'.output = w.output ∧ w'.heap.size = w.heap.size ∧ ∀ k, k ≠ m → w'.heap[k]? = w.heap[k]? := by
  obtain ⟨w', g1, g2⟩ := run_storeCells (P := P) (m := m) (off := off + sLen * i.size) (T := T) news pre mid rest w 0 hmid h1 (by omega) hh
  refine ⟨w', ?_, g2⟩
  simp [Builtin.append_, run_underlying ht, sizeOf, typeInfo, hi, Builtin.lenOf, hroom, hnews, add_none, g1]

theorem run_append_none {t : Nat} {i : TypeInfo} {w : World} {xa : Option Addr} {xc : Nat} {E : TypeId} {a : Option Addr} {sLen sCap : Nat} (ht : P.underlying t = some (.slice E)) (hi : P.info? E = some i)
    (hroom : sLen ≤ sCap) : (Builtin.append_ #[t, t] ty #[.slice a sLen sCap, .slice xa 0 xc]).run P w = .ok (.slice a sLen sCap) w := by
  have hnews : (Builtin.firstCells i.size 0 (.slice xa 0 xc)).run P w = .ok #[] w := by
    cases xa <;> simp [Builtin.firstCells, loadCells, loadCellsFrom]
  cases a <;> simp [Builtin.append_, run_underlying ht, sizeOf, typeInfo, hi, Builtin.lenOf, hroom, hnews, storeCells]

/-- What appends come to. -/
theorem run_append {t E : TypeId} {α : Type} [Rep α] (hT : RowOK P t E α) {M D : MSet} {l xs : List α} {s x : Value} {w : World} (hm : ∀ k, M k → k < w.heap.size) (hs : (rowV E l).p M D s w) (hx : (rep xs).p M x w)
    (hb : l.length + xs.length ≤ 1073741824) :
    ∃ v w' M' D', (Builtin.append_ #[t, t] ty #[s, x]).run P w = .ok v w' ∧ (rowV E (l ++ xs)).p M' D' v w' ∧ Keeps D w w' ∧ (∀ j, M j → M' j) ∧ (∀ j, M' j → M j ∨ w.heap.size ≤ j) ∧ (∀ j, M' j → j < w'.heap.size) ∧
      (∀ j, D' j → D j ∨ w.heap.size ≤ j) := by
  obtain ⟨i, z, ht, hi, hz, hsz, hzs, hby⟩ := hT.get
  obtain ⟨a, cap, rfl, hlc, hcm, ho⟩ := hs
  obtain ⟨xa, xcap, rfl, hxc, _, hlx⟩ := rep_list.1 hx
  have hspos : 0 < Rep.sz α := Rep.pos
  -- the new elements' cells
  have hnews : ∃ ns, Elems M w xs ns ∧ (Builtin.firstCells i.size xs.length (.slice xa xs.length xcap)).run P w = .ok ns.toArray w ∧ ns.length = xs.length * i.size ∧
      (∀ ad, xa = some ad → ∀ j u, ns[j]? = some u → w.cell? (ad.add j) = some u) ∧ (xa = none → xs = []) := by
    cases xa with
    | none =>
      have : xs = [] := hlx
      subst this
      exact ⟨[], rfl, rfl, by simp, (fun ad h => by cases h), fun _ => rfl⟩
    | some ad =>
      obtain ⟨cs, he, hj⟩ := Lies.elems xs ad hlx
      have hcl : cs.length = xs.length * i.size := by rw [he.len, hsz]
      exact ⟨cs, he, run_firstCells_some w i.size xs.length ad xs.length xcap cs hcl hj, hcl, (fun ad' h => by cases h; exact hj), (fun h => by cases h)⟩
  obtain ⟨ns, hne, hfc, hnl, hnj, hnn⟩ := hnews
  by_cases h0 : xs = []
  · subst h0
    have hns : ns = [] := hne
    subst hns
    refine ⟨_, w, M, D, run_append_none ht hi hlc, ?_, Keeps.refl _ _, fun _ h => h, fun _ h => .inl h, hm, fun _ h => .inl h⟩
    rw [List.append_nil]
    exact ⟨a, cap, rfl, hlc, hcm, ho⟩
  have hxpos : 0 < xs.length := List.length_pos_iff.2 h0
  obtain ⟨xad, rfl⟩ : ∃ ad, xa = some ad := by
    cases xa with
    | none => exact absurd (hnn rfl) h0
    | some ad => exact ⟨ad, rfl⟩
  have hnj := hnj xad rfl
  -- a row that grows
  have grown : ∀ (cs : List Value) (old : Nat), Elems M w l cs → old < l.length + xs.length → ∀ w', w' = w.drew.alloc (.cells (cs.toArray ++ ns.toArray ++ Builtin.zeroCells z.cells (grownCap w (l.length + xs.length) old E - (l.length + xs.length))) E) →
      (rowV E (l ++ xs)).p (fun j => M j ∨ j = w.heap.size) (fun j => j = w.heap.size) (.slice (some ⟨w.heap.size, 0, none⟩) (l.length + xs.length) (grownCap w (l.length + xs.length) old E)) w' ∧ Keeps D w w' ∧
      (∀ j, (M j ∨ j = w.heap.size) → j < w'.heap.size) := by
    intro cs old he ho w' hw'
    have hext : Ext w w' := by
      subst hw'
      exact Keeps.trans (Ext.drew w) (Ext.alloc w.drew _)
    have hsize : w'.heap.size = w.heap.size + 1 := by subst hw'; rw [size_new]; rfl
    have hge := grownCap_ge w (l.length + xs.length) old E
    have hle := grownCap_le_maxLen w (l.length + xs.length) old E (by simp only [maxLen]; omega)
    have hkm : ∀ j, (M j ∨ j = w.heap.size) → M j ∨ w.heap.size ≤ j := fun j h => h.imp id (by omega)
    refine ⟨⟨some ⟨w.heap.size, 0, none⟩, _, by rw [List.length_append], by rw [List.length_append]; exact hge, by simp only [maxLen] at hle; exact hle, rfl, fun j => Iff.rfl, .inr rfl, [], cs ++ ns,
      (Builtin.zeroCells z.cells (grownCap w (l.length + xs.length) old E - (l.length + xs.length))).toList, ?_, rfl, ?_, ?_⟩, hext.keeps, fun j h => ?_⟩
    · subst hw'
      show (w.drew.heap.push _)[w.heap.size]? = _
      rw [show w.heap.size = w.drew.heap.size from rfl, Array.getElem?_push_size]
      simp
    · exact Elems.append _ _ _ _ (Elems.law hext.keeps hkm l cs he) (Elems.law hext.keeps hkm xs ns hne)
    · refine Nat.le_of_eq (Eq.symm ?_); rw [Array.length_toList, size_zeroCells, hzs, List.length_append]
    · rw [hsize]
      rcases h with h | h
      · have := hm j h; omega
      · omega
  have hbytes : (l.length + xs.length) * i.bytes ≤ 140737488355328 := by
    have := Nat.mul_le_mul hb hby
    omega
  cases a with
  | none =>
    obtain ⟨rfl, rfl, hD⟩ := ho
    have hr := run_append_nil (P := P) w t ty E i z ht hi hz xad xs.length xcap ns hnl hnj hxpos (by simp at hb; omega) (by simp at hbytes; omega)
    obtain ⟨g1, g2, g3⟩ := grown [] 0 rfl (by simp; omega) _ rfl
    simp only [List.length_nil, Nat.zero_add, List.nil_append] at g1 g2 g3
    have e : ∀ c, (#[] ++ ns.toArray ++ c : Array Value) = ns.toArray ++ c := by intro c; simp
    rw [e] at g1 g2 g3
    exact ⟨_, _, _, _, hr, g1, g2, fun j h => .inl h, fun j h => h.imp id (by omega), g3, fun j h => .inr (by omega)⟩
  | some ad =>
    obtain ⟨hsp, hD, hM, pre, cs, rest, hh, hp, he, hrest⟩ := ho
    obtain ⟨b, off, sp⟩ := ad
    simp only at hsp hD hM hh hp
    subst hsp
    have hcl := he.len
    by_cases hroom : l.length + xs.length ≤ cap
    · have hnl' : ns.length ≤ rest.length := by
        rw [hnl, hsz]
        exact Nat.le_trans (Nat.mul_le_mul_right _ (by omega)) hrest
      obtain ⟨w', h1, h2, h3, h4, h5, h6, h7⟩ := run_append_in (P := P) (ty := ty) (T := E) (m := b) (off := off) (sLen := l.length) (sCap := cap) (n := xs.length) (pre := pre ++ cs) (mid := rest.take ns.length) (rest := rest.drop ns.length) ht hi hfc hnl
        (Elems.plain xs ns hne) hroom (by rw [List.length_append, hp, hcl, hsz]) (by rw [List.length_take]; omega) (by rw [hh]; simp)
      have hkD : Keeps D w w' := ⟨h3, h4, h5, by omega, fun k _ hn => h7 k (fun e => hn ((hD k).2 e))⟩
      have hkM : Keeps M w w' := ⟨h3, h4, h5, by omega, fun k _ hn => h7 k (fun e => hn (e ▸ hM))⟩
      refine ⟨_, w', M, D, h1, ⟨some ⟨b, off, none⟩, cap, by rw [List.length_append], by rw [List.length_append]; exact hroom, hcm, rfl, hD, hM, pre, cs ++ ns, rest.drop ns.length, by rw [h2]; simp, hp, ?_, ?_⟩, hkD, fun _ h => h, fun _ h => .inl h,
        fun j h => by rw [h6]; exact hm j h, fun _ h => .inl h⟩
      · exact Elems.append _ _ _ _ (Elems.law hkM (fun _ h => .inl h) l cs he) (Elems.law hkM (fun _ h => .inl h) xs ns hne)
      · rw [List.length_drop, hnl, hsz, List.length_append]
        have e : (cap - (l.length + xs.length)) * Rep.sz α = (cap - l.length) * Rep.sz α - xs.length * Rep.sz α := by rw [← Nat.sub_mul]; congr 1; omega
        rw [e]; omega
    · have holds : ∀ j u, cs[j]? = some u → w.cell? ((⟨b, off, none⟩ : Addr).add j) = some u := by
        intro j u hu
        rw [add_none, cell_of_heap hh, List.getElem?_toArray, List.append_assoc, List.getElem?_append_right (by omega), List.getElem?_append_left (by have := (List.getElem?_eq_some_iff.1 hu).1; omega), hp]
        rw [← hu]; congr 1; omega
      have hr := run_append_grow (P := P) w t ty E i z ht hi hz ⟨b, off, none⟩ l.length cap cs (by rw [hcl, hsz]) holds xad xs.length xcap ns hnl hnj (by omega) (by omega) (growslice_fits (by omega) hbytes)
      obtain ⟨g1, g2, g3⟩ := grown cs cap he (by omega) _ rfl
      exact ⟨_, _, _, _, hr, g1, g2, fun j h => .inl h, fun j h => h.imp id (by omega), g3, fun j h => .inr (by omega)⟩

theorem ex_append {ρ : Operand → Value} {s x : Operand} {t : Nat} {v : Value} {g : Option (Nat × Bool)} {w w' : World} (h : (Builtin.append_ #[t, t] ty #[ρ s, ρ x]).run P w = .ok v w') :
    (execOp ρ ⟨d, .call { callee := .builtin .append, args := #[s, x], argTypes := #[t, t] }, ty, pos, after, g⟩).run P w = .ok (.value v) w' := by
  unfold execOp
  simp only [resolve, invoke, builtin, Sem.run_bind, Sem.run_pure, Result.andThen_ok, List.map_toArray, List.map_cons, List.map_nil, h]

/-- append: the row goes from its key to the result's slot. -/
theorem StepOK.append {d k : Nat} {s x : Operand} {t E : TypeId} {α : Type} [Rep α] {l xs : List α} (hT : RowOK P t E α) (hd : Nat.blt d fs = true) (hs : RowArg L B s k (rowV E l)) (hx : Opd L True x (rep xs)) (hb : l.length + xs.length ≤ 1073741824) :
    StepOK P ops fs ⟨some d, .call { callee := .builtin .append, args := #[s, x], argTypes := #[t, t] }, ty, pos, after, none⟩ L B ([k], [d, k]) ⟨True, anyV⟩ [(d, some (rowV E (l ++ xs))), (k, none)] := by
  refine .doing fun M D a w hsz hm hsat hsB => ?_
  obtain ⟨hC, C0, hl⟩ := hs.get hsat (fun t ht => looksAt_op (call_ops (by simp [ht]))) hsB (by simp)
  have hX := hx.get hsat (fun t ht => looksAt_op (call_ops (by simp [ht]))) trivial
  obtain ⟨v, w', M', D', hr, h1, h2, h3, h4, h5, h6⟩ := run_append (P := P) (ty := ty) hT hm hC hX hb
  refine Does.value (ex_append hr) (.pass M' D' hl h2 h3 h4 h5 ⟨fun _ => trivial, fun hf => (hf trivial).elim⟩ ?_ h6)
  rw [val_self (by rw [hsz]; exact Nat.le_of_ble_eq_true hd)]
  exact h1

/-! make. -/

theorem zeros_elems {α : Type} [Rep α] {z : α} {zs : List Value} {M : MSet} {w : World} (hz : Rep.cells M z zs w) : ∀ n, Elems M w (List.replicate n z) ((List.range (n * Rep.sz α)).map fun j => zs.toArray[j % zs.length]!)
  | 0 => by
    rw [Nat.zero_mul]
    exact rfl
  | n + 1 => by
    have ih := zeros_elems hz n
    have hl := Rep.len hz
    have hp : 0 < Rep.sz α := Rep.pos
    rw [List.replicate_succ]
    refine ⟨zs, _, ?_, hz, ih⟩
    rw [Nat.add_mul, Nat.one_mul, Nat.add_comm, List.range_add, List.map_append]
    congr 1
    · refine List.ext_getElem? fun j => ?_
      by_cases hj : j < Rep.sz α
      · rw [List.getElem?_map, List.getElem?_range hj, Option.map_some, hl, Nat.mod_eq_of_lt hj]
        have hjl : j < zs.length := by omega
        simp [List.getElem?_eq_getElem hjl, getElem!_pos, hjl]
      · rw [List.getElem?_eq_none (l := zs) (by omega), List.getElem?_eq_none (by rw [List.length_map, List.length_range]; omega)]
    · rw [List.map_map]
      refine List.map_congr_left fun j _ => ?_
      simp only [Function.comp]
      rw [hl, Nat.add_mod_left]

theorem StepOK.makeSlice {d : Nat} {x y : Operand} {t E : TypeId} {α : Type} [Rep α] {z : α} {n c : Int} (hT : RowOK P t E α) (hz : ZeroOf P E z) (hd : Nat.blt d fs = true) (hx : Opd L True x (rep n)) (hy : Opd L True y (rep c)) (hb : 0 ≤ n ∧ n ≤ c ∧ c ≤ 1073741824) :
    StepOK P ops fs ⟨some d, .makeSlice t x y, ty, pos, after, none⟩ L B ([], [d]) ⟨True, anyV⟩ [(d, some (rowV E (List.replicate n.toNat z)))] := by
  refine .doing fun M D a w hsz hm hsat _ => ?_
  obtain ⟨i, zv, ht, hi, hzv, hsize, hzs, hby⟩ := hT.get
  obtain ⟨zs, hz1, hz2⟩ := hz
  obtain ⟨i', hi', hz1⟩ := Option.bind_eq_some_iff.1 hz1
  obtain rfl : i = i' := by rw [hi] at hi'; simpa using hi'
  rw [hzv] at hz1
  obtain rfl : zv = mkv (Rep.agg α) zs := by simpa using hz1
  have hzc : (mkv (Rep.agg α) zs).cells = zs.toArray := Rep.flat (hz2 M w)
  obtain ⟨hxv, _⟩ := rep_int.1 (hx.get hsat (fun t ht => looksAt_op (by simp [Op.operands, ht])) trivial)
  obtain ⟨hyv, _⟩ := rep_int.1 (hy.get hsat (fun t ht => looksAt_op (by simp [Op.operands, ht])) trivial)
  have hbb : (i.bytes : Int) * c ≤ 281474976710656 := by
    have h1 : (i.bytes : Int) * c ≤ 4096 * 1073741824 := Int.mul_le_mul (by omega) hb.2.2 (by omega) (by omega)
    omega
  have hr := run_make (P := P) w t E i _ ht hi hzv .i64 .i64 n c hb.1 hb.2.1 hbb (by omega)
  have hrun : (execOp a.eval ⟨some d, .makeSlice t x y, ty, pos, after, none⟩).run P w = .ok (.value (.slice (some ⟨w.heap.size, 0, none⟩) n.toNat c.toNat)) (w.alloc (.cells (madeCells (mkv (Rep.agg α) zs).cells (c.toNat * i.size)) E)) := by
    simp only [execOp, hxv, hyv]
    rw [Sem.run_bind, hr]
    rfl
  refine Does.value hrun (.one (fun k => M k ∨ k = w.heap.size) (fun k => k = w.heap.size) (Ext.alloc _ _) (fun k h => .inl h) (fun k h => h.imp id (by omega)) (fun k h => ?_) ⟨fun _ => trivial, fun hf => (hf trivial).elim⟩ ?_ (fun k h => by omega))
  · rw [size_new]
    rcases h with h | h
    · have := hm k h; omega
    · omega
  · rw [val_self (by rw [hsz]; exact Nat.le_of_ble_eq_true hd)]
    have hkm : ∀ k, (M k ∨ k = w.heap.size) → M k ∨ w.heap.size ≤ k := fun k h => h.imp id (by omega)
    have hl := Rep.len (hz2 M w)
    have helems := zeros_elems (M := fun k => M k ∨ k = w.heap.size) (w := w.alloc (.cells (madeCells (mkv (Rep.agg α) zs).cells (c.toNat * i.size)) E)) (hz2 _ _) n.toNat
    refine ⟨some ⟨w.heap.size, 0, none⟩, c.toNat, by rw [List.length_replicate], by rw [List.length_replicate]; omega, by omega, rfl, fun k => Iff.rfl, .inr rfl, [], _, ((List.range' (n.toNat * Rep.sz α) ((c.toNat - n.toNat) * Rep.sz α)).map fun j => zs.toArray[j % zs.length]!), ?_, rfl, helems, ?_⟩
    · show (w.heap.push _)[w.heap.size]? = _
      rw [Array.getElem?_push_size, hzc, madeCells, hsize, List.nil_append, ← List.map_append]
      have hr : List.range (n.toNat * Rep.sz α) ++ List.range' (n.toNat * Rep.sz α) ((c.toNat - n.toNat) * Rep.sz α) = List.range (c.toNat * Rep.sz α) := by
        rw [List.range_eq_range', List.range_eq_range']
        have h2 : c.toNat * Rep.sz α = n.toNat * Rep.sz α + (c.toNat - n.toNat) * Rep.sz α := by rw [← Nat.add_mul]; congr 1; omega
        rw [h2]
        have := List.range'_append (s := 0) (m := n.toNat * Rep.sz α) (n := (c.toNat - n.toNat) * Rep.sz α) (step := 1)
        simp only [Nat.one_mul, Nat.zero_add] at this
        exact this
      rw [hr, ← List.map_toArray, List.toArray_range]
      simp
    · rw [List.length_map, List.length_range', List.length_replicate]; exact Nat.le_refl _

end
end Go.DB
