/-
  Rows that are appended to and read again; results that are written no more; structs of rows that are lent.
-/
import Derived.Test.YtclcheggnlhamaaGreatDoorCore44
set_option linter.unusedSimpArgs false
set_option linter.unusedVariables false
namespace Go.DB
open Go Go.RowKit

/-- A result of one's own that nobody writes. -/
theorem FSpecO.frzG {P : Program} {f : Nat} {Ss : List SPred} {α : Type} [Rep α] {x : α} {C : CPred} (h : FSpecO P f Ss [] anyV [some C])
    (hF : ∀ M D v w, C.p M D v w → (∀ k, M k → k < w.heap.size) → (rep x).p (fun k => M k ∧ ¬ D k) v w) : FSpec P f Ss (rep x) :=
  ⟨h.ok, fun M w vs hM ha => Calls.mono (h.calls M (fun _ => NoM) w vs hM ha ⟨fun i s c h => by simp at h, fun i j x y h => by simp at h⟩) fun e w' ⟨v, M', D', he, hk, hml, hmh, hms, hS, hO, _⟩ => by
    have no : ∀ k, ¬ DU (fun _ => NoM) ([] : Given).length k := fun k ⟨i, hi, _⟩ => by simp at hi
    obtain ⟨h1, h2⟩ := hO 0 _ rfl
    have h3 := hF M' (D' 0) _ w' h1 hms
    refine ⟨⟨hk.os, hk.tape, hk.output, hk.size, fun k hlt _ => hk.block k hlt (no k)⟩, v, he, (rep x).law _ M v w' w' (Keeps.refl _ _) (fun k hk2 => .inl ⟨(hml k hk2).resolve_right (no k), fun hd => ?_⟩) h3⟩
    rcases h2 k hd with h4 | h4
    · exact no k h4
    · have := hM k hk2; simp only at h4; omega⟩
theorem FSpecO.frzM {P : Program} {f : Nat} {Ss : List SPred} {K V : Type} [Rep K] [Rep V] {m : GMap K V} (h : FSpecO P f Ss [] anyV [some (mapV m)]) : FSpec P f Ss (rep m) := h.frzG (fun M D v w h hms => frzMap M D v w h hms)
theorem deep_val2 {α β1 β2 γ : Type} [Rep α] [Rep β1] [Rep β2] [Rep γ] {x1 : β1} {x2 : β2} {R1 R2 : CPred} {mk : Value → Value → α} {y : γ} (f1 : FrzC R1 x1) (f2 : FrzC R2 x2) (hagg : Rep.agg γ = Rep.agg α)
    (hy : ∀ M s1 s2 cs w, Rep.cells M (mk s1 s2) cs w → (rep x1).p M s1 w → (rep x2).p M s2 w → Rep.cells M y cs w) (M D : MSet) (v : Value) (w : World)
    (h : (deep (fun s1 => deep (fun s2 => valV (mk s1 s2)) R2) R1).p M D v w) (hms : ∀ k, M k → k < w.heap.size) : (rep y).p (fun k => M k ∧ ¬ D k) v w := by
  obtain ⟨s1, D1, D2, ⟨s2, D3, D4, ⟨hno, cs, hc, hv⟩, hR2, e1, a1⟩, hR1, e2, a2⟩ := h
  have hsub : ∀ k, (M k ∧ ¬ D k) → M k ∨ w.heap.size ≤ k := fun k h => .inl h.1
  refine ⟨cs, hy _ s1 s2 cs w (Rep.law (Keeps.refl M w) hsub hc) ?_ ?_, by rw [hv, hagg]⟩
  · exact (rep x1).law _ _ s1 w w (Keeps.refl _ _) (fun k h => .inl ⟨h.1, fun h2 => h.2 ((e2 k).2 (.inr h2))⟩) (f1 M D2 s1 w hR1 hms)
  · exact (rep x2).law _ _ s2 w w (Keeps.refl _ _) (fun k h => .inl ⟨h.1, fun h2 => h.2 ((e2 k).2 (.inl ((e1 k).2 (.inr h2))))⟩) (f2 M D4 s2 w hR2 hms)
theorem frzVal {α : Type} [Rep α] {y : α} : FrzC (valV y) y := fun M D s w h hms => (rep y).law _ _ s w w (Keeps.refl _ _) (fun k hk => .inl hk.1) h.2
/-- A struct of two rows of one's own is lent. -/
theorem lentS2 {L : Slots} {B : Owns} {G : Prop} {k1 k2 : Nat} {s1 s2 : Value} {R1 R2 : CPred} {α β1 β2 γ : Type} [Rep α] [Rep β1] [Rep β2] [Rep γ] {z : α} {x1 : β1} {x2 : β2} {y : γ} {x : Operand} (hx : Opd L G x (rep z)) (h1 : lookB B k1 = some (CPred.at s1 R1)) (h2 : lookB B k2 = some (CPred.at s2 R2))
    (f1 : FrzC R1 x1) (f2 : FrzC R2 x2) (hagg : Rep.agg γ = Rep.agg α) (hy : ∀ M cs w, Rep.cells M z cs w → (rep x1).p M s1 w → (rep x2).p M s2 w → Rep.cells M y cs w) : LentTo L B G x (rep y) [k1, k2] := fun {ts kz M D a w} hs hxt hB hk hG hm M' hM hD => by
  obtain ⟨cs, hc, hv⟩ := hx.get hs hxt hG
  have g1 := hB.has k1 (hk k1 (by simp)) _ h1
  have g2 := hB.has k2 (hk k2 (by simp)) _ h2
  refine ⟨cs, hy M' cs w (Rep.law (Keeps.refl M w) (fun k h => .inl (hM k h)) hc) ?_ ?_, by rw [hv, hagg]⟩
  · exact rep_less (f1 M (D k1) s1 w g1 hm) (fun j h => ⟨hM j h, fun hd => hD k1 (by simp) j hd h⟩)
  · exact rep_less (f2 M (D k2) s2 w g2 hm) (fun j h => ⟨hM j h, fun hd => hD k2 (by simp) j hd h⟩)
section
variable {P : Program} {ops : Array Oper} {fs : Nat} {L : Slots} {B : Owns} {d : Option Tmp} {ty : TypeId} {pos : String} {after : Array Edge} {g : Option (Nat × Bool)} {G : Prop}
theorem rowV_flat {α : Type} [Rep α] {E : Nat} {l : List α} {M M2 D : MSet} {v : Value} {w : World} (hfl : Flat α) (h : (rowV E l).p M D v w) (hM : ∀ j, M j → M2 j) : (rowV E l).p M2 D v w := by
  obtain ⟨ad, cap, e1, e2, e3, e4⟩ := h
  refine ⟨ad, cap, e1, e2, e3, ?_⟩
  cases ad with
  | none => exact e4
  | some ad =>
    obtain ⟨f1, f2, f3, pre, cs, rest, f4, f5, f6, f7⟩ := e4
    refine ⟨f1, f2, hM _ f3, pre, cs, rest, f4, f5, ?_, f7⟩
    have key : ∀ (ys : List α) (cs : List Value), Elems M w ys cs → Elems M2 w ys cs := by
      intro ys
      induction ys with
      | nil => intro cs h; exact h
      | cons y ys ih => rintro cs ⟨c, r, h, hc, hr⟩; exact ⟨c, r, h, hfl.cells hc, ih r hr⟩
    exact key _ _ f6
/-- A call to which memory is lent, and that makes a row. -/
theorem StepOK.callLZ {f T : Nat} {xs : Array Operand} {ts : Array TypeId} {Ss : List SPred} {α : Type} [Rep α] {l : List α} {ks : List Nat} (hg : Guard ops g L G) (hf : FnOK P f) (hspec : G → FSpecO P f Ss [] anyV [some (rowV T l)]) (hfl : Flat α) (hx : OpdB4 L B G xs.toList Ss ks) :
    StepOK P ops fs ⟨d, .call { callee := .value (.func f), args := xs, argTypes := ts }, ty, pos, after, g⟩ L B (ks, []) ⟨G, rep l⟩ [] :=
  .of hg fun M D a w hm hs hsB hG => by
    let M' : MSet := fun j => M j ∧ ∀ k ∈ ks, ¬ D k j
    have ha := hx.get hs (fun x hxm t ht => looksAt_op (call_ops (by subst ht; simpa using hxm))) hsB (fun k h => h) hG hm M' (fun k h => h.1) (fun k hk j hd h => h.2 k hk hd)
    have hgive : Gives P f (xs.toList.map a.eval) M w (rep l) := by
      refine Calls.mono ((hspec hG).calls M' (fun _ => NoM) w _ (hm.less fun k h => h.1) ha ⟨fun i s c h => by simp at h, fun i j x y h => by simp at h⟩) fun e w' ⟨v, M2, D', he, hk, hml, hmh, hms, hS, hO, _⟩ => ?_
      have no : ∀ k, ¬ DU (fun _ => NoM) ([] : Given).length k := fun k ⟨i, hi, _⟩ => by simp at hi
      obtain ⟨h1, h2⟩ := hO 0 _ rfl
      refine ⟨⟨hk.os, hk.tape, hk.output, hk.size, fun k hlt _ => hk.block k hlt (no k)⟩, v, he, ?_⟩
      have h3 := rowV_flat (M2 := fun j => M2 j ∨ M j) hfl h1 (fun j h => .inl h)
      refine (rep l).law _ M v w' w' (Keeps.refl _ _) (fun k hk2 => .inl ⟨.inr hk2, fun hd => ?_⟩) (rowV_rep _ _ w' v h3 (fun k hk2 => ?_))
      · rcases hk2 with h | h
        · exact hms k h
        · exact Nat.lt_of_lt_of_le (hm.lt k h) hk.size
      · rcases h2 k hd with h4 | h4
        · exact no k h4
        · have := hm.lt k hk2; simp only at h4; omega
    refine Does.enter (vs := xs.toList.map a.eval) ?_ hgive
    rw [show (xs.toList.map a.eval).toArray = xs.map a.eval ++ #[] by rw [Array.append_empty, ← List.map_toArray]]
    exact ex_callV hf rfl
end
section
variable {P : Program} {ops : Array Oper} {fs : Nat} {L : Slots} {B : Owns} {d : Option Tmp} {ty : TypeId} {pos : String} {after : Array Edge} {g : Option (Nat × Bool)} {xr : List Nat}
/-- What appends come to. -/
theorem run_append2 {t E : TypeId} {α : Type} [Rep α] (hT : RowOK P t E α) {M D : MSet} {l xs : List α} {s x : Value} {w : World} (hm : ∀ k, M k → k < w.heap.size) (hs : (rowV E l).p M D s w) (hx : (rep xs).p M x w)
    (hb : l.length + xs.length ≤ 1073741824) :
    ∃ v w' M' D', (Builtin.append_ #[t, t] ty #[s, x]).run P w = .ok v w' ∧ (rowV E (l ++ xs)).p M' D' v w' ∧ Keeps D w w' ∧ (∀ j, M j → M' j) ∧ (∀ j, M' j → M j ∨ w.heap.size ≤ j) ∧ (∀ j, M' j → j < w'.heap.size) ∧
      (∀ j, D' j → D j ∨ w.heap.size ≤ j) ∧ (rowV E l).p M' D s w' := by
  have hs0 := hs
  obtain ⟨i, z, ht, hi, hz, hsz, hzs, hby⟩ := hT.get
  obtain ⟨a, cap, rfl, hlc, hcm, ho⟩ := hs
  obtain ⟨xa, xcap, rfl, hxc, _, hlx⟩ := rep_list.1 hx
  have hspos : 0 < Rep.sz α := Rep.pos
  -- the new elements' cells
  have hnews : ∃ ns, Elems M w xs ns ∧ (Builtin.firstCells i.size xs.length (.slice xa xs.length xcap)).run P w = .ok ns.toArray w ∧ ns.length = xs.length * i.size ∧
      (∀ ad, xa = some ad → ∀ j u, ns[j]? = some u → w.cell? (ad.add j) = some u) ∧ (xa = none → xs = []) := by
    cases xa with
    | none =>
      have : xs = [] := hlx
      subst this
      exact ⟨[], rfl, rfl, by simp, (fun ad h => by cases h), fun _ => rfl⟩
    | some ad =>
      obtain ⟨cs, he, hj⟩ := Lies.elems xs ad hlx
      have hcl : cs.length = xs.length * i.size := by rw [he.len, hsz]
      exact ⟨cs, he, run_firstCells_some w i.size xs.length ad xs.length xcap cs hcl hj, hcl, (fun ad' h => by cases h; exact hj), (fun h => by cases h)⟩
  obtain ⟨ns, hne, hfc, hnl, hnj, hnn⟩ := hnews
  by_cases h0 : xs = []
  · subst h0
    have hns : ns = [] := hne
    subst hns
    refine ⟨_, w, M, D, run_append_none ht hi hlc, ?_, Keeps.refl _ _, fun _ h => h, fun _ h => .inl h, hm, fun _ h => .inl h, hs0⟩
    rw [List.append_nil]
    exact ⟨a, cap, rfl, hlc, hcm, ho⟩
  have hxpos : 0 < xs.length := List.length_pos_iff.2 h0
  obtain ⟨xad, rfl⟩ : ∃ ad, xa = some ad := by
    cases xa with
    | none => exact absurd (hnn rfl) h0
    | some ad => exact ⟨ad, rfl⟩
  have hnj := hnj xad rfl
  -- a row that grows
  have grown : ∀ (cs : List Value) (old : Nat), Elems M w l cs → old < l.length + xs.length → ∀ w', w' = w.drew.alloc (.cells (cs.toArray ++ ns.toArray ++ Builtin.zeroCells z.cells (grownCap w (l.length + xs.length) old E - (l.length + xs.length))) E) →
      (rowV E (l ++ xs)).p (fun j => M j ∨ j = w.heap.size) (fun j => j = w.heap.size) (.slice (some ⟨w.heap.size, 0, none⟩) (l.length + xs.length) (grownCap w (l.length + xs.length) old E)) w' ∧ Keeps D w w' ∧
      (∀ j, (M j ∨ j = w.heap.size) → j < w'.heap.size) ∧ (rowV E l).p (fun j => M j ∨ j = w.heap.size) D (.slice a l.length cap) w' := by
    intro cs old he ho w' hw'
    have hext : Ext w w' := by
      subst hw'
      exact Keeps.trans (Ext.drew w) (Ext.alloc w.drew _)
    have hsize : w'.heap.size = w.heap.size + 1 := by subst hw'; rw [size_new]; rfl
    have hge := grownCap_ge w (l.length + xs.length) old E
    have hle := grownCap_le_maxLen w (l.length + xs.length) old E (by simp only [maxLen]; omega)
    have hkm : ∀ j, (M j ∨ j = w.heap.size) → M j ∨ w.heap.size ≤ j := fun j h => h.imp id (by omega)
    refine ⟨⟨some ⟨w.heap.size, 0, none⟩, _, by rw [List.length_append], by rw [List.length_append]; exact hge, by simp only [maxLen] at hle; exact hle, rfl, fun j => Iff.rfl, .inr rfl, [], cs ++ ns,
      (Builtin.zeroCells z.cells (grownCap w (l.length + xs.length) old E - (l.length + xs.length))).toList, ?_, rfl, ?_, ?_⟩, hext.keeps, fun j h => ?_, (rowV E l).law M _ D _ w w' hext.keeps hkm (fun j hj => ⟨.inl ((rowV E l).inM _ _ _ _ hs0 j hj), hext.block j (hm j ((rowV E l).inM _ _ _ _ hs0 j hj)) (fun h => h)⟩) hs0⟩
    · subst hw'
      show (w.drew.heap.push _)[w.heap.size]? = _
      rw [show w.heap.size = w.drew.heap.size from rfl, Array.getElem?_push_size]
      simp
    · exact Elems.append _ _ _ _ (Elems.law hext.keeps hkm l cs he) (Elems.law hext.keeps hkm xs ns hne)
    · refine Nat.le_of_eq (Eq.symm ?_); rw [Array.length_toList, size_zeroCells, hzs, List.length_append]
    · rw [hsize]
      rcases h with h | h
      · have := hm j h; omega
      · omega
  have hbytes : (l.length + xs.length) * i.bytes ≤ 140737488355328 := by
    have := Nat.mul_le_mul hb hby
    omega
  cases a with
  | none =>
    obtain ⟨rfl, rfl, hD⟩ := ho
    have hr := run_append_nil (P := P) w t ty E i z ht hi hz xad xs.length xcap ns hnl hnj hxpos (by simp at hb; omega) (by simp at hbytes; omega)
    obtain ⟨g1, g2, g3, g4⟩ := grown [] 0 rfl (by simp; omega) _ rfl
    simp only [List.length_nil, Nat.zero_add, List.nil_append] at g1 g2 g3 g4
    have e : ∀ c, (#[] ++ ns.toArray ++ c : Array Value) = ns.toArray ++ c := by intro c; simp
    rw [e] at g1 g2 g3 g4
    exact ⟨_, _, _, _, hr, g1, g2, fun j h => .inl h, fun j h => h.imp id (by omega), g3, fun j h => .inr (by omega), g4⟩
  | some ad =>
    obtain ⟨hsp, hD, hM, pre, cs, rest, hh, hp, he, hrest⟩ := ho
    obtain ⟨b, off, sp⟩ := ad
    simp only at hsp hD hM hh hp
    subst hsp
    have hcl := he.len
    by_cases hroom : l.length + xs.length ≤ cap
    · have hnl' : ns.length ≤ rest.length := by
        rw [hnl, hsz]
        exact Nat.le_trans (Nat.mul_le_mul_right _ (by omega)) hrest
      obtain ⟨w', h1, h2, h3, h4, h5, h6, h7⟩ := run_append_in (P := P) (ty := ty) (T := E) (m := b) (off := off) (sLen := l.length) (sCap := cap) (n := xs.length) (pre := pre ++ cs) (mid := rest.take ns.length) (rest := rest.drop ns.length) ht hi hfc hnl
        (Elems.plain xs ns hne) hroom (by rw [List.length_append, hp, hcl, hsz]) (by rw [List.length_take]; omega) (by rw [hh]; simp)
      have hkD : Keeps D w w' := ⟨h3, h4, h5, by omega, fun k _ hn => h7 k (fun e => hn ((hD k).2 e))⟩
      have hkM : Keeps M w w' := ⟨h3, h4, h5, by omega, fun k _ hn => h7 k (fun e => hn (e ▸ hM))⟩
      refine ⟨_, w', M, D, h1, ⟨some ⟨b, off, none⟩, cap, by rw [List.length_append], by rw [List.length_append]; exact hroom, hcm, rfl, hD, hM, pre, cs ++ ns, rest.drop ns.length, by rw [h2]; simp, hp, ?_, ?_⟩, hkD, fun _ h => h, fun _ h => .inl h,
        fun j h => by rw [h6]; exact hm j h, fun _ h => .inl h, ⟨some ⟨b, off, none⟩, cap, rfl, hlc, hcm, rfl, hD, hM, pre, cs, ns ++ rest.drop ns.length, by rw [h2]; simp, hp, Elems.law hkM (fun _ h => .inl h) l cs he, by rw [List.length_append, List.length_drop]; omega⟩⟩
      · exact Elems.append _ _ _ _ (Elems.law hkM (fun _ h => .inl h) l cs he) (Elems.law hkM (fun _ h => .inl h) xs ns hne)
      · rw [List.length_drop, hnl, hsz, List.length_append]
        have e : (cap - (l.length + xs.length)) * Rep.sz α = (cap - l.length) * Rep.sz α - xs.length * Rep.sz α := by rw [← Nat.sub_mul]; congr 1; omega
        rw [e]; omega
    · have holds : ∀ j u, cs[j]? = some u → w.cell? ((⟨b, off, none⟩ : Addr).add j) = some u := by
        intro j u hu
        rw [add_none, cell_of_heap hh, List.getElem?_toArray, List.append_assoc, List.getElem?_append_right (by omega), List.getElem?_append_left (by have := (List.getElem?_eq_some_iff.1 hu).1; omega), hp]
        rw [← hu]; congr 1; omega
      have hr := run_append_grow (P := P) w t ty E i z ht hi hz ⟨b, off, none⟩ l.length cap cs (by rw [hcl, hsz]) holds xad xs.length xcap ns hnl hnj (by omega) (by omega) (growslice_fits (by omega) hbytes)
      obtain ⟨g1, g2, g3, g4⟩ := grown cs cap he (by omega) _ rfl
      exact ⟨_, _, _, _, hr, g1, g2, fun j h => .inl h, fun j h => h.imp id (by omega), g3, fun j h => .inr (by omega), g4⟩


/-- append, and nobody writes either any more: the old row can still be read. -/
theorem StepOK.appendFz {d k k2 : Nat} {s u : Operand} {t E E' : TypeId} {α : Type} [Rep α] {l xs : List α} {sv sv2 : Value} (hT : RowOK P t E α) (hs : Opd L True s (isV sv2)) (hk : lookB B k = some (CPred.at sv2 (rowV E l))) (hu : Opd L True u (isV sv)) (hk2 : lookB B k2 = some (CPred.at sv (rowV E' xs)))
    (hb : l.length + xs.length ≤ 1073741824) (hne : k ≠ k2) (hfl : Flat α) :
    StepOK P ops fs ⟨some d, .call { callee := .builtin .append, args := #[s, u], argTypes := #[t, t] }, ty, pos, after, none⟩ L B ([k, k2], [k]) ⟨True, rep (l ++ xs)⟩ [(k, some (CPred.at sv2 (valV l)))] := by
  refine .doing fun M D a w hsz hm hsat hsB => ?_
  have hsv := (rep_raw.1 (hs.get hsat (fun t ht => looksAt_op (call_ops (by simp [ht]))) trivial)).1
  have hC : (rowV E l).p M (D k) (a.eval s) w := by rw [hsv]; exact hsB.has k (by simp) _ hk
  have hX := hsB.has k2 (by simp) _ hk2
  have hXv := (rep_raw.1 (hu.get hsat (fun t ht => looksAt_op (call_ops (by simp [ht]))) trivial)).1
  have hX2 : (rep xs).p (fun j => M j ∧ ¬ D k2 j) (a.eval u) w := by rw [hXv]; exact rowV_rep M (D k2) w sv hX hm
  have hC2 : (rowV E l).p (fun j => M j ∧ ¬ D k2 j) (D k) (a.eval s) w :=
    (rowV E l).law M _ (D k) _ w w (Keeps.refl _ _) (fun j h => .inl h.1) (fun j hj => ⟨⟨(rowV E l).inM _ _ _ _ hC j hj, fun h2 => hsB.apart k (by simp) k2 (by simp) _ _ hk hk2 hne j hj h2⟩, rfl⟩) hC
  obtain ⟨v, w', M', D', hr, h1, h2, h3, h4, h5, h6, h7⟩ := run_append2 (P := P) (ty := ty) hT (fun j h => hm j h.1) hC2 hX2 hb
  have hMs : ∀ j, (M' j ∨ M j) → j < w'.heap.size := fun j h => by
    rcases h with h | h
    · exact h5 j h
    · exact Nat.lt_of_lt_of_le (hm j h) h2.size
  have g1 := rowV_rep _ _ w' v (rowV_flat (M2 := fun j => M' j ∨ M j) hfl h1 (fun j h => .inl h)) hMs
  have g2 := rowV_rep _ _ w' _ (rowV_flat (M2 := fun j => M' j ∨ M j) hfl h7 (fun j h => .inl h)) hMs
  refine Does.value (ex_append hr) ⟨fun j => M j ∧ ¬ D k j, fun _ _ => False, ?_, fun j hj => ?_, fun j hj => .inl hj.1, fun j hj => Nat.lt_of_lt_of_le (hm j hj.1) h2.size, ⟨fun _ => ?_, fun hf => (hf trivial).elim⟩, fun t c hc => ?_, fun t1 t2 c c' _ _ _ j hj => hj.elim⟩
  · exact ⟨h2.os, h2.tape, h2.output, h2.size, fun j hlt hn => h2.block j hlt (fun hd => hn ⟨k, by simp, _, hk, hd⟩)⟩
  · by_cases hd : D k j
    · exact .inr ⟨k, by simp, _, hk, hd⟩
    · exact .inl ⟨hj, hd⟩
  · refine (rep (l ++ xs)).law _ _ v w' w' (Keeps.refl _ _) (fun j hj => .inl ⟨.inr hj.1, fun hd => ?_⟩) g1
    rcases h6 j hd with h | h
    · exact hj.2 h
    · have := hm j hj.1; omega
  · simp only [lookB] at hc
    by_cases e : k = t
    · subst e
      simp at hc; subst hc
      refine ⟨⟨fun j h => h, ?_⟩, fun j h => h.elim⟩
      rw [← hsv]
      exact (rep l).law _ _ _ w' w' (Keeps.refl _ _) (fun j hj => .inl ⟨.inr hj.1, hj.2⟩) g2
    · rw [beq_ne e] at hc; simp at hc
/-- The same of what stays. -/
theorem StepOK.appendFz2 {d k : Nat} {s u : Operand} {t E : TypeId} {α : Type} [Rep α] {l xs : List α} {sv2 : Value} (hT : RowOK P t E α) (hs : Opd L True s (isV sv2)) (hk : lookB B k = some (CPred.at sv2 (rowV E l))) (hu : Opd L True u (rep xs))
    (hb : l.length + xs.length ≤ 1073741824) (hfl : Flat α) :
    StepOK P ops fs ⟨some d, .call { callee := .builtin .append, args := #[s, u], argTypes := #[t, t] }, ty, pos, after, none⟩ L B ([k], [k]) ⟨True, rep (l ++ xs)⟩ [(k, some (CPred.at sv2 (valV l)))] := by
  refine .doing fun M D a w hsz hm hsat hsB => ?_
  have hsv := (rep_raw.1 (hs.get hsat (fun t ht => looksAt_op (call_ops (by simp [ht]))) trivial)).1
  have hC : (rowV E l).p M (D k) (a.eval s) w := by rw [hsv]; exact hsB.has k (by simp) _ hk
  have hX := hu.get hsat (fun t ht => looksAt_op (call_ops (by simp [ht]))) trivial
  obtain ⟨v, w', M', D', hr, h1, h2, h3, h4, h5, h6, h7⟩ := run_append2 (P := P) (ty := ty) hT hm hC hX hb
  have hMs : ∀ j, (M' j ∨ M j) → j < w'.heap.size := fun j h => by
    rcases h with h | h
    · exact h5 j h
    · exact Nat.lt_of_lt_of_le (hm j h) h2.size
  have g1 := rowV_rep _ _ w' v (rowV_flat (M2 := fun j => M' j ∨ M j) hfl h1 (fun j h => .inl h)) hMs
  have g2 := rowV_rep _ _ w' _ (rowV_flat (M2 := fun j => M' j ∨ M j) hfl h7 (fun j h => .inl h)) hMs
  refine Does.value (ex_append hr) ⟨fun j => M j ∧ ¬ D k j, fun _ _ => False, ?_, fun j hj => ?_, fun j hj => .inl hj.1, fun j hj => Nat.lt_of_lt_of_le (hm j hj.1) h2.size, ⟨fun _ => ?_, fun hf => (hf trivial).elim⟩, fun t c hc => ?_, fun t1 t2 c c' _ _ _ j hj => hj.elim⟩
  · exact ⟨h2.os, h2.tape, h2.output, h2.size, fun j hlt hn => h2.block j hlt (fun hd => hn ⟨k, by simp, _, hk, hd⟩)⟩
  · by_cases hd : D k j
    · exact .inr ⟨k, by simp, _, hk, hd⟩
    · exact .inl ⟨hj, hd⟩
  · refine (rep (l ++ xs)).law _ _ v w' w' (Keeps.refl _ _) (fun j hj => .inl ⟨.inr hj.1, fun hd => ?_⟩) g1
    rcases h6 j hd with h | h
    · exact hj.2 h
    · have := hm j hj.1; omega
  · simp only [lookB] at hc
    by_cases e : k = t
    · subst e
      simp at hc; subst hc
      refine ⟨⟨fun j h => h, ?_⟩, fun j h => h.elim⟩
      rw [← hsv]
      exact (rep l).law _ _ _ w' w' (Keeps.refl _ _) (fun j hj => .inl ⟨.inr hj.1, hj.2⟩) g2
    · rw [beq_ne e] at hc; simp at hc
end
end Go.DB
