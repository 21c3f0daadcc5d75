/-
  The keys of a map, sorted.
-/
import Derived.Test.YtchnjieebkkhnaaGreatDoorExCmp
import Derived.Test.YtchnjieebkkhnaaGreatDoorCore46
import Derived.Shelf.SlIter.Nil
import Derived.Shelf.SlIter.Sorted
import Derived.Shelf.SlIter.Collect
import Derived.Shelf.SortM.Plain
import Derived.Shelf.SortM.SortNone
set_option linter.unusedSimpArgs false
set_option linter.unusedVariables false
namespace Go.DB
open Go Go.RowKit

section
variable {V : Type} [Rep V]
/-- What maps.Keys gives: the function value y over a box that holds the map. -/
def keysP (y : Nat) (m : GMap Str V) : SPred where
  p := fun M v w => ∃ b, v = .func (.func y) #[] #[.pointer (some ⟨b, 0, none⟩)] ∧ ¬ M b ∧ b < w.heap.size ∧ ∃ sv, w.cell? ⟨b, 0, none⟩ = some sv ∧ (rep m).p M sv w
  law := fun M M' v w w' hk hm ⟨b, hv, hM, hb, sv, hc, hr⟩ => ⟨b, hv, fun h => (hm b h).elim hM (by omega), Nat.lt_of_lt_of_le hb hk.size, sv, (World.cell?_of_block (w := w) (hk.block b hb hM)).trans hc, (rep m).law M M' sv w w' hk hm hr⟩
noncomputable def keysS (m : GMap Str V) : List Str := by
  classical
  exact if h : ∃ l, Lists m l then ((h.choose.map fun x => x.1.b).mergeSort Go.leB).map Str.mk else []
omit [Rep V] in
theorem keysS_eq {m : GMap Str V} {l : List (Str × V)} (h : Lists m l) : keysS m = ((l.map fun x => x.1.b).mergeSort Go.leB).map Str.mk := by
  have he : ∃ l, Lists m l := ⟨l, h⟩
  unfold keysS
  rw [dif_pos he]
  congr 1
  exact Go.mergeSort_of_perm ((he.choose_spec.perm h).map _)
omit [Rep V] in
theorem keysS_nil : keysS (GMap.nil : GMap Str V) = [] := by rw [keysS_eq Lists.nil]; simp

theorem keys_spec {P : Program} {ρ : Shelf.Ren} (Ly : Proofs.SlLaysZ.n7 P ρ) {f y : Nat} (hf : ρ.f 7 = f) (hy : ρ.f 10 = y) (ok : FnOK P f) {m : GMap Str V} : FSpec P f [rep m] (keysP y m) := by
  refine ⟨ok, fun M w vs hM ha => ?_⟩
  match vs, ha with
  | [v], ⟨hv, _⟩ =>
    subst hf hy
    obtain ⟨mb, rfl⟩ : ∃ mb, v = .map mb := by
      rcases rep_map.1 hv with ⟨h, _⟩ | ⟨b, _, _, _, h, _⟩
      · exact ⟨none, h⟩
      · exact ⟨some b, h⟩
    refine Calls.mono ((callsIn_wide (n := 5)).1 (Proofs.AnyZ.keys_in Ly Fence.wide 5 trivial rfl mb w)) ?_
    rintro e w' ⟨rfl, rfl⟩
    have hx : Ext w (w.alloc (.cells #[.map mb] (ρ.t 23))) := Ext.alloc _ _
    exact ⟨hx, _, rfl, w.heap.size, rfl, fun h => absurd (hM _ h) (by omega), by rw [size_new]; omega, .map mb, by rw [cell_new]; rfl, (rep m).ext hx hv⟩

theorem row_of_ownsS {M : MSet} {w w' : World} {T : Nat} {v : Value} {l : List Str} (hM : Low M w) (hb : Below w.heap.size w w') (hi : ∀ x ∈ l, x.b.length ≤ 9223372036854775807) (h : w'.ownsRow w.heap.size T 1 v l.length (l.map strV)) :
    ∃ (M' : MSet) (D' : Nat → MSet), (∀ D0 : Nat → MSet, Keeps (DU D0 0) w w') ∧ (∀ k, M' k → M k ∨ w.heap.size ≤ k) ∧ (∀ k, M k → M' k) ∧ (∀ k, M' k → k < w'.heap.size) ∧ (rowV T l).p M' (D' 0) v w' ∧ ∀ k, D' 0 k → w.heap.size ≤ k := by
  have hkeep : ∀ D' : Nat → MSet, Keeps (DU D' 0) w w' := fun D' => ⟨hb.os, hb.tape, hb.output, hb.size, fun k hk _ => hb.block k hk⟩
  have hel : ∀ (l : List Str), (∀ x ∈ l, x.b.length ≤ 9223372036854775807) → Elems (fun k => M k) w' l (l.map strV) ∧ ∀ M', Elems M' w' l (l.map strV) := fun l => by
    have : ∀ (M' : MSet) (l : List Str), (∀ x ∈ l, x.b.length ≤ 9223372036854775807) → Elems M' w' l (l.map strV) := fun M' l => by
      induction l with
      | nil => intro _; rfl
      | cons x l ih => exact fun h => ⟨[strV x], l.map strV, rfl, ⟨rfl, h x (by simp)⟩, ih (fun y hy => h y (by simp [hy]))⟩
    exact fun h => ⟨this _ l h, fun M' => this M' l h⟩
  rcases h.2 with ⟨rfl, hz⟩ | ⟨g, cap, cur, rfl, hbase, hg, r1, r2, r3, r4⟩
  · obtain rfl : l = [] := List.eq_nil_of_length_eq_zero hz
    exact ⟨M, fun _ _ => False, hkeep, fun k h => .inl h, fun k h => h, fun k h => Nat.lt_of_lt_of_le (hM.lt k h) hb.size, ⟨none, 0, rfl, by simp, by omega, rfl, rfl, fun k h => h⟩, fun k h => h.elim⟩
  · have hgl : g < w'.heap.size := (Array.getElem?_eq_some_iff.1 hg).1
    refine ⟨fun k => M k ∨ k = g, fun _ k => k = g, hkeep, fun k h => h.imp id (fun e => by subst e; exact hbase), fun k h => .inl h, fun k h => h.elim (fun h => Nat.lt_of_lt_of_le (hM.lt k h) hb.size) (fun e => by subst e; exact hgl), ?_, fun k h => by subst h; exact hbase⟩
    have hcur : cur.toList = l.map strV ++ cur.toList.drop l.length := by
      rw [← List.take_append_drop l.length cur.toList]
      congr 1
      · simpa using r4
      · simp
    have hcl : cur.toList.length = cap := by simpa using r3
    refine ⟨some ⟨g, 0, none⟩, cap, rfl, r1, by unfold maxLen at r2; omega, rfl, fun k => Iff.rfl, .inr rfl, [], l.map strV, cur.toList.drop l.length, ?_, rfl, (hel l hi).2 _, ?_⟩
    · rw [hg]
      congr 2
      rw [List.nil_append, ← hcur]
    · simp only [Rep.sz, Nat.mul_one, List.length_drop]; omega

/-- A map as the kit's texts speak of it: whatever its values are. -/
theorem map_owned {P : Program} {k : TypeId} (hk : P.underlying k = some .string) {M : MSet} {w : World} {m : GMap Str V} {b clock : Nat} {es : Array MapEntry} {l : List (Str × V)} (hh : w.heap[b]? = some (.map es clock)) (hi : MapIs M w m es clock l) (hn : l.length ≤ 8796093022208) :
    ∃ D0 : DataW Unit, w.ownsMap P k (fun _ => some (.nil, [])) b es.size D0 ∧ (Go.strKeys D0).Perm (l.map fun x => x.1.b) ∧ Maps.size D0 = l.length := by
  have hlen : es.toList.length = l.length := hi.ents.1
  have hkey : ∀ (j : Nat) (e : MapEntry), es.toList[j]? = some e → ∃ x, l[j]? = some x ∧ e.key = strV x.1 ∧ x.1.b.length ≤ 9223372036854775807 := fun j e he => by
    obtain ⟨x, hx, h1, _⟩ := hi.ents.at he
    obtain ⟨h2, h3⟩ := rep_str.1 h1
    exact ⟨x, hx, h2, h3⟩
  have hrd : ∀ (j : Nat) (e : MapEntry), es.toList[j]? = some e → ∃ x, l[j]? = some x ∧ WideElems.rd (H := Unit) P k (fun _ => some (.nil, [])) e = some (.string x.1.b, .nil) := fun j e he => by
    obtain ⟨x, hx, h1, h2⟩ := hkey j e he
    refine ⟨x, hx, ?_⟩
    unfold WideElems.rd
    rw [h1]
    have : keyOf P k (strV x.1) = some (.string x.1.b) := WideMaps.keyOf_string_mk hk (s := ⟨x.1.b.toArray⟩) (by show x.1.b.length ≤ maxLen; exact h2)
    rw [this]; rfl
  refine ⟨_, ⟨es, clock, hh, ⟨?_, ⟨hi.low, hi.born, ?_⟩, fun e he => ?_⟩, Nat.le_refl _, rfl⟩, ?_, ?_⟩
  · show es.size ≤ maxLen
    have : es.size = l.length := by rw [← hlen]; simp
    unfold maxLen; omega
  · -- the keys are apart
    rw [List.nodup_iff_pairwise_ne, List.pairwise_iff_getElem]
    intro i j hi' hj' hij e
    rw [List.getElem_map, List.getElem_map] at e
    have hi2 : i < es.toList.length := by simpa using hi'
    have hj2 : j < es.toList.length := by simpa using hj'
    obtain ⟨x, hx, ex, _⟩ := hkey i _ (List.getElem?_eq_getElem hi2)
    obtain ⟨y, hy, ey, _⟩ := hkey j _ (List.getElem?_eq_getElem hj2)
    rw [ex, ey] at e
    have hxy : x.1 = y.1 := by
      have := congrArg (fun v : Value => match v with | .string s => s.data.toList | _ => []) e
      simp only [strV] at this
      cases hx1 : x.1; cases hy1 : y.1
      rw [hx1, hy1] at this
      simp only at this
      rw [this]
    have hnd := hi.lists.nodup
    rw [List.nodup_iff_pairwise_ne, List.pairwise_iff_getElem] at hnd
    obtain ⟨a1, a2⟩ := List.getElem?_eq_some_iff.1 hx
    obtain ⟨b1, b2⟩ := List.getElem?_eq_some_iff.1 hy
    have := hnd i j (by rw [List.length_map]; exact a1) (by rw [List.length_map]; exact b1) hij
    rw [List.getElem_map, List.getElem_map, a2, b2] at this
    exact this hxy
  · obtain ⟨j, hj⟩ := List.getElem?_of_mem he
    obtain ⟨x, _, h⟩ := hrd j e hj
    exact ⟨_, h⟩
  · have hp := WideShapes.sorted_perm (es.toList.map (WideElems.rg (H := Unit) P k (fun _ => some (.nil, []))))
    refine ((hp.map fun p => strOf p.1)).trans ?_
    rw [List.map_map]
    refine List.Perm.of_eq (List.ext_getElem (by simp only [List.length_map]; exact hlen) fun j h1 h2 => ?_)
    have hj : j < es.toList.length := by simpa using h1
    obtain ⟨x, hx, h⟩ := hrd j _ (List.getElem?_eq_getElem hj)
    obtain ⟨a1, a2⟩ := List.getElem?_eq_some_iff.1 hx
    rw [List.getElem_map, List.getElem_map, a2]
    simp only [Function.comp, WideElems.rg, h, Option.getD_some, strOf]
  · show (List.foldr DataW.insert [] _).length = _
    rw [(WideShapes.sorted_perm _).length_eq, List.length_map, hlen]

theorem sortedK_spec {P : Program} {ρ σ τ : Shelf.Ren} (L7 : Proofs.SlLaysZ.n7 P ρ) (L6 : Proofs.SlLaysZ.n6 P σ) (Ls : Proofs.SlLaysM.n6 P τ) {f y o T : Nat} (hf : σ.f 6 = f) (hy : ρ.f 10 = y) (ho : σ.f 9 = o) (ho2 : τ.f 6 = o) (hT : σ.t 26 = T) (hk : P.underlying (ρ.t 26) = some .string)
    (ok : FnOK P f) (oky : FnOK P y) (oko : FnOK P o) {m : GMap Str V} (hn : m.size ≤ 8796093022208) (hl : ∃ l, Lists m l) : FSpecO P f [keysP y m] [] anyV [some (rowV T (keysS m))] := by
  refine ⟨ok, fun M D w vs hM ha hO => ?_⟩
  match vs, ha with
  | [v], ⟨⟨B, hvv, hBM, hB, sv, hc, hm⟩, _⟩ =>
    subst hvv hf hy hT
    have hsort : Proofs.AnyZ.SortsIn P σ Fence.wide (5 - 1) :=
      ⟨fun blk off cap ss W hH hblk hsz => callsIn_wide.2 (by rw [ho, ← ho2]; exact Proofs.AnyM.slices_Sort_string Ls blk off cap ss W hH hblk hsz),
       fun p cap W => callsIn_wide.2 (by rw [ho, ← ho2]; exact Proofs.AnyM.slices_Sort_string_none Ls p cap W)⟩
    have e9 : ∀ args w, (callFunc (σ.f 9) args).run P w = .ok (.enter (σ.f 9) args) w := fun args w => run_callFunc (by rw [ho]; exact oko) args w
    have ey : ∀ args w, (callFunc (ρ.f 10) args).run P w = .ok (.enter (ρ.f 10) args) w := fun args w => run_callFunc oky args w
    have fin : ∀ (e : Ending) (w' : World), (∃ (v : Value) (ss : List (List UInt8)), e = .returned v ∧ (∃ l, Lists m l ∧ ss.Perm (l.map fun x => x.1.b) ∧ ∀ x ∈ l, x.1.b.length ≤ 9223372036854775807) ∧
        w'.ownsRow w.heap.size (σ.t 26) 1 v ss.length ((ss.mergeSort (fun x y => decide (x ≤ y))).map Proofs.encStr) ∧ (v = .slice none 0 0 ↔ ss = []) ∧ Below w.heap.size w w') →
        PostO ⟨w, M, DU D 0⟩ anyV [] [some (rowV (σ.t 26) (keysS m))] e w' := fun e w' ⟨v, ss, he, ⟨l, hl, hss, hlen⟩, ho, _, hb⟩ => by
      have hks : keysS m = (ss.mergeSort Go.leB).map Str.mk := by rw [keysS_eq hl, Go.mergeSort_of_perm hss]
      have hcnt : ss.length = (keysS m).length := by rw [hks, List.length_map, List.length_mergeSort]
      have hvs : (ss.mergeSort (fun x y => decide (x ≤ y))).map Proofs.encStr = (keysS m).map strV := by rw [hks, List.map_map]; rfl
      rw [hcnt, hvs] at ho
      obtain ⟨M', D', a1, a2, a3, a4, a5, a6⟩ := row_of_ownsS hM hb (fun x hx => by
        rw [hks] at hx
        obtain ⟨z, hz, rfl⟩ := List.mem_map.1 hx
        have := hss.mem_iff.1 ((List.mergeSort_perm ss Go.leB).mem_iff.1 hz)
        obtain ⟨q, hq, rfl⟩ := List.mem_map.1 this
        exact hlen q hq) ho
      refine ⟨v, M', D', he, a1 D, fun k h => .inl (a3 k h), a2, a4, trivial, fun i c hi => ?_, fun i j c c' hi hj hne => ?_⟩
      · match i, hi with
        | 0, hi =>
          simp only [List.getElem?_cons_zero, Option.some.injEq] at hi
          subst hi
          exact ⟨a5, fun k hk => .inr (a6 k hk)⟩
      · match i, j, hi, hj with
        | 0, 0, _, _ => omega
    rcases rep_map.1 hm with ⟨rfl, rfl⟩ | ⟨b, es, clock, l, rfl, hbM, hbl, hh, hi⟩
    · have hseq := Proofs.AnyZ.keys_gives_nil (ρ := ρ) { L7 with } Fence.wide 2 trivial rfl B w hB hc
      have cS := Proofs.AnyZ.sorted_in L6 Fence.wide 5 trivial trivial trivial trivial rfl (by omega) hsort e9 (ρ.f 10) #[.pointer (some ⟨B, 0, none⟩)] trivial ey _ 0 (by decide) (by decide) w hseq
      refine Calls.mono ((callsIn_wide (n := 5)).1 cS) fun e w' ⟨v, ss, h1, h2, h3, h4, h5⟩ => fin e w' ⟨v, ss, h1, ⟨[], Lists.nil, by rw [h2]; exact .refl _, by simp⟩, h3, h4, h5⟩
    · have hln : l.length ≤ 8796093022208 := by have := hi.lists.size; omega
      obtain ⟨D0, g1, g2, g3⟩ := map_owned (P := P) (k := ρ.t 26) hk hh hi hln
      have hseq := Proofs.AnyZ.keys_gives (ρ := ρ) { L7 with } Fence.wide 2 trivial rfl (by omega) B b es.size D0 w hB hc g1
      have cS := Proofs.AnyZ.sorted_in L6 Fence.wide 5 trivial trivial trivial trivial rfl (by omega) hsort e9 (ρ.f 10) #[.pointer (some ⟨B, 0, none⟩)] trivial ey _ (Maps.size D0) (by rw [g3]; unfold maxLen; omega) (by rw [g3]; omega) w hseq
      refine Calls.mono ((callsIn_wide (n := 5)).1 cS) fun e w' ⟨v, ss, h1, h2, h3, h4, h5⟩ => fin e w' ⟨v, ss, h1, ⟨l, hi.lists, h2.trans g2, fun x hx => ?_⟩, h3, h4, h5⟩
      obtain ⟨j, hj⟩ := List.getElem?_of_mem hx
      have hjl := (List.getElem?_eq_some_iff.1 hj).1
      have hje : j < es.toList.length := by rw [hi.ents.1]; exact hjl
      obtain ⟨x', hx', h1', _⟩ := hi.ents.at (List.getElem?_eq_getElem hje)
      rw [hj] at hx'
      obtain rfl := Option.some.inj hx'
      exact (rep_str.1 h1').2
end
end Go.DB
