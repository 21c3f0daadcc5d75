/-
  What the library's sort of structs by a function comes to.
-/
import Derived.Test.YtchnjieebkkhnaaGreatDoorCoreF
import Derived.Shelf.SlSortCmp.NoneTotal
set_option linter.unusedSimpArgs false
set_option linter.unusedVariables false
namespace Go.DB
open Go Go.RowKit

/-- The cells of plain data. -/
class Enc (α : Type) [Rep α] where
  enc : α → List Value
  ok : α → Prop
  cells : ∀ {M : MSet} {x : α} {cs : List Value} {w : World}, Rep.cells M x cs w ↔ cs = enc x ∧ ok x
  len : ∀ x, (enc x).length = Rep.sz α
  one : ∀ x, ∀ v ∈ enc x, isOne v = true
instance : Enc Int := ⟨fun n => [.int .i64 n], InI, fun {M x cs w} => Iff.rfl, fun _ => rfl, fun x v h => by obtain rfl := List.mem_singleton.1 h; rfl⟩
instance : Enc Bool := ⟨fun b => [.bool b], fun _ => True, fun {M x cs w} => ⟨fun h => ⟨h, trivial⟩, fun h => h.1⟩, fun _ => rfl, fun x v h => by obtain rfl := List.mem_singleton.1 h; rfl⟩
instance {α β : Type} [Rep α] [Rep β] [Enc α] [Enc β] : Enc (α × β) := ⟨fun x => Enc.enc x.1 ++ Enc.enc x.2, fun x => Enc.ok x.1 ∧ Enc.ok x.2, fun {M x cs w} => by
  constructor
  · rintro ⟨c1, c2, h, h1, h2⟩
    obtain ⟨e1, o1⟩ := Enc.cells.1 h1
    obtain ⟨e2, o2⟩ := Enc.cells.1 h2
    exact ⟨by rw [h, e1, e2], o1, o2⟩
  · rintro ⟨h, o1, o2⟩
    exact ⟨_, _, h, Enc.cells.2 ⟨rfl, o1⟩, Enc.cells.2 ⟨rfl, o2⟩⟩, fun x => by rw [List.length_append, Enc.len, Enc.len]; rfl, fun x v h => (List.mem_append.1 h).elim (Enc.one _ v) (Enc.one _ v)⟩
@[reducible] def Enc.via {α β : Type} [Rep β] [Enc β] (f : α → β) : @Enc α (Rep.via f) := @Enc.mk α (Rep.via f) (fun x => Enc.enc (f x)) (fun x => Enc.ok (f x)) (fun {M x cs w} => Enc.cells (α := β)) (fun x => Enc.len (f x)) (fun x => Enc.one (f x))

theorem elems_enc {α : Type} [Rep α] [Enc α] {M : MSet} {w : World} : ∀ (l : List α) (cs : List Value), Elems M w l cs ↔ cs = l.flatMap Enc.enc ∧ ∀ x ∈ l, Enc.ok x
  | [], cs => by simp [Elems]
  | x :: l, cs => by
    constructor
    · rintro ⟨c, r, h, h1, h3⟩
      obtain ⟨e1, o1⟩ := Enc.cells.1 h1
      obtain ⟨h4, h5⟩ := (elems_enc l r).1 h3
      exact ⟨by rw [h, e1, h4]; rfl, by simp only [List.forall_mem_cons]; exact ⟨o1, h5⟩⟩
    · rintro ⟨h, h2⟩
      simp only [List.forall_mem_cons] at h2
      exact ⟨Enc.enc x, l.flatMap Enc.enc, by rw [h]; rfl, Enc.cells.2 ⟨rfl, h2.1⟩, (elems_enc l _).2 ⟨rfl, h2.2⟩⟩

theorem flatMap_at {α : Type} {enc : α → List Value} {k : Nat} (hk : ∀ x, (enc x).length = k) (k0 : 0 < k) : ∀ (l : List α) (t : Nat), (l.flatMap enc)[t]? = (l[t / k]?).bind (fun x => (enc x)[t % k]?)
  | [], t => by simp
  | x :: l, t => by
    rw [List.flatMap_cons]
    by_cases h : t < k
    · rw [List.getElem?_append_left (by rw [hk]; exact h), Nat.div_eq_of_lt h, Nat.mod_eq_of_lt h]; rfl
    · rw [List.getElem?_append_right (by rw [hk]; omega), hk, flatMap_at hk k0 l]
      have e : t = (t - k) + k := by omega
      have e1 : t / k = (t - k) / k + 1 := by rw [show t / k = ((t - k) + k) / k by rw [← e], Nat.add_div_right _ k0]
      have e2 : t % k = (t - k) % k := by rw [show t % k = ((t - k) + k) % k by rw [← e], Nat.add_mod_right]
      rw [e1, e2, List.getElem?_cons_succ]

theorem flatK_eq {A : Type} [Inhabited A] {enc : A → List Value} {k : Nat} (hk : ∀ x, (enc x).length = k) (k0 : 0 < k) (d : Array A) : (Go.Sort.flatK enc k d) = (d.toList.flatMap enc).toArray := by
  apply Array.ext_getElem?
  intro t
  have hlen : (d.toList.flatMap enc).length = d.size * k := by
    rw [List.length_flatMap]
    have : (d.toList.map fun x => (enc x).length) = List.replicate d.size k := by
      refine List.ext_getElem (by simp) fun i h1 h2 => ?_
      simp [hk]
    rw [this]; simp
  by_cases ht : t < d.size * k
  · have h1 : t / k < d.size := Nat.div_lt_of_lt_mul (by rw [Nat.mul_comm]; exact ht)
    have h2 : t % k < k := Nat.mod_lt _ k0
    have g := Go.Sort.get_flatK enc k d t ht
    rw [getElem!_pos _ _ (by simpa using ht)] at g
    rw [Array.getElem?_eq_getElem (by simpa using ht), g, List.getElem?_toArray, flatMap_at hk k0, Array.getElem?_toList, Array.getElem?_eq_getElem h1, Option.bind_some, getElem!_pos d _ h1, List.getElem?_eq_getElem (by rw [hk]; exact h2), getElem!_pos _ _ (by rw [hk]; exact h2)]
  · rw [Array.getElem?_eq_none (by simpa using Nat.le_of_not_lt ht), List.getElem?_toArray, List.getElem?_eq_none (by rw [hlen]; omega)]

theorem putCells_id {pre cs ds rest : List Value} {off : Nat} (hp : pre.length = off) (hl : cs.length = ds.length) :
    Go.Sort.putCells id off ds.toArray (pre ++ cs ++ rest).toArray = (pre ++ ds ++ rest).toArray := by
  unfold Go.Sort.putCells
  apply Array.ext_getElem?
  intro k
  rw [Array.getElem?_mapIdx]
  simp only [List.getElem?_toArray, List.size_toArray]
  by_cases h1 : k < off
  · rw [List.append_assoc, List.append_assoc, List.getElem?_append_left (by omega), List.getElem?_append_left (by omega)]
    have : ¬ (off ≤ k ∧ k < off + ds.length) := by omega
    simp only [this, if_false]
    cases pre[k]? <;> rfl
  · by_cases h2 : k < off + ds.length
    · rw [List.append_assoc, List.append_assoc, List.getElem?_append_right (l₁ := pre) (by omega), List.getElem?_append_left (l₁ := cs) (by omega), List.getElem?_append_right (l₁ := pre) (by omega), List.getElem?_append_left (by omega)]
      have : off ≤ k ∧ k < off + ds.length := by omega
      simp only [this, and_self, if_true, hp]
      rw [List.getElem?_eq_getElem (by omega), Option.map_some, List.getElem?_eq_getElem (by omega)]
      congr 1
      rw [getElem!_pos _ _ (by simp; omega)]
      simp
    · rw [List.getElem?_append_right (by simp; omega), List.getElem?_append_right (by simp; omega)]
      have : ¬ (off ≤ k ∧ k < off + ds.length) := by omega
      simp only [this, if_false]
      have e : (pre ++ cs).length = (pre ++ ds).length := by simp [hl]
      rw [e]
      cases rest[k - (pre ++ ds).length]? <;> rfl

section
variable {α : Type} {Q : α → Prop} [Inhabited { x : α // Q x }]
/-- A list that is sorted by a comparison of those elements that Q allows. -/
noncomputable def sortF (cf : { x : α // Q x } → { x : α // Q x } → Int) (l : List α) : List α := by
  classical
  exact if h : ∀ x ∈ l, Q x then (Sort.pdq (Proofs.ltOf cf) (l.attachWith Q h).toArray 0 l.length (Lib.bitLen l.length) true true).toList.map (·.1) else l
variable {cf : { x : α // Q x } → { x : α // Q x } → Int} {l : List α}
theorem sortF_eq (h : ∀ x ∈ l, Q x) : sortF cf l = (Sort.pdq (Proofs.ltOf cf) (l.attachWith Q h).toArray 0 l.length (Lib.bitLen l.length) true true).toList.map (·.1) := by
  unfold sortF
  rw [dif_pos h]
theorem sortF_holds (hO : Sort.SWO (Proofs.ltOf cf)) (h : ∀ x ∈ l, Q x) : (sortF cf l).Perm l ∧ (∀ (i j : Nat) (hi : i < j) (hj : j < (sortF cf l).length) (q1 : Q (sortF cf l)[i]) (q2 : Q (sortF cf l)[j]), ¬ cf ⟨(sortF cf l)[j], q2⟩ ⟨(sortF cf l)[i], q1⟩ < 0) := by
  have hs : (l.attachWith Q h).toArray.size = l.length := by simp
  have hq := Sort.pdq_sorts (Proofs.ltOf cf) hO (l.attachWith Q h).toArray 0 l.length (Lib.bitLen l.length) true true (Nat.zero_le _) (by rw [hs]; exact Nat.le_refl _) (Or.inl rfl)
  obtain ⟨⟨p1, p2, p3⟩, hsort⟩ := hq
  have e := sortF_eq (cf := cf) h
  generalize Sort.pdq (Proofs.ltOf cf) (l.attachWith Q h).toArray 0 l.length (Lib.bitLen l.length) true true = r at *
  have hrs : r.size = l.length := by rw [p1, hs]
  have xx : ∀ (A : Array { x : α // Q x }) (n : Nat), A.size = n → A.extract 0 n = A := fun A n hn => by subst hn; simp
  have x1 := xx r l.length hrs
  have x2 := xx (l.attachWith Q h).toArray l.length hs
  rw [x1, x2] at p3
  refine ⟨?_, fun i j hi hj q1 q2 hlt => ?_⟩
  · rw [e]
    have := p3.map (fun x : { x : α // Q x } => x.1)
    have e2 : ((l.attachWith Q h).toArray.toList.map fun x : { x : α // Q x } => x.1) = l := by simp
    rw [e2] at this
    exact this
  · have hj' : j < r.size := by rw [e] at hj; simpa using hj
    have hi' : i < r.size := by omega
    have := hsort i j (Nat.zero_le _) hi (by omega)
    rw [getElem!_pos r j hj', getElem!_pos r i hi'] at this
    unfold Proofs.ltOf at this
    have g : ∀ (k : Nat) (hk : k < (sortF cf l).length) (hk' : k < r.size), (sortF cf l)[k] = r[k].1 := fun k hk hk' => by simp [e]
    have ej : (⟨(sortF cf l)[j], q2⟩ : { x : α // Q x }) = r[j] := Subtype.ext (g j hj hj')
    have ei : (⟨(sortF cf l)[i], q1⟩ : { x : α // Q x }) = r[i] := Subtype.ext (g i (by omega) hi')
    rw [ej, ei] at hlt
    simp [hlt] at this
end

/-- slices.SortFunc of structs. -/
theorem sortF_spec {P : Program} {ρ : Shelf.Ren} (Ly : Proofs.SlLaysF0.n6 P ρ) {f g E : Nat} {α : Type} [Rep α] [Enc α] {Q : α → Prop} [Inhabited { x : α // Q x }] {cf : { x : α // Q x } → { x : α // Q x } → Int} (hf : ρ.f 6 = f) (hE : ρ.t 24 = E) (ok : FnOK P f) (okg : FnOK P g)
    {fds : Array Field} (hagg : P.underlying E = some (.struct fds)) (hT : Ty P E α) (hO : Sort.SWO (Proofs.ltOf cf))
    (hc : ∀ (x y : { x : α // Q x }) (W : World), Calls P g #[.agg (Enc.enc x.1).toArray, .agg (Enc.enc y.1).toArray] W fun e w' => e = .returned (.int .i64 (cf x y)) ∧ ∃ q os', w' = Go.Sort.grow (W.drewN q) os')
    {s : Value} {l : List α} (hl : (l.length : Int) < 4611686018427387904) (hq : ∀ x ∈ l, Q x) :
    FSpecO P f [isV s, cloV g []] [(s, rowV E l)] anyV [some (rowV E (sortF cf l))] := by
  refine ⟨ok, fun M D w vs hM ha hOw => ?_⟩
  match vs, ha with
  | [v, u], ⟨hv, ⟨caps, hu, hcaps⟩, _⟩ =>
    obtain ⟨rfl, _⟩ := rep_raw.1 hv
    obtain rfl : caps = [] := by
      cases caps with
      | nil => rfl
      | cons c cs => exact hcaps.elim
    subst hu
    have h0 := hOw.has 0 v (rowV E l) rfl
    obtain ⟨a, cap, rfl, h1, h2, h3⟩ := h0
    obtain ⟨hperm, _⟩ := sortF_holds (l := l) hO hq
    have hll : (sortF cf l).length = l.length := hperm.length_eq
    subst hf
    cases a with
    | none =>
      obtain ⟨h4, h5, h6⟩ := h3
      subst h4
      refine Calls.mono (Proofs.AnyF.slices_SortFunc_none Ly none cap _ w) ?_
      rintro e w' ⟨rfl, rfl⟩
      have hnil : sortF cf ([] : List α) = [] := List.length_eq_zero_iff.1 hll
      refine ⟨.tuple #[], M, D, rfl, Keeps.refl _ _, fun k h => .inl h, fun k h => .inl h, hM, trivial, ?_, ?_⟩
      · intro i c hc
        match i, hc with
        | 0, hc =>
          simp only [List.getElem?_cons_zero, Option.some.injEq] at hc
          subst hc
          rw [hnil]
          exact ⟨⟨none, cap, rfl, by simp, h2, rfl, h5, h6⟩, fun k hk => absurd hk (h6 k)⟩
      · intro i j c c' hi hj hne
        match i, j, hi, hj with
        | 0, 0, _, _ => omega
    | some ad =>
      obtain ⟨b, off, sp⟩ := ad
      obtain ⟨hs, hD, hMb, pre, cs, rest, hh, hp, he, hr⟩ := h3
      simp only at hs hD hMb hh hp
      subst hs
      obtain ⟨hcs, hin⟩ := (elems_enc l cs).1 he
      have hcl : cs.length = l.length * Rep.sz α := he.len
      have hcell : ∀ j, w.cell? ⟨b, j, none⟩ = (pre ++ cs ++ rest).toArray[j]? := fun j => cell_of_heap hh
      have hfz : ∀ j, w.frozen? ⟨b, j, none⟩ = false := fun j => by simp [World.frozen?, hh]
      have hblk : b < w.heap.size := hM b hMb
      have k0 : 0 < Rep.sz α := Rep.pos
      have hek : ∀ x : { x : α // Q x }, (Enc.enc x.1).length = Rep.sz α := fun x => Enc.len x.1
      have hds : (l.attachWith Q hq).toArray.size = l.length := by simp
      have fl0 : Go.Sort.flatK (fun x : { x : α // Q x } => Enc.enc x.1) (Rep.sz α) (l.attachWith Q hq).toArray = cs.toArray := by
        rw [flatK_eq hek k0, hcs]
        congr 1
        rw [show (l.attachWith Q hq).toArray.toList = l.attachWith Q hq from rfl]
        conv => rhs; rw [← List.attachWith_map_subtype_val (p := Q) (l := l) hq]
        rw [List.flatMap_map]
      obtain ⟨ti, hti, hsize⟩ := Option.map_eq_some_iff.1 hT.size
      have zE : ∀ w, (Go.sizeOf (ρ.t 24)).run P w = .ok (Rep.sz α) w := fun w => by rw [hE]; simp [sizeOf, typeInfo, hti, hsize, go_sem]
      have aE : ∀ w, (isAgg (ρ.t 24)).run P w = .ok true w := fun w => by rw [hE]; simp [isAgg, underlying, hagg, go_sem]
      have eg : ∀ args w, (callFunc g args).run P w = .ok (.enter g args) w := fun args w => run_callFunc okg args w
      have hcon := Proofs.AnyQ.slices_SortFunc_eq Ly (Rep.sz α) aE zE (fun x : { x : α // Q x } => Enc.enc x.1) hek (fun x v hv => Enc.one x.1 v hv) cf hO g #[] b off cap (l.attachWith Q hq).toArray w eg
        (fun m os dk _ x y => by rw [Array.append_empty]; exact hc x y _) (fun j hj => by
          rw [fl0] at hj ⊢
          refine ⟨?_, hfz _⟩
          have hj' : j < cs.length := by simpa using hj
          rw [hcell, List.getElem?_toArray, List.append_assoc, List.getElem?_append_right (by omega), List.getElem?_append_left (by omega), show off + j - pre.length = j by omega, List.getElem?_eq_getElem hj', getElem!_pos _ _ (by simpa using hj')]
          simp) hblk (by rw [hds]; omega)
      rw [hds] at hcon
      refine Calls.mono hcon ?_
      rintro e w' ⟨rfl, n, os, rfl⟩
      have hR := sortF_eq (cf := cf) hq
      have fl1 : Go.Sort.flatK (fun x : { x : α // Q x } => Enc.enc x.1) (Rep.sz α) (Sort.pdq (Proofs.ltOf cf) (l.attachWith Q hq).toArray 0 l.length (Lib.bitLen l.length) true true) = ((sortF cf l).flatMap Enc.enc).toArray := by
        rw [flatK_eq hek k0, hR, List.flatMap_map]
      have hfl : cs.length = ((sortF cf l).flatMap Enc.enc).length := by
        rw [hcs]
        exact (hperm.symm.flatMap_right _).length_eq
      have hw : Proofs.sortWorldK (fun x : { x : α // Q x } => Enc.enc x.1) (Rep.sz α) w b off n (Sort.pdq (Proofs.ltOf cf) (l.attachWith Q hq).toArray 0 l.length (Lib.bitLen l.length) true true) os = Go.Sort.grow (Go.Sort.putRow id (Go.Sort.ahead w n) b off ((sortF cf l).flatMap Enc.enc).toArray) os := by
        show Go.Sort.grow (Go.Sort.putRow id (Go.Sort.ahead w n) b off (Go.Sort.flatK _ _ _)) os = _
        rw [fl1]
      rw [hw]
      have hkeep : Keeps (DU D 1) w (Go.Sort.grow (Go.Sort.putRow id (Go.Sort.ahead w n) b off ((sortF cf l).flatMap Enc.enc).toArray) os) := by
        refine ⟨rfl, rfl, rfl, ?_, fun k hk hn => ?_⟩
        · simp [Go.Sort.grow, Go.Sort.putRow, Go.Sort.mapBlock, Go.Sort.ahead]
        · have hne : b ≠ k := fun e => hn ⟨0, by omega, (hD k).2 e.symm⟩
          simp only [Go.Sort.grow, Go.Sort.putRow, Go.Sort.mapBlock, Go.Sort.ahead]
          rw [Array.getElem?_append_left (by simpa using hk), Array.getElem?_modify, if_neg hne]
      have hhb : (Go.Sort.grow (Go.Sort.putRow id (Go.Sort.ahead w n) b off ((sortF cf l).flatMap Enc.enc).toArray) os).heap[b]? = some (.cells (pre ++ (sortF cf l).flatMap Enc.enc ++ rest).toArray E (0, 0)) := by
        simp only [Go.Sort.grow, Go.Sort.putRow, Go.Sort.mapBlock, Go.Sort.ahead]
        rw [Array.getElem?_append_left (by simpa using hblk), Array.getElem?_modify, if_pos rfl, hh, Option.map_some]
        simp only [Go.Sort.onCells]
        rw [putCells_id hp hfl]
      generalize Go.Sort.grow (Go.Sort.putRow id (Go.Sort.ahead w n) b off ((sortF cf l).flatMap Enc.enc).toArray) os = w' at hkeep hhb
      refine ⟨.tuple #[], M, D, rfl, hkeep, fun k h => .inl h, fun k h => .inl h, fun k h => Nat.lt_of_lt_of_le (hM k h) hkeep.size, trivial, ?_, ?_⟩
      · intro i c hc
        match i, hc with
        | 0, hc =>
          simp only [List.getElem?_cons_zero, Option.some.injEq] at hc
          subst hc
          exact ⟨⟨some ⟨b, off, none⟩, cap, by simp [hll], by rw [hll]; exact h1, h2, rfl, hD, hMb, pre, _, rest, hhb, hp, (elems_enc _ _).2 ⟨rfl, fun x hx => hin x (hperm.mem_iff.1 hx)⟩, by rw [hll]; exact hr⟩, fun k hk => .inl ⟨0, by simp, hk⟩⟩
      · intro i j c c' hi hj hne
        match i, j, hi, hj with
        | 0, 0, _, _ => omega
end Go.DB
