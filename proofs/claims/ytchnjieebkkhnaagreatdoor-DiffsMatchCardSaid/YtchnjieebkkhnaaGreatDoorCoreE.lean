/-
  Plain rules on the program's operations, code and memory (texts laid together).
-/
import Derived.Test.YtchnjieebkkhnaaGreatDoorCoreD
import Derived.Maps.RangeRun
/-
  Maps: what they stand for, and the operations on them.
-/
set_option linter.unusedVariables false
set_option linter.unusedSimpArgs false
namespace Go.DB
open Go Go.RowKit

/-- A map: what is at each key. -/
structure GMap (K V : Type) where
  f : K → Option V

namespace GMap
variable {K V : Type}
def nil : GMap K V := ⟨fun _ => none⟩
instance : Inhabited (GMap K V) := ⟨nil⟩
def set [DecidableEq K] (m : GMap K V) (k : K) (v : V) : GMap K V := ⟨fun x => if x = k then some v else m.f x⟩
def del [DecidableEq K] (m : GMap K V) (k : K) : GMap K V := ⟨fun x => if x = k then none else m.f x⟩
def getD (m : GMap K V) (k : K) (z : V) : V := (m.f k).getD z
def has (m : GMap K V) (k : K) : Bool := (m.f k).isSome
end GMap

/-- The entries of a map, in some order. -/
structure Lists {K V : Type} (m : GMap K V) (l : List (K × V)) : Prop where
  nodup : (l.map (·.1)).Nodup
  mem : ∀ k v, (k, v) ∈ l ↔ m.f k = some v

open Classical in
/-- How many entries a map has. -/
noncomputable def GMap.size {K V : Type} (m : GMap K V) : Int := if h : ∃ l, Lists m l then (h.choose.length : Int) else 0

theorem nodup_idx {α : Type} {l : List α} (h : l.Nodup) {i j : Nat} {a : α} (h1 : l[i]? = some a) (h2 : l[j]? = some a) : i = j := by
  obtain ⟨hi, e1⟩ := List.getElem?_eq_some_iff.1 h1
  obtain ⟨hj, e2⟩ := List.getElem?_eq_some_iff.1 h2
  have hp := List.pairwise_iff_getElem.1 h
  rcases Nat.lt_trichotomy i j with c | c | c
  · exact absurd (e1.trans e2.symm) (hp i j hi hj c)
  · exact c
  · exact absurd (e2.trans e1.symm) (hp j i hj hi c)
theorem nodup_of_map {α β : Type} {f : α → β} {l : List α} (h : (l.map f).Nodup) : l.Nodup := List.Pairwise.of_map f (fun a b hne e => hne (by rw [e])) h

section
variable {K V : Type} {m : GMap K V} {l l' : List (K × V)}
theorem Lists.perm (h : Lists m l) (h' : Lists m l') : l.Perm l' :=
  (List.perm_ext_iff_of_nodup (nodup_of_map h.nodup) (nodup_of_map h'.nodup)).2 fun ⟨k, v⟩ => (h.mem k v).trans (h'.mem k v).symm
theorem Lists.size (h : Lists m l) : m.size = l.length := by
  have hx : ∃ l, Lists m l := ⟨l, h⟩
  unfold GMap.size
  rw [dif_pos hx, (hx.choose_spec.perm h).length_eq]
theorem Lists.nil : Lists (GMap.nil : GMap K V) [] := ⟨List.nodup_nil, fun k v => by simp [GMap.nil]⟩
theorem Lists.of_perm (h : Lists m l) (hp : l.Perm l') : Lists m l' := ⟨(hp.map _).nodup_iff.1 h.nodup, fun k v => (hp.mem_iff.symm).trans (h.mem k v)⟩
theorem Lists.fst_ne {k : K} (h : Lists m l) (hn : ∀ x ∈ l, x.1 ≠ k) : m.f k = none := by
  cases hm : m.f k with
  | none => rfl
  | some v => exact absurd rfl (hn (k, v) ((h.mem k v).2 hm))
variable [DecidableEq K]
theorem Lists.push (h : Lists m l) {k : K} {v : V} (hn : ∀ x ∈ l, x.1 ≠ k) : Lists (m.set k v) (l ++ [(k, v)]) := by
  refine ⟨?_, fun k' v' => ?_⟩
  · rw [List.map_append, List.nodup_append]
    refine ⟨h.nodup, by simp, fun a ha b hb => ?_⟩
    obtain ⟨x, hx, rfl⟩ := List.mem_map.1 ha
    simp at hb; subst hb; exact hn x hx
  · simp only [List.mem_append, List.mem_singleton, GMap.set]
    by_cases hk : k' = k
    · subst hk
      rw [if_pos rfl]
      constructor
      · rintro (h1 | h1)
        · exact absurd rfl (hn _ h1)
        · simp at h1; rw [h1]
      · intro h1; simp at h1; right; rw [h1]
    · rw [if_neg hk, ← h.mem k' v']
      constructor
      · rintro (h1 | h1)
        · exact h1
        · simp at h1; exact absurd h1.1 hk
      · exact .inl
theorem Lists.put (h : Lists m l) {j : Nat} {x : K × V} {v : V} (hj : l[j]? = some x) : Lists (m.set x.1 v) (l.set j (x.1, v)) := by
  have hlt : j < l.length := (List.getElem?_eq_some_iff.1 hj).1
  have hx : l[j] = x := (List.getElem?_eq_some_iff.1 hj).2
  have hmap : (l.set j (x.1, v)).map (·.1) = l.map (·.1) := by
    rw [List.map_set]
    have : (l.map (·.1))[j]? = some x.1 := by rw [List.getElem?_map, hj]; rfl
    apply List.ext_getElem?
    intro i
    by_cases hij : j = i
    · subst hij; rw [List.getElem?_set_self (by simpa using hlt), this]
    · rw [List.getElem?_set_ne hij]
  refine ⟨by rw [hmap]; exact h.nodup, fun k' v' => ?_⟩
  have hin : x ∈ l := List.mem_of_getElem? hj
  simp only [GMap.set]
  by_cases hk : k' = x.1
  · subst hk
    rw [if_pos rfl]
    constructor
    · intro h1
      obtain ⟨i, hi⟩ := List.getElem?_of_mem h1
      by_cases hij : j = i
      · subst hij
        rw [List.getElem?_set_self hlt] at hi; simp at hi; rw [hi]
      · rw [List.getElem?_set_ne hij] at hi
        have h2 : (l.map (·.1))[i]? = some x.1 := by rw [List.getElem?_map, hi]; rfl
        have h3 : (l.map (·.1))[j]? = some x.1 := by rw [List.getElem?_map, hj]; rfl
        exact absurd (nodup_idx h.nodup h3 h2) hij
    · intro h1; simp at h1; subst h1
      exact List.mem_of_getElem? (List.getElem?_set_self hlt)
  · rw [if_neg hk, ← h.mem k' v']
    constructor
    · intro h1
      rcases List.mem_or_eq_of_mem_set h1 with h1 | h1
      · exact h1
      · simp at h1; exact absurd h1.1 hk
    · intro h1
      obtain ⟨i, hi⟩ := List.getElem?_of_mem h1
      refine List.mem_of_getElem? (i := i) ?_
      rw [List.getElem?_set_ne]
      · exact hi
      · intro e; subst e; rw [hj] at hi; simp at hi; subst hi; exact hk rfl
theorem Lists.drop (h : Lists m l) {j : Nat} {x : K × V} (hj : l[j]? = some x) : Lists (m.del x.1) (l.eraseIdx j) := by
  have hlt : j < l.length := (List.getElem?_eq_some_iff.1 hj).1
  refine ⟨h.nodup.sublist ((List.eraseIdx_sublist _ _).map _), fun k' v' => ?_⟩
  simp only [GMap.del]
  constructor
  · intro h1
    obtain ⟨i, hne, hi⟩ := List.mem_eraseIdx_iff_getElem?.1 h1
    have hk : k' ≠ x.1 := by
      intro e
      have h2 : (l.map (·.1))[i]? = some x.1 := by rw [List.getElem?_map, hi, ← e]; rfl
      have h3 : (l.map (·.1))[j]? = some x.1 := by rw [List.getElem?_map, hj]; rfl
      exact hne (nodup_idx h.nodup h2 h3)
    rw [if_neg hk, ← h.mem]; exact List.mem_of_getElem? hi
  · intro h1
    by_cases hk : k' = x.1
    · rw [if_pos hk] at h1; cases h1
    · rw [if_neg hk, ← h.mem] at h1
      obtain ⟨i, hi⟩ := List.getElem?_of_mem h1
      refine List.mem_eraseIdx_iff_getElem?.2 ⟨i, fun e => hk ?_, hi⟩
      subst e; rw [hj] at hi; simp at hi; rw [hi]
end

/-- What can be a key: its type, and that keys are told apart. -/
class MKey (K : Type) [Rep K] [DecidableEq K] where
  desc : TypeDesc
  same : ∀ {M M' w w'} {k1 k2 : K} {v1 v2 : Value}, (rep k1).p M v1 w → (rep k2).p M' v2 w' → Instr.sameNow desc v1 v2 = some (decide (k1 = k2))
  check : ∀ (P : Program) (T : TypeId) (e : Bool) (v : Value) (w : World), P.underlying T = some desc → (Instr.checkKey e 10000 T v).run P w = .ok () w
  bits : ∀ {M M' w w'} {k : K} {v1 v2 : Value}, (rep k).p M v1 w → (rep k).p M' v2 w' → Instr.sameBits 10000 v1 v2 = true
instance : MKey Int where
  desc := .int .i64
  same := fun h1 h2 => by
    obtain ⟨rfl, _⟩ := rep_int.1 h1
    obtain ⟨rfl, _⟩ := rep_int.1 h2
    simp only [Instr.sameNow, if_true]
    congr 1
  check := fun P T e v w hT => by
    unfold Instr.checkKey
    simp [underlying, hT, go_sem]
  bits := fun h1 h2 => by
    obtain ⟨rfl, _⟩ := rep_int.1 h1
    obtain ⟨rfl, _⟩ := rep_int.1 h2
    unfold Instr.sameBits
    simp
instance : MKey Str where
  desc := .string
  same := fun {M M' w w' k1 k2 v1 v2} h1 h2 => by
    obtain ⟨rfl, _⟩ := rep_str.1 h1
    obtain ⟨rfl, _⟩ := rep_str.1 h2
    simp only [Instr.sameNow, strV]
    congr 1
    rw [Bool.eq_iff_iff, Go.MapKept.bytes_beq, decide_eq_true_eq]
    cases k1; cases k2; simp
  check := fun P T e v w hT => by
    unfold Instr.checkKey
    simp [underlying, hT, go_sem]
  bits := fun h1 h2 => by
    obtain ⟨rfl, _⟩ := rep_str.1 h1
    obtain ⟨rfl, _⟩ := rep_str.1 h2
    unfold Instr.sameBits
    exact (Go.MapKept.bytes_beq _ _).2 rfl

section
variable {K V : Type} [Rep K] [Rep V]

/-- The entries in memory stand for l. -/
def Ents (M : MSet) (w : World) (es : List MapEntry) (l : List (K × V)) : Prop :=
  es.length = l.length ∧ ∀ (j : Nat) (e : MapEntry) (x : K × V), es[j]? = some e → l[j]? = some x → (rep x.1).p M e.key w ∧ (rep x.2).p M e.val w

theorem Ents.law {M M' : MSet} {w w' : World} {es : List MapEntry} {l : List (K × V)} (hk : Keeps M w w') (hm : ∀ k, M' k → M k ∨ w.heap.size ≤ k) (h : Ents M w es l) : Ents M' w' es l :=
  ⟨h.1, fun j e x h1 h2 => ⟨(rep x.1).law M M' _ w w' hk hm (h.2 j e x h1 h2).1, (rep x.2).law M M' _ w w' hk hm (h.2 j e x h1 h2).2⟩⟩
theorem Ents.nil {M : MSet} {w : World} : Ents M w [] ([] : List (K × V)) := ⟨rfl, fun j e x h => by simp at h⟩
theorem Ents.at {M : MSet} {w : World} {es : List MapEntry} {l : List (K × V)} (h : Ents M w es l) {j : Nat} {e : MapEntry} (hj : es[j]? = some e) : ∃ x, l[j]? = some x ∧ (rep x.1).p M e.key w ∧ (rep x.2).p M e.val w := by
  have hlt := (List.getElem?_eq_some_iff.1 hj).1
  have : j < l.length := by rw [← h.1]; exact hlt
  exact ⟨l[j], List.getElem?_eq_getElem this, h.2 j e _ hj (List.getElem?_eq_getElem this)⟩
theorem Ents.push {M : MSet} {w : World} {es : List MapEntry} {l : List (K × V)} (h : Ents M w es l) {e : MapEntry} {x : K × V} (h1 : (rep x.1).p M e.key w) (h2 : (rep x.2).p M e.val w) : Ents M w (es ++ [e]) (l ++ [x]) := by
  refine ⟨by simp [h.1], fun j e' x' hj hx => ?_⟩
  by_cases hlt : j < es.length
  · rw [List.getElem?_append_left hlt] at hj
    rw [List.getElem?_append_left (by rw [← h.1]; exact hlt)] at hx
    exact h.2 j e' x' hj hx
  · rw [List.getElem?_append_right (by omega)] at hj
    rw [List.getElem?_append_right (by rw [← h.1]; omega)] at hx
    obtain ⟨k, hk⟩ : ∃ k, j - es.length = k := ⟨_, rfl⟩
    rw [← h.1, hk] at hx
    rw [hk] at hj
    cases k with
    | zero => simp at hj hx; subst hj hx; exact ⟨h1, h2⟩
    | succ k => simp at hj
theorem Ents.set {M : MSet} {w : World} {es : List MapEntry} {l : List (K × V)} (h : Ents M w es l) {j : Nat} {e : MapEntry} {x : K × V} (h1 : (rep x.1).p M e.key w) (h2 : (rep x.2).p M e.val w) : Ents M w (es.set j e) (l.set j x) := by
  refine ⟨by simp [h.1], fun i e' x' hj hx => ?_⟩
  by_cases hij : j = i
  · subst hij
    have hlt : j < es.length := by
      rcases Nat.lt_or_ge j es.length with h' | h'
      · exact h'
      · rw [List.getElem?_eq_none (by simpa using h')] at hj; cases hj
    rw [List.getElem?_set_self hlt] at hj
    rw [List.getElem?_set_self (by rw [← h.1]; exact hlt)] at hx
    simp at hj hx; subst hj hx; exact ⟨h1, h2⟩
  · rw [List.getElem?_set_ne hij] at hj
    rw [List.getElem?_set_ne hij] at hx
    exact h.2 i e' x' hj hx
theorem Ents.erase {M : MSet} {w : World} {es : List MapEntry} {l : List (K × V)} (h : Ents M w es l) (j : Nat) : Ents M w (es.eraseIdx j) (l.eraseIdx j) := by
  refine ⟨by rw [List.length_eraseIdx, List.length_eraseIdx, h.1], fun i e' x' hj hx => ?_⟩
  rw [List.getElem?_eraseIdx] at hj hx
  by_cases hij : i < j
  · rw [if_pos hij] at hj hx; exact h.2 i e' x' hj hx
  · rw [if_neg hij] at hj hx; exact h.2 _ e' x' hj hx

theorem findNow_ents [DecidableEq K] [MKey K] {M M' : MSet} {w w' : World} {k : K} {v : Value} (hv : (rep k).p M' v w') : ∀ (es : List MapEntry) (l : List (K × V)) (i : Nat), Ents M w es l →
    ∃ r, Instr.findNow (MKey.desc K) v es i = some r ∧ ((r = none ∧ ∀ x ∈ l, x.1 ≠ k) ∨ ∃ j e x, r = some (i + j, e.val) ∧ es[j]? = some e ∧ l[j]? = some x ∧ x.1 = k)
  | [], l, i, h => by
    have : l = [] := List.length_eq_zero_iff.1 h.1.symm
    subst this
    exact ⟨none, rfl, .inl ⟨rfl, by simp⟩⟩
  | e :: es, [], i, h => by have := h.1; simp at this
  | e :: es, x :: l, i, h => by
    have h0 := h.2 0 e x rfl rfl
    have hr : Ents M w es l := ⟨by have := h.1; simpa using this, fun j e' x' h1 h2 => h.2 (j + 1) e' x' (by simpa using h1) (by simpa using h2)⟩
    have hs := MKey.same hv h0.1
    simp only [Instr.findNow, hs]
    by_cases hk : k = x.1
    · rw [decide_eq_true hk]
      exact ⟨_, rfl, .inr ⟨0, e, x, rfl, rfl, rfl, hk.symm⟩⟩
    · rw [decide_eq_false hk]
      obtain ⟨r, h1, h2⟩ := findNow_ents hv es l (i + 1) hr
      refine ⟨r, h1, ?_⟩
      rcases h2 with ⟨h2, h3⟩ | ⟨j, e', x', h2, h3, h4, h5⟩
      · exact .inl ⟨h2, fun y hy => by
          rcases List.mem_cons.1 hy with rfl | hy
          · exact fun e => hk e.symm
          · exact h3 y hy⟩
      · exact .inr ⟨j + 1, e', x', by rw [h2]; congr 2; omega, by simpa using h3, by simpa using h4, h5⟩

theorem run_findKey [DecidableEq K] [MKey K] {P : Program} {T : Nat} {M M' : MSet} {w w' w0 : World} {k : K} {v : Value} (hT : P.underlying T = some (MKey.desc K)) (hv : (rep k).p M' v w') {es : Array MapEntry} {l : List (K × V)} (h : Ents M w es.toList l) :
    ∃ r, (Instr.findKey T v es.toList).run P w0 = .ok r w0 ∧ ((r = none ∧ ∀ x ∈ l, x.1 ≠ k) ∨ ∃ j e x, r = some (j, e.val) ∧ es.toList[j]? = some e ∧ l[j]? = some x ∧ x.1 = k) := by
  obtain ⟨r, h1, h2⟩ := findNow_ents hv es.toList l 0 h
  refine ⟨r, ?_, by simpa using h2⟩
  have hun : (underlying T).run P w0 = .ok (MKey.desc K) w0 := by simp [underlying, hT, go_sem]
  simp only [Instr.findKey, Sem.run_bind, hun, Result.andThen, h1, Sem.run_pure]

/-- What a map's block holds. -/
structure MapIs (M : MSet) (w : World) (m : GMap K V) (es : Array MapEntry) (clock : Nat) (l : List (K × V)) : Prop where
  ents : Ents M w es.toList l
  lists : Lists m l
  born : (es.toList.map (·.born)).Nodup
  low : ∀ e ∈ es.toList, e.born < clock

theorem MapIs.law {M M' : MSet} {w w' : World} {m : GMap K V} {es : Array MapEntry} {clock : Nat} {l : List (K × V)} (hk : Keeps M w w') (hm : ∀ k, M' k → M k ∨ w.heap.size ≤ k) (h : MapIs M w m es clock l) : MapIs M' w' m es clock l :=
  ⟨h.ents.law hk hm, h.lists, h.born, h.low⟩

/-- Maps that nobody writes. -/
instance : Rep (GMap K V) where
  sz := 1
  agg := false
  cells := fun M m cs w => ∃ v, cs = [v] ∧ ((v = .map none ∧ m = GMap.nil) ∨ ∃ b es clock l, v = .map (some b) ∧ ¬ M b ∧ b < w.heap.size ∧ w.heap[b]? = some (.map es clock) ∧ MapIs M w m es clock l)
  len := fun ⟨v, h, _⟩ => by rw [h]; rfl
  pos := by decide
  flat := fun ⟨v, h, hv⟩ => by
    subst h
    rcases hv with ⟨rfl, _⟩ | ⟨b, es, clock, l, rfl, _⟩ <;> rfl
  plain := fun ⟨v, h, hv⟩ c hc => by
    subst h; simp at hc; subst hc
    rcases hv with ⟨rfl, _⟩ | ⟨b, es, clock, l, rfl, _⟩ <;> rfl
  law := fun {M M' x cs w w'} hk hm ⟨v, h, hv⟩ => ⟨v, h, by
    rcases hv with hv | ⟨b, es, clock, l, h1, h2, h3, h4, h5⟩
    · exact .inl hv
    · exact .inr ⟨b, es, clock, l, h1, fun hb => (hm b hb).elim h2 (by omega), Nat.lt_of_lt_of_le h3 hk.size, by rw [hk.block b h3 h2]; exact h4, h5.law hk hm⟩⟩
theorem rep_map {m : GMap K V} {M : MSet} {v : Value} {w : World} : (rep m).p M v w ↔ (v = .map none ∧ m = GMap.nil) ∨ ∃ b es clock l, v = .map (some b) ∧ ¬ M b ∧ b < w.heap.size ∧ w.heap[b]? = some (.map es clock) ∧ MapIs M w m es clock l := by
  constructor
  · rintro ⟨cs, ⟨v', h, hv⟩, e⟩
    subst h
    have : v = v' := e
    subst this; exact hv
  · intro h; exact ⟨[v], ⟨v, rfl, h⟩, rfl⟩
instance : Fits (GMap K V) := ⟨fun _ => True⟩
instance : FitsRep (GMap K V) := ⟨fun _ => trivial⟩
theorem map_zero {M : MSet} {w : World} : Rep.cells M (GMap.nil : GMap K V) [.map none] w := ⟨_, rfl, .inl ⟨rfl, rfl⟩⟩

/-- A map of one's own. -/
def mapV (m : GMap K V) : CPred where
  p := fun M D v w => ∃ b es clock l, v = .map (some b) ∧ (∀ k, D k ↔ k = b) ∧ M b ∧ w.heap[b]? = some (.map es clock) ∧ MapIs M w m es clock l
  inM := fun M D v w ⟨b, _, _, _, _, hD, hM, _⟩ k hk => (hD k).1 hk ▸ hM
  law := fun M M' D v w w' hk hm hown ⟨b, es, clock, l, hv, hD, hM, hh, h⟩ => by
    obtain ⟨h1, h2⟩ := hown b ((hD b).2 rfl)
    exact ⟨b, es, clock, l, hv, hD, h1, by rw [h2]; exact hh, h.law hk hm⟩
/-- The same, where its entries are told. -/
def mapP (b : Nat) (es : Array MapEntry) (clock : Nat) (l : List (K × V)) (m : GMap K V) : CPred where
  p := fun M D v w => v = .map (some b) ∧ (∀ k, D k ↔ k = b) ∧ M b ∧ w.heap[b]? = some (.map es clock) ∧ MapIs M w m es clock l
  inM := fun M D v w ⟨_, hD, hM, _⟩ k hk => (hD k).1 hk ▸ hM
  law := fun M M' D v w w' hk hm hown ⟨hv, hD, hM, hh, h⟩ => by
    obtain ⟨h1, h2⟩ := hown b ((hD b).2 rfl)
    exact ⟨hv, hD, h1, by rw [h2]; exact hh, h.law hk hm⟩
theorem mapV_rep {m : GMap K V} {M D : MSet} {w : World} {s : Value} (h : (mapV m).p M D s w) (hms : ∀ k, M k → k < w.heap.size) : (rep m).p (fun k => M k ∧ ¬ D k) s w := by
  obtain ⟨b, es, clock, l, hv, hD, hM, hh, h⟩ := h
  exact rep_map.2 (.inr ⟨b, es, clock, l, hv, fun hb => hb.2 ((hD b).2 rfl), hms b hM, hh, h.law (Keeps.refl _ _) (fun k hk => .inl hk.1)⟩)
end
end Go.DB

/-
  Maps: the operations.
-/
set_option linter.unusedVariables false
set_option linter.unusedSimpArgs false
namespace Go.DB
open Go Go.RowKit

/-- What a map's type is. -/
def MapOf (P : Program) (T kt et : TypeId) (d : TypeDesc) : Prop := P.underlying T = some (.map kt et) ∧ P.underlying kt = some d

section
variable {P : Program} {K V : Type} [Rep K] [DecidableEq K] [MKey K] [Rep V] {T kt et : TypeId} {m : GMap K V} {k : K} {x z : V}
theorem run_und {w : World} {d : TypeDesc} (h : P.underlying T = some d) : (underlying T).run P w = .ok d w := by simp [underlying, h, go_sem]

theorem run_lookupAt {M M' : MSet} {w w' : World} {b : Nat} {es : Array MapEntry} {clock : Nat} {l : List (K × V)} {kv : Value} (hT : MapOf P T kt et (MKey.desc K)) (hz : ZeroOf P et z) (hv : (rep k).p M' kv w')
    (hb : w.heap[b]? = some (.map es clock)) (h : MapIs M w m es clock l) (c : Bool) :
    ∃ u, (rep (m.getD k z)).p M u w ∧ (Instr.lookup T (.map (some b)) kv c).run P w = .ok (if c then .tuple #[u, .bool (m.has k)] else u) w := by
  obtain ⟨zs, hz1, hz2⟩ := run_zeroOf hz w
  obtain ⟨r, h1, h2⟩ := run_findKey (w0 := w) hT.2 hv h.ents
  rcases h2 with ⟨rfl, h3⟩ | ⟨j, e, y, rfl, h3, h4, h5⟩
  · have hn := h.lists.fst_ne h3
    have e : m.getD k z = z := by simp [GMap.getD, hn]
    refine ⟨mkv (Rep.agg V) zs, by rw [e]; exact ⟨zs, hz2 M w, rfl⟩, ?_⟩
    simp only [GMap.has, hn, Option.isSome_none]
    simp only [Instr.lookup, Sem.run_bind, run_und hT.1, Go.MapKept.run_getObj_map hb, Sem.run_pure, MKey.check P kt _ kv w hT.2, h1, hz1, Result.andThen]
  · have hy := h.lists
    have hm : m.f k = some y.2 := by rw [← h5]; exact (hy.mem y.1 y.2).1 (List.mem_of_getElem? h4)
    have hval : (rep (m.getD k z)).p M e.val w := by
      have := (h.ents.2 j e y h3 h4).2
      simpa only [GMap.getD, hm, Option.getD_some] using this
    refine ⟨_, hval, ?_⟩
    simp only [GMap.has, hm, Option.isSome_some]
    simp only [Instr.lookup, Sem.run_bind, run_und hT.1, Go.MapKept.run_getObj_map hb, Sem.run_pure, MKey.check P kt _ kv w hT.2, h1, Result.andThen]
theorem run_lookupNil {M' : MSet} {w w' : World} {kv : Value} (hT : MapOf P T kt et (MKey.desc K)) (hz : ZeroOf P et z) (hv : (rep k).p M' kv w') (c : Bool) :
    ∃ u, (∀ M, (rep ((GMap.nil : GMap K V).getD k z)).p M u w) ∧ (Instr.lookup T (.map none) kv c).run P w = .ok (if c then .tuple #[u, .bool ((GMap.nil : GMap K V).has k)] else u) w := by
  obtain ⟨zs, hz1, hz2⟩ := run_zeroOf hz w
  obtain ⟨r, h1, h2⟩ := run_findKey (V := V) (w0 := w) (M := NoM) (w := w) (es := #[]) (l := []) hT.2 hv Ents.nil
  have hr : r = none := by
    rcases h2 with ⟨h, _⟩ | ⟨j, e, y, _, h3, _⟩
    · exact h
    · simp at h3
  subst hr
  refine ⟨_, fun M => ⟨zs, hz2 M w, rfl⟩, ?_⟩
  simp only [Instr.lookup, Sem.run_bind, run_und hT.1, Sem.run_pure, MKey.check P kt _ kv w hT.2, h1, hz1, Result.andThen, GMap.has, GMap.nil, Option.isSome_none]

/-- The block after a key is set. -/
theorem run_updateAt {M : MSet} {w : World} {b : Nat} {es : Array MapEntry} {clock : Nat} {l : List (K × V)} {kv xv : Value} (hT : MapOf P T kt et (MKey.desc K)) (hv : (rep k).p M kv w) (hx : (rep x).p M xv w)
    (hb : w.heap[b]? = some (.map es clock)) (h : MapIs M w m es clock l) :
    ∃ es' clock' l', (Instr.mapUpdate T (.map (some b)) kv xv).run P w = .ok () { w with heap := w.heap.setIfInBounds b (.map es' clock') } ∧ MapIs M w (m.set k x) es' clock' l' := by
  obtain ⟨r, h1, h2⟩ := run_findKey (w0 := w) hT.2 hv h.ents
  rcases h2 with ⟨rfl, h3⟩ | ⟨j, e, y, rfl, h3, h4, h5⟩
  · refine ⟨es.push { key := kv, val := xv, born := clock }, clock + 1, l ++ [(k, x)], ?_, ⟨?_, h.lists.push h3, ?_, ?_⟩⟩
    · simp only [Instr.mapUpdate, Sem.run_bind, run_und hT.1, Go.MapKept.run_getObj_map hb, Sem.run_pure, MKey.check P kt _ kv w hT.2, h1, Result.andThen, Go.MapKept.run_setObj_map _ hb]
    · rw [Array.toList_push]; exact h.ents.push (x := (k, x)) hv hx
    · rw [Array.toList_push, List.map_append, List.nodup_append]
      refine ⟨h.born, by simp, fun a ha b' hb' => ?_⟩
      obtain ⟨e, he, rfl⟩ := List.mem_map.1 ha
      simp at hb'; subst hb'
      have := h.low e he
      omega
    · intro e he
      rw [Array.toList_push] at he
      rcases List.mem_append.1 he with he | he
      · have := h.low e he; omega
      · simp at he; subst he; exact Nat.lt_succ_self _
  · have hj : es[j]? = some e := by rw [← Array.getElem?_toList]; exact h3
    have hset : (es.modify j fun e => { e with key := kv, val := xv }).toList = es.toList.set j { e with key := kv, val := xv } := by
      rw [Array.toList_modify]
      apply List.ext_getElem?
      intro i
      rw [List.getElem?_modify, List.getElem?_set]
      by_cases hij : j = i
      · subst hij
        have hlt := (List.getElem?_eq_some_iff.1 h3).1
        simp [h3]
        simpa using hlt
      · simp [hij]
    have hko := (h.ents.2 j e y h3 h4).1
    rw [h5] at hko
    refine ⟨es.modify j (fun e => { e with key := kv, val := xv }), clock, l.set j (k, x), ?_, ⟨?_, ?_, ?_, ?_⟩⟩
    · simp only [Instr.mapUpdate, Sem.run_bind, run_und hT.1, Go.MapKept.run_getObj_map hb, Sem.run_pure, MKey.check P kt _ kv w hT.2, h1, Result.andThen, hj, Option.map_some, Option.getD_some, Instr.keyThatStays, MKey.bits hko hv, if_true, Go.MapKept.run_setObj_map _ hb]
    · rw [hset]; exact h.ents.set (x := (k, x)) hv hx
    · rw [← h5]; exact h.lists.put h4
    · rw [hset, List.map_set]
      have : (es.toList.map (·.born)).set j e.born = es.toList.map (·.born) := by
        apply List.ext_getElem?
        intro i
        by_cases hij : j = i
        · subst hij
          rw [List.getElem?_set_self (by simpa using (List.getElem?_eq_some_iff.1 h3).1), List.getElem?_map, h3]; rfl
        · rw [List.getElem?_set_ne hij]
      rw [this]; exact h.born
    · intro e' he'
      rw [hset] at he'
      rcases List.mem_or_eq_of_mem_set he' with he' | rfl
      · exact h.low e' he'
      · exact h.low e (List.mem_of_getElem? h3)
theorem run_deleteAt {M : MSet} {w : World} {b : Nat} {es : Array MapEntry} {clock : Nat} {l : List (K × V)} {kv : Value} (hT : MapOf P T kt et (MKey.desc K)) (hv : (rep k).p M kv w)
    (hb : w.heap[b]? = some (.map es clock)) (h : MapIs M w m es clock l) (ty : TypeId) {ts : Array TypeId} (hts : ts[0]? = some T) :
    ∃ es' l', (Builtin.delete_ ts ty #[.map (some b), kv]).run P w = .ok (.tuple #[]) { w with heap := w.heap.setIfInBounds b (.map es' clock) } ∧ MapIs M w (m.del k) es' clock l' := by
  obtain ⟨r, h1, h2⟩ := run_findKey (w0 := w) hT.2 hv h.ents
  rcases h2 with ⟨rfl, h3⟩ | ⟨j, e, y, rfl, h3, h4, h5⟩
  · refine ⟨es, l, ?_, ?_⟩
    · simp only [Builtin.delete_, hts, List.getElem?_toArray, List.getElem?_cons_zero, List.getElem?_cons_succ, Sem.run_bind, run_und hT.1, Go.MapKept.run_getObj_map hb, Sem.run_pure, MKey.check P kt _ kv w hT.2, h1, Result.andThen, Go.MapKept.run_setObj_map _ hb]
    · have : m.del k = m := by
        cases m with | mk f =>
        simp only [GMap.del, GMap.mk.injEq]
        funext y
        by_cases hy : y = k
        · subst hy; rw [if_pos rfl]; exact (h.lists.fst_ne h3).symm
        · rw [if_neg hy]
      rw [this]; exact h
  · have hjl : j < es.size := by
      have := (List.getElem?_eq_some_iff.1 h3).1
      simpa using this
    have hset : (es.eraseIdxIfInBounds j).toList = es.toList.eraseIdx j := by
      unfold Array.eraseIdxIfInBounds
      rw [dif_pos hjl]; simp
    refine ⟨es.eraseIdxIfInBounds j, l.eraseIdx j, ?_, ⟨?_, ?_, ?_, ?_⟩⟩
    · simp only [Builtin.delete_, hts, List.getElem?_toArray, List.getElem?_cons_zero, List.getElem?_cons_succ, Sem.run_bind, run_und hT.1, Go.MapKept.run_getObj_map hb, Sem.run_pure, MKey.check P kt _ kv w hT.2, h1, Result.andThen, Go.MapKept.run_setObj_map _ hb]
    · rw [hset]; exact h.ents.erase j
    · rw [← h5]; exact h.lists.drop h4
    · rw [hset]; exact h.born.sublist ((List.eraseIdx_sublist _ _).map _)
    · intro e' he'
      rw [hset] at he'
      exact h.low e' ((List.eraseIdx_sublist _ _).subset he')
end

section
variable {P : Program} {ops : Array Oper} {fs : Nat} {L : Slots} {B : Owns} {G : Prop}
variable {ty : TypeId} {pos : String} {after : Array Edge} {g : Option (Nat × Bool)} {xr : List Nat} {d : Option Tmp}
variable {K V : Type} [Rep K] [DecidableEq K] [MKey K] [Rep V] {T kt et : TypeId} {m : GMap K V} {k : K} {z : V}

theorem tup2_of {α β : Type} [Rep α] [Rep β] {r : α × β} {M : MSet} {w : World} {u v : Value} (h1 : (rep r.1).p M u w) (h2 : (rep r.2).p M v w) : (tup2 r).p M (.tuple #[u, v]) w :=
  ⟨[u, v], rfl, rfl, fun i S y hi hy => by
    match i with
    | 0 => simp at hi hy; subst hi hy; exact h1
    | 1 => simp at hi hy; subst hi hy; exact h2
    | i + 2 => simp at hi⟩

theorem StepOK.lookup {x y : Operand} (hg : Guard ops g L G) (hT : MapOf P T kt et (MKey.desc K)) (hz : ZeroOf P et z) (hx : Opd L G x (rep m)) (hy : Opd L G y (rep k)) :
    StepOK P ops fs ⟨d, .lookup T x y false, ty, pos, after, g⟩ L B (xr, []) ⟨G, rep (m.getD k z)⟩ [] :=
  .pure hg fun M a w _ hs hG => by
    have h1 := rep_map.1 (hx.get hs (fun t ht => looksAt_op (by simp [Op.operands, ht])) hG)
    have h2 := hy.get hs (fun t ht => looksAt_op (by simp [Op.operands, ht])) hG
    rcases h1 with ⟨hv, rfl⟩ | ⟨b, es, clock, l, hv, hM, hb, hh, hi⟩
    · obtain ⟨u, hu, hr⟩ := run_lookupNil (V := V) (w := w) hT hz h2 false
      refine ⟨u, ?_, hu M⟩
      simp only [execOp, hv]; rw [Sem.run_bind, hr]; rfl
    · obtain ⟨u, hu, hr⟩ := run_lookupAt hT hz h2 hh hi false
      refine ⟨u, ?_, hu⟩
      simp only [execOp, hv]; rw [Sem.run_bind, hr]; rfl
theorem StepOK.lookupOk {x y : Operand} (hg : Guard ops g L G) (hT : MapOf P T kt et (MKey.desc K)) (hz : ZeroOf P et z) (hx : Opd L G x (rep m)) (hy : Opd L G y (rep k)) :
    StepOK P ops fs ⟨d, .lookup T x y true, ty, pos, after, g⟩ L B (xr, []) ⟨G, tup2 (m.getD k z, m.has k)⟩ [] :=
  .pure hg fun M a w _ hs hG => by
    have h1 := rep_map.1 (hx.get hs (fun t ht => looksAt_op (by simp [Op.operands, ht])) hG)
    have h2 := hy.get hs (fun t ht => looksAt_op (by simp [Op.operands, ht])) hG
    rcases h1 with ⟨hv, rfl⟩ | ⟨b, es, clock, l, hv, hM, hb, hh, hi⟩
    · obtain ⟨u, hu, hr⟩ := run_lookupNil (V := V) (w := w) hT hz h2 true
      refine ⟨_, ?_, tup2_of (hu M) (rep_bool.2 rfl)⟩
      simp only [execOp, hv]; rw [Sem.run_bind, hr]; rfl
    · obtain ⟨u, hu, hr⟩ := run_lookupAt hT hz h2 hh hi true
      refine ⟨_, ?_, tup2_of hu (rep_bool.2 rfl)⟩
      simp only [execOp, hv]; rw [Sem.run_bind, hr]; rfl
/-- Memory that holds a map. -/
def OwnMap (C : CPred) (m : GMap K V) : Prop := ∀ M D v w, C.p M D v w → (mapV m).p M D v w
omit [DecidableEq K] [MKey K] in
theorem StepOK.makeMap {d : Nat} (hd : Nat.blt d fs = true) :
    StepOK P ops fs ⟨some d, .makeMap T none, ty, pos, after, none⟩ L B ([], [d]) ⟨True, anyV⟩ [(d, some (mapV (GMap.nil : GMap K V)))] := by
  refine .doing fun M D a w hsz hm hs _ => ?_
  refine Does.value (v := .map (some w.heap.size)) (w' := w.alloc (.map #[] 0)) rfl (.one (fun k => M k ∨ k = w.heap.size) (fun k => k = w.heap.size) (Ext.alloc _ _) (fun k h => .inl h) (fun k h => h.imp id (by omega)) (fun k h => ?_) ⟨fun _ => trivial, fun hf => (hf trivial).elim⟩ ?_ (fun k h => by omega))
  · rw [size_new]
    rcases h with h | h
    · have := hm k h; omega
    · omega
  · rw [val_self (by rw [hsz]; exact Nat.le_of_ble_eq_true hd)]
    refine ⟨w.heap.size, #[], 0, [], rfl, fun k => Iff.rfl, .inr rfl, ?_, ⟨Ents.nil, Lists.nil, by simp, by simp⟩⟩
    show (w.heap.push _)[w.heap.size]? = _
    rw [Array.getElem?_push_size]

theorem keeps_set {b : Nat} {o : Obj} {w : World} {D : MSet} (hD : ∀ k, D k ↔ k = b) : Keeps D w { w with heap := w.heap.setIfInBounds b o } :=
  ⟨rfl, rfl, rfl, by simp, fun j _ hn => by
    have : j ≠ b := fun e => hn ((hD j).2 e)
    simp [Array.getElem?_setIfInBounds, Ne.symm this]⟩
theorem set_self {b : Nat} {o o' : Obj} {w : World} (h : w.heap[b]? = some o) : (w.heap.setIfInBounds b o')[b]? = some o' := by
  have hlt : b < w.heap.size := (Array.getElem?_eq_some_iff.1 h).1
  simp [Array.getElem?_setIfInBounds, hlt]

omit [DecidableEq K] [MKey K] in
theorem MapIs.stay {M D : MSet} {w w' : World} {es : Array MapEntry} {clock : Nat} {l : List (K × V)} (hk : Keeps D w w') (hD : ∀ k, D k → M k) (h : MapIs M w m es clock l) : MapIs M w' m es clock l :=
  h.law (hk.mono (fun k _ h => hD k h)) (fun k h => .inl h)

theorem StepOK.mapUpdate {x y u : Operand} {q : Nat} {s : Value} {v : V} (hT : MapOf P T kt et (MKey.desc K)) (hx : Opd L True x (isV s)) (hq : lookB B q = some (CPred.at s (mapV m))) (hy : Opd L True y (rep k)) (hu : Opd L True u (rep v)) :
    StepOK P ops fs ⟨none, .mapUpdate T x y u, ty, pos, after, none⟩ L B ([q], [q]) ⟨True, anyV⟩ [(q, some (CPred.at s (mapV (m.set k v))))] := by
  refine .doing fun M D a w hsz hm hs hsB => ?_
  have he : a.eval x = s := (rep_raw.1 (hx.get hs (fun t ht => looksAt_op (by simp [Op.operands, ht])) trivial)).1
  obtain ⟨b, es, clock, l, hv, hD, hM, hh, hi⟩ := hsB.has q (by simp) _ hq
  have h2 := hy.get hs (fun t ht => looksAt_op (by simp [Op.operands, ht])) trivial
  have h3 := hu.get hs (fun t ht => looksAt_op (by simp [Op.operands, ht])) trivial
  obtain ⟨es', clock', l', hr, hi'⟩ := run_updateAt hT h2 h3 hh hi
  have hk : Keeps (D q) w { w with heap := w.heap.setIfInBounds b (.map es' clock') } := keeps_set hD
  refine Does.skip ?_ rfl (.turn hq hk (fun j h => by simpa using hm j h) ⟨fun _ => trivial, fun hf => (hf trivial).elim⟩ ⟨b, es', clock', l', hv, hD, hM, set_self hh, hi'.stay hk (fun j h => (hD j).1 h ▸ hM)⟩)
  simp only [execOp, he, hv]; rw [Sem.run_bind, hr]; rfl
end
end Go.DB

/-
  Ranges over maps.
-/
set_option linter.unusedVariables false
set_option linter.unusedSimpArgs false
namespace Go.DB
open Go Go.RowKit

section
variable {K V : Type}
/-- Entries that have come, in the order in which they came. -/
def Part (m : GMap K V) (p : List (K × V)) : Prop := (p.map (·.1)).Nodup ∧ ∀ x ∈ p, m.f x.1 = some x.2
/-- What can come next. -/
def NextOf (m : GMap K V) (p : List (K × V)) : Option (K × V) → Prop
  | none => Lists m p
  | some x => m.f x.1 = some x.2 ∧ x.1 ∉ p.map (·.1)

/-- The entries of l whose stamps an iterator has seen. -/
def SeenAt (es : Array MapEntry) (l : List (K × V)) (seen : Array Nat) (p : List (K × V)) : Prop :=
  ∃ js : List Nat, js.Nodup ∧ (∀ j ∈ js, j < es.size) ∧ seen.toList = js.map (fun j => (es.toList[j]?).elim 0 (·.born)) ∧ p.map some = js.map (fun j => l[j]?)

theorem SeenAt.nil {es : Array MapEntry} {l : List (K × V)} : SeenAt es l #[] [] := ⟨[], List.nodup_nil, by simp, rfl, rfl⟩
end

section
variable {K V : Type} [Rep K] [Rep V] {m : GMap K V} {M : MSet} {w : World} {es : Array MapEntry} {clock : Nat} {l p : List (K × V)} {seen : Array Nat}

theorem SeenAt.mem (h : SeenAt es l seen p) (hi : MapIs M w m es clock l) {x : K × V} (hx : x ∈ p) : ∃ j e, j < es.size ∧ es.toList[j]? = some e ∧ l[j]? = some x ∧ e.born ∈ seen.toList := by
  obtain ⟨js, h1, h2, h3, h4⟩ := h
  have : some x ∈ js.map (fun j => l[j]?) := by rw [← h4]; exact List.mem_map.2 ⟨x, hx, rfl⟩
  obtain ⟨j, hj, e⟩ := List.mem_map.1 this
  have hlt : j < es.toList.length := by simpa using h2 j hj
  refine ⟨j, es.toList[j], by simpa using hlt, List.getElem?_eq_getElem hlt, e, ?_⟩
  rw [h3]
  exact List.mem_map.2 ⟨j, hj, by rw [List.getElem?_eq_getElem hlt]; rfl⟩

theorem SeenAt.all (h : SeenAt es l seen p) (hi : MapIs M w m es clock l) (h0 : (leftOf es seen).size = 0) : Lists m p := by
  obtain ⟨js, h1, h2, h3, h4⟩ := h
  have hlen : es.size = l.length := by simpa using hi.ents.1
  have hcov : ∀ j, j < es.size → j ∈ js := by
    intro j hj
    have hjl : j < es.toList.length := by simpa using hj
    have he : es.toList[j] ∈ es.toList := List.getElem_mem hjl
    have hseen : es.toList[j].born ∈ seen.toList := by
      by_cases hc : es.toList[j].born ∈ seen.toList
      · exact hc
      · exfalso
        have hin : es.toList[j] ∈ (leftOf es seen).toList := by
          unfold leftOf
          rw [Array.toList_filter, List.mem_filter]
          refine ⟨he, ?_⟩
          simp only [Bool.not_eq_true', Array.contains_eq_mem, decide_eq_false_iff_not]
          intro hh; exact hc (by simpa using hh)
        have : (leftOf es seen).toList.length = 0 := by simpa using h0
        rw [List.length_eq_zero_iff.1 this] at hin
        cases hin
    rw [h3] at hseen
    obtain ⟨i, hi', e⟩ := List.mem_map.1 hseen
    have hil : i < es.toList.length := by simpa using h2 i hi'
    rw [List.getElem?_eq_getElem hil] at e
    have e1 : (es.toList.map (·.born))[i]? = some es.toList[j].born := by rw [List.getElem?_map, List.getElem?_eq_getElem hil]; exact congrArg some e
    have e2 : (es.toList.map (·.born))[j]? = some es.toList[j].born := by rw [List.getElem?_map, List.getElem?_eq_getElem hjl]; rfl
    have := nodup_idx hi.born e1 e2
    subst this; exact hi'
  have hp : js.Perm (List.range es.size) := (List.perm_ext_iff_of_nodup h1 List.nodup_range).2 fun j => by
    rw [List.mem_range]
    exact ⟨h2 j, hcov j⟩
  have hl : l.map some = (List.range es.size).map (fun j => l[j]?) := by
    apply List.ext_getElem?
    intro i
    rw [List.getElem?_map, List.getElem?_map]
    by_cases hlt : i < l.length
    · rw [List.getElem?_range (by omega), List.getElem?_eq_getElem hlt]; simp [hlt]
    · rw [List.getElem?_eq_none (by omega)]
      rw [List.getElem?_eq_none (by simp; omega)]; rfl
  have hpp : (l.map some).Perm (p.map some) := by
    rw [hl, h4]; exact (hp.map _).symm
  have hq := hpp.filterMap id
  have e : ∀ q : List (K × V), (q.map some).filterMap id = q := fun q => by
    rw [List.filterMap_map]
    exact List.filterMap_some
  rw [e, e] at hq
  exact hi.lists.of_perm hq

theorem SeenAt.more (h : SeenAt es l seen p) (hi : MapIs M w m es clock l) {e : MapEntry} (he : e ∈ (leftOf es seen).toList) :
    ∃ x, NextOf m p (some x) ∧ SeenAt es l (seen.push e.born) (p ++ [x]) := by
  unfold leftOf at he
  rw [Array.toList_filter, List.mem_filter] at he
  obtain ⟨he, hns⟩ := he
  have hns' : e.born ∉ seen.toList := by
    simp only [Bool.not_eq_true', Array.contains_eq_mem, decide_eq_false_iff_not] at hns
    intro hh; exact hns (by simpa using hh)
  obtain ⟨j, hj⟩ := List.getElem?_of_mem he
  obtain ⟨x, hx, _, _⟩ := hi.ents.at hj
  have hjl : j < es.toList.length := (List.getElem?_eq_some_iff.1 hj).1
  have hnew : ∀ y ∈ p, y.1 ≠ x.1 := by
    intro y hy e1
    obtain ⟨j', e', hlt, h1, h2, h3⟩ := h.mem hi hy
    have a1 : (l.map (·.1))[j']? = some x.1 := by rw [List.getElem?_map, h2]; exact congrArg some e1
    have a2 : (l.map (·.1))[j]? = some x.1 := by rw [List.getElem?_map, hx]; rfl
    have := nodup_idx hi.lists.nodup a1 a2
    subst this
    rw [hj] at h1; simp at h1; subst h1
    exact hns' h3
  refine ⟨x, ⟨(hi.lists.mem x.1 x.2).1 (List.mem_of_getElem? hx), fun hm => ?_⟩, ?_⟩
  · obtain ⟨y, hy, e1⟩ := List.mem_map.1 hm
    exact hnew y hy e1
  · obtain ⟨js, h1, h2, h3, h4⟩ := h
    refine ⟨js ++ [j], ?_, fun i hi' => ?_, ?_, ?_⟩
    · rw [List.nodup_append]
      refine ⟨h1, by simp, fun a ha b hb => ?_⟩
      simp at hb; subst hb
      intro e1; subst e1
      apply hns'
      rw [h3]; exact List.mem_map.2 ⟨a, ha, by rw [hj]; rfl⟩
    · rcases List.mem_append.1 hi' with h' | h'
      · exact h2 i h'
      · simp at h'; subst h'; simpa using hjl
    · rw [Array.toList_push, h3, List.map_append, List.map_cons, List.map_nil, hj]; rfl
    · rw [List.map_append, h4, List.map_append]; simp [hx]

/-- An iterator over a map that nobody writes: what has come. -/
def iterF (m : GMap K V) (p : List (K × V)) : CPred where
  p := fun M D v w => ∃ r, v = .pointer (some ⟨r, 0, none⟩) ∧ (∀ k, D k ↔ k = r) ∧ M r ∧
    ((m = GMap.nil ∧ p = [] ∧ ∃ seen, w.heap[r]? = some (.mapIter none 0 seen 0)) ∨
     ∃ b es clock l seen, ¬ M b ∧ b < w.heap.size ∧ w.heap[b]? = some (.map es clock) ∧ MapIs M w m es clock l ∧ w.heap[r]? = some (.mapIter (some b) clock seen clock) ∧ SeenAt es l seen p)
  inM := fun M D v w ⟨r, hv, hD, hM, _⟩ k hk => (hD k).1 hk ▸ hM
  law := fun M M' D v w w' hk hm hown ⟨r, hv, hD, hM, h⟩ => by
    obtain ⟨h1, h2⟩ := hown r ((hD r).2 rfl)
    refine ⟨r, hv, hD, h1, ?_⟩
    rw [h2]
    rcases h with h | ⟨b, es, clock, l, seen, a1, a2, a3, a4, a5, a6⟩
    · exact .inl h
    · exact .inr ⟨b, es, clock, l, seen, fun hb => (hm b hb).elim a1 (by omega), Nat.lt_of_lt_of_le a2 hk.size, by rw [hk.block b a2 a1]; exact a3, a4.law hk hm, a5, a6⟩
/-- An iterator over a map of one's own whose entries are told. -/
def iterO (b : Nat) (es : Array MapEntry) (clock : Nat) (l : List (K × V)) (p : List (K × V)) : CPred where
  p := fun M D v w => ∃ r seen, v = .pointer (some ⟨r, 0, none⟩) ∧ (∀ k, D k ↔ k = r) ∧ M r ∧ w.heap[r]? = some (.mapIter (some b) clock seen clock) ∧ SeenAt es l seen p
  inM := fun M D v w ⟨r, _, hv, hD, hM, _⟩ k hk => (hD k).1 hk ▸ hM
  law := fun M M' D v w w' hk hm hown ⟨r, seen, hv, hD, hM, hh, hs⟩ => by
    obtain ⟨h1, h2⟩ := hown r ((hD r).2 rfl)
    exact ⟨r, seen, hv, hD, h1, by rw [h2]; exact hh, hs⟩
theorem isBox_iterF : IsBox (iterF m p) := fun M D v w ⟨r, hv, _⟩ => ⟨r, hv⟩
end

section
variable {K V : Type}
/-- A step is done; the slot has what `next` gave. -/
def nextedV (r : Nat) (C : List (K × V) → CPred) (m : GMap K V) (p : List (K × V)) : CPred where
  p := fun M D v w => ∃ o vs, NextOf m p o ∧ v = .tuple vs ∧ vs[0]? = some (.bool o.isSome) ∧ (C (p ++ o.toList)).p M D (ptr r 0) w
  inM := fun M D v w ⟨o, vs, _, _, _, h⟩ => (C _).inM M D _ w h
  law := fun M M' D v w w' hk hm hown ⟨o, vs, h1, h2, h3, h⟩ => ⟨o, vs, h1, h2, h3, (C _).law M M' D _ w w' hk hm hown h⟩
/-- The slot says whether there was an entry. -/
def okedV (r : Nat) (C : List (K × V) → CPred) (m : GMap K V) (p : List (K × V)) : CPred where
  p := fun M D v w => ∃ o, NextOf m p o ∧ v = .bool o.isSome ∧ (C (p ++ o.toList)).p M D (ptr r 0) w
  inM := fun M D v w ⟨o, _, _, h⟩ => (C _).inM M D _ w h
  law := fun M M' D v w w' hk hm hown ⟨o, h1, h2, h⟩ => ⟨o, h1, h2, (C _).law M M' D _ w w' hk hm hown h⟩
end

section
variable {P : Program} {ops : Array Oper} {fs : Nat} {L : Slots} {B : Owns} {G : Prop}
variable {ty : TypeId} {pos : String} {after : Array Edge} {g : Option (Nat × Bool)} {xr : List Nat}
variable {K V : Type} [Rep K] [Rep V] {T kt et : TypeId} {m : GMap K V}

theorem StepOK.rangeMap {d : Nat} {x : Operand} (hT : P.underlying T = some (.map kt et)) (hd : Nat.blt d fs = true) (hx : Opd L True x (rep m)) :
    StepOK P ops fs ⟨some d, .range T x, ty, pos, after, none⟩ L B ([], [d]) ⟨True, anyV⟩ [(d, some (iterF m []))] := by
  refine .doing fun M D a w hsz hm hs _ => ?_
  have h1 := rep_map.1 (hx.get hs (fun t ht => looksAt_op (by simp [Op.operands, ht])) trivial)
  have hg : ∀ o, ((w.alloc o).heap)[w.heap.size]? = some o := fun o => by
    show (w.heap.push o)[w.heap.size]? = _
    rw [Array.getElem?_push_size]
  have fin : ∀ o, (Instr.range T (a.eval x)).run P w = .ok (.pointer (some ⟨w.heap.size, 0, none⟩)) (w.alloc o) →
      (((m = GMap.nil ∧ ∃ seen, o = .mapIter none 0 seen 0)) ∨ ∃ b es clock l, ¬ M b ∧ b < w.heap.size ∧ w.heap[b]? = some (.map es clock) ∧ MapIs M w m es clock l ∧ o = .mapIter (some b) clock #[] clock) →
      Does P ⟨some d, .range T x, ty, pos, after, none⟩ a w (Leaves ⟨some d, .range T x, ty, pos, after, none⟩ B D [d] ⟨True, anyV⟩ [(d, some (iterF m []))] M a w) := by
    intro o hr ho
    refine Does.value (v := .pointer (some ⟨w.heap.size, 0, none⟩)) (w' := w.alloc o) ?_ (.one (fun k => M k ∨ k = w.heap.size) (fun k => k = w.heap.size) (Ext.alloc _ _) (fun k h => .inl h) (fun k h => h.imp id (by omega)) (fun k h => ?_) ⟨fun _ => trivial, fun hf => (hf trivial).elim⟩ ?_ (fun k h => by omega))
    · simp only [execOp]; rw [Sem.run_bind, hr]; rfl
    · rw [size_new]
      rcases h with h | h
      · have := hm k h; omega
      · omega
    · rw [val_self (by rw [hsz]; exact Nat.le_of_ble_eq_true hd)]
      refine ⟨w.heap.size, rfl, fun k => Iff.rfl, .inr rfl, ?_⟩
      rw [hg o]
      rcases ho with ⟨h2, seen, h3⟩ | ⟨b, es, clock, l, h2, h3, h4, h5, h6⟩
      · exact .inl ⟨h2, rfl, seen, by rw [h3]⟩
      · refine .inr ⟨b, es, clock, l, #[], fun hb => hb.elim h2 (by omega), by rw [size_new]; omega, ?_, h5.law (Ext.alloc w o).keeps (fun k h => h.imp id (by omega)), by rw [h6], SeenAt.nil⟩
        rw [(Ext.alloc w o).block b h3 (fun f => f)]; exact h4
  rcases h1 with ⟨hv, h2⟩ | ⟨b, es, clock, l, hv, hM, hb, hh, hi⟩
  · exact fin _ (by rw [hv]; exact run_range_nilMap w T kt et hT) (.inl ⟨h2, _, rfl⟩)
  · exact fin _ (by rw [hv]; exact run_range_map w T kt et b es clock hT hh) (.inr ⟨b, es, clock, l, hM, hb, hh, hi, rfl⟩)
theorem run_nextAt {M : MSet} {w : World} {r b : Nat} {seen : Array Nat} {es : Array MapEntry} {clock : Nat} {l p : List (K × V)} (hr : w.heap[r]? = some (.mapIter (some b) clock seen clock)) (hb : w.heap[b]? = some (.map es clock)) (hi : MapIs M w m es clock l) (hs : SeenAt es l seen p) :
    ∃ o vs w' seen', NextOf m p o ∧ (Instr.next (.pointer (some ⟨r, 0, none⟩)) false ty).run P w = .ok (.tuple vs) w' ∧ vs[0]? = some (.bool o.isSome) ∧ (∀ D : MSet, (∀ k, D k ↔ k = r) → Keeps D w w') ∧ w'.heap.size = w.heap.size ∧
      w'.heap[r]? = some (.mapIter (some b) clock seen' clock) ∧ SeenAt es l seen' (p ++ o.toList) := by
  rcases run_next_at (P := P) w ty r b clock clock seen es clock hr hb hi.low (Nat.le_refl _) with ⟨h0, hrun⟩ | ⟨e, he, w1, hal, hrun⟩
  · exact ⟨none, _, w, seen, hs.all hi h0, hrun, rfl, fun D _ => Keeps.refl _ _, rfl, hr, by simpa using hs⟩
  · obtain ⟨x, hx, hs'⟩ := hs.more hi he
    refine ⟨some x, _, _, _, hx, hrun, rfl, fun D hD => ?_, ?_, ?_, hs'⟩
    · have hk : Keeps D w1 (Go.ChangeMaps.setBlock w1 r (.mapIter (some b) clock (seen.push e.born) clock)) := keeps_set hD
      rcases hal with rfl | rfl
      · exact hk
      · exact (Ext.drew w).keeps.trans hk
    · show (w1.heap.setIfInBounds r _).size = _
      rw [Array.size_setIfInBounds]
      rcases hal with rfl | rfl <;> rfl
    · have : w1.heap[r]? = some (.mapIter (some b) clock seen clock) := by rcases hal with rfl | rfl <;> exact hr
      exact set_self this

theorem StepOK.nextF {d k r : Nat} {x : Operand} {p : List (K × V)} (hd : Nat.blt d fs = true) (hl : lookB B k = some (CPred.at (ptr r 0) (iterF m p))) (hx : Opd L True x (isV (ptr r 0))) :
    StepOK P ops fs ⟨some d, .next x false, ty, pos, after, none⟩ L B ([k], [d, k]) ⟨True, anyV⟩ [(d, some (nextedV r (iterF m) m p)), (k, none)] := by
  refine .doing fun M D a w hsz hm hs hsB => ?_
  obtain ⟨r', hvr, hD, hM, h⟩ := hsB.has k (by simp) _ hl
  obtain rfl : r = r' := by simp [ptr] at hvr; exact hvr
  have hat : a.eval x = .pointer (some ⟨r, 0, none⟩) := (rep_raw.1 (hx.get hs (fun t ht => looksAt_op (by simp [Op.operands, ht])) trivial)).1
  have hd' : d < a.tmps.size := by rw [hsz]; exact Nat.le_of_ble_eq_true hd
  rcases h with ⟨h1, h2, seen, h3⟩ | ⟨b, es, clock, l, seen, a1, a2, a3, a4, a5, a6⟩
  · have hrun : (Instr.next (.pointer (some ⟨r, 0, none⟩)) false ty).run P w = .ok (.tuple #[.bool false]) w := by
      simp only [Instr.next, getObj, Sem.run_bind, Sem.run, h3, Result.andThen]; rfl
    refine Does.value (v := .tuple #[.bool false]) (w' := w) ?_ (.pass M (D k) hl (Keeps.refl _ _) (fun _ h => h) (fun _ h => .inl h) hm ⟨fun _ => trivial, fun hf => (hf trivial).elim⟩ ?_ (fun j h => .inl h))
    · simp only [execOp, hat]; rw [Sem.run_bind, hrun]; rfl
    · rw [val_self hd']
      refine ⟨none, _, ?_, rfl, rfl, r, rfl, hD, hM, .inl ⟨h1, by rw [h2]; rfl, seen, h3⟩⟩
      show Lists m p
      rw [h1, h2]; exact Lists.nil
  · obtain ⟨o, vs, w', seen', h1, h2, h3, h4, h5, h6, h7⟩ := run_nextAt (P := P) (ty := ty) a5 a3 a4 a6
    have hk := h4 (D k) hD
    have hne : b ≠ r := fun e => a1 (e ▸ hM)
    refine Does.value (v := .tuple vs) (w' := w') ?_ (.pass M (D k) hl hk (fun _ h => h) (fun _ h => .inl h) (fun j h => by rw [h5]; exact hm j h) ⟨fun _ => trivial, fun hf => (hf trivial).elim⟩ ?_ (fun j h => .inl h))
    · simp only [execOp, hat]; rw [Sem.run_bind, h2]; rfl
    · rw [val_self hd']
      exact ⟨o, vs, h1, rfl, h3, r, rfl, hD, hM, .inr ⟨b, es, clock, l, seen', a1, by rw [h5]; exact a2, by rw [hk.block b a2 (fun h => hne ((hD b).1 h))]; exact a3, a4.stay hk (fun j h => (hD j).1 h ▸ hM), h6, h7⟩⟩
omit [Rep K] [Rep V] in
/-- Whether there was an entry. -/
theorem StepOK.nextedOk {d e r : Nat} {C : List (K × V) → CPred} {p : List (K × V)} (he : Nat.blt e fs = true) (hl : lookB B d = some (nextedV r C m p)) :
    StepOK P ops fs ⟨some e, .extract (.tmp d) 0, ty, pos, after, none⟩ L B ([d], [e, d]) ⟨True, anyV⟩ [(e, some (okedV r C m p)), (d, none)] := by
  refine .doing fun M D a w hsz hm hs hsB => ?_
  obtain ⟨o, vs, h1, h2, h3, h4⟩ := hsB.has d (by simp) _ hl
  have he' : e < a.tmps.size := by rw [hsz]; exact Nat.le_of_ble_eq_true he
  rw [← eval_val] at h2
  refine Does.value (w' := w) (ex_extractT h2 h3) (.pass M (D d) hl (Keeps.refl _ _) (fun _ h => h) (fun _ h => .inl h) hm ⟨fun _ => trivial, fun hf => (hf trivial).elim⟩ ?_ (fun j h => .inl h))
  rw [val_self he']
  exact ⟨o, h1, rfl, h4⟩

theorem run_entryAt {M : MSet} {w : World} {r b : Nat} {seen : Array Nat} {es : Array MapEntry} {clock : Nat} {l p : List (K × V)} {x : K × V} (hr : w.heap[r]? = some (.mapIter (some b) clock seen clock)) (hb : w.heap[b]? = some (.map es clock)) (hi : MapIs M w m es clock l) (hs : SeenAt es l seen (p ++ [x])) :
    ∃ u v, (rep x.1).p M u w ∧ (rep x.2).p M v w ∧ (Instr.entry (.pointer (some ⟨r, 0, none⟩))).run P w = .ok (.tuple #[u, v]) w := by
  obtain ⟨js, h1, h2, h3, h4⟩ := hs
  rw [List.map_append] at h4
  have hlast : ∃ js' j, js = js' ++ [j] := by
    rcases List.eq_nil_or_concat js with h | ⟨js', j, h⟩
    · subst h; simp at h4
    · exact ⟨js', j, by simpa using h⟩
  obtain ⟨js', j, rfl⟩ := hlast
  have hx : l[j]? = some x := by
    have := congrArg List.getLast? h4
    simpa using this.symm
  have hjl : j < es.toList.length := by simpa using h2 j (by simp)
  have he : es.toList[j]? = some es.toList[j] := List.getElem?_eq_getElem hjl
  have hseen : ∃ seen0 : Array Nat, seen = seen0.push es.toList[j].born := by
    refine ⟨(js'.map (fun j => (es.toList[j]?).elim 0 (·.born))).toArray, ?_⟩
    apply Array.ext'
    rw [h3, Array.toList_push, List.map_append, List.map_cons, List.map_nil, he]; rfl
  obtain ⟨seen0, hse⟩ := hseen
  obtain ⟨a1, a2⟩ := hi.ents.2 j _ x he hx
  rw [hse] at hr
  exact ⟨_, _, a1, a2, run_entry_at w r b clock seen0 es clock es.toList[j] hr hb (List.getElem_mem hjl) hi.born⟩

theorem StepOK.entryF {d : Option Tmp} {k r : Nat} {x : Operand} {p : List (K × V)} {y : K × V} (hl : lookB B k = some (CPred.at (ptr r 0) (iterF m (p ++ [y])))) (hx : Opd L True x (isV (ptr r 0))) :
    StepOK P ops fs ⟨d, .entry x, ty, pos, after, none⟩ L B ([k], []) ⟨True, tup2 y⟩ [] :=
  .of .none fun M D a w hm hs hsB hG => by
    obtain ⟨r', hvr, hD, hM, h⟩ := hsB.has k (by simp) _ hl
    obtain rfl : r = r' := by simp [ptr] at hvr; exact hvr
    have hat : a.eval x = .pointer (some ⟨r, 0, none⟩) := (rep_raw.1 (hx.get hs (fun t ht => looksAt_op (by simp [Op.operands, ht])) trivial)).1
    rcases h with ⟨_, h2, _⟩ | ⟨b, es, clock, l, seen, a1, a2, a3, a4, a5, a6⟩
    · simp at h2
    · obtain ⟨u, v, h1, h2, h3⟩ := run_entryAt (P := P) a5 a3 a4 a6
      refine Does.value (v := .tuple #[u, v]) (w' := w) ?_ ⟨Keeps.refl _ _, tup2_of h1 h2⟩
      simp only [execOp, hat]; rw [Sem.run_bind, h3]; rfl
end

end Go.DB

/-
  Ranges over maps: what a loop makes of a map whose entries come in any order, and the walk.
-/
set_option linter.unusedVariables false
set_option linter.unusedSimpArgs false
namespace Go.DB
open Go Go.RowKit

section
variable {K V σ O : Type}
def mfoldE (step : K → V → σ → Option (Res σ O)) (fin : σ → O) : List (K × V) → σ → Option O
  | [], s => some (fin s)
  | x :: l, s => (step x.1 x.2 s).bind (fun r => match r with
    | .nx s' => mfoldE step fin l s'
    | .ab o => some o)
def mfold (step : K → V → σ → Option σ) : List (K × V) → σ → Option σ
  | [], s => some s
  | x :: l, s => (step x.1 x.2 s).bind (fun s' => mfold step l s')
open Classical in
/-- A loop over the entries of a map: what comes out in whatever order they come. -/
noncomputable def mrangeE (m : GMap K V) (step : K → V → σ → Option (Res σ O)) (fin : σ → O) (s0 : σ) : Option O :=
  if h : ∃ r, ∀ l, Lists m l → mfoldE step fin l s0 = some r then some h.choose else none
open Classical in
noncomputable def mrange (m : GMap K V) (step : K → V → σ → Option σ) (s0 : σ) : Option σ :=
  if h : ∃ r, ∀ l, Lists m l → mfold step l s0 = some r then some h.choose else none

def mstepE (step : K → V → σ → Option (Res σ O)) (fin : σ → O) (p : List (K × V) × σ) (o : Option (K × V)) : Option (Step (List (K × V) × σ) O) := match o with
  | none => some (.done (fin p.2))
  | some x => bindD (step x.1 x.2 p.2) (fun s' => some (.again (p.1 ++ [x], s')))
def mstep (step : K → V → σ → Option σ) (p : List (K × V) × σ) (o : Option (K × V)) : Option (Step (List (K × V) × σ) σ) := match o with
  | none => some (.done p.2)
  | some x => (step x.1 x.2 p.2).bind (fun s' => some (.again (p.1 ++ [x], s')))

theorem mstep_some {step : K → V → σ → Option σ} {p : List (K × V) × σ} {x : K × V} {out : Step (List (K × V) × σ) σ} (h : mstep step p (some x) = some out) : (step x.1 x.2 p.2).bind (fun s' => some (.again (p.1 ++ [x], s'))) = some out := h
theorem mstep_none {step : K → V → σ → Option σ} {p : List (K × V) × σ} {out : Step (List (K × V) × σ) σ} (h : mstep step p none = some out) : some (.done p.2) = some out := h

variable {m : GMap K V}
theorem mrangeE_some {step : K → V → σ → Option (Res σ O)} {fin : σ → O} {s0 : σ} {e : O} (h : mrangeE m step fin s0 = some e) : ∀ l, Lists m l → mfoldE step fin l s0 = some e := by
  unfold mrangeE at h
  by_cases hx : ∃ r, ∀ l, Lists m l → mfoldE step fin l s0 = some r
  · rw [dif_pos hx] at h
    rw [← Option.some.inj h]; exact hx.choose_spec
  · rw [dif_neg hx] at h; cases h
theorem mrange_some {step : K → V → σ → Option σ} {s0 e : σ} (h : mrange m step s0 = some e) : ∀ l, Lists m l → mfold step l s0 = some e := by
  unfold mrange at h
  by_cases hx : ∃ r, ∀ l, Lists m l → mfold step l s0 = some r
  · rw [dif_pos hx] at h
    rw [← Option.some.inj h]; exact hx.choose_spec
  · rw [dif_neg hx] at h; cases h
theorem mrangeE_of {step : K → V → σ → Option (Res σ O)} {fin : σ → O} {s0 : σ} {e : O} {l0 : List (K × V)} (h0 : Lists m l0) (h : ∀ l, Lists m l → mfoldE step fin l s0 = some e) : mrangeE m step fin s0 = some e := by
  unfold mrangeE
  have hx : ∃ r, ∀ l, Lists m l → mfoldE step fin l s0 = some r := ⟨e, h⟩
  rw [dif_pos hx]
  exact (hx.choose_spec l0 h0).symm.trans (h l0 h0)
theorem mrange_of {step : K → V → σ → Option σ} {s0 e : σ} {l0 : List (K × V)} (h0 : Lists m l0) (h : ∀ l, Lists m l → mfold step l s0 = some e) : mrange m step s0 = some e := by
  unfold mrange
  have hx : ∃ r, ∀ l, Lists m l → mfold step l s0 = some r := ⟨e, h⟩
  rw [dif_pos hx]
  exact (hx.choose_spec l0 h0).symm.trans (h l0 h0)
theorem mfoldE_eq (step : K → V → σ → Option σ) : ∀ (l : List (K × V)) (s : σ), mfoldE (fun k v s => (step k v s).map (Res.nx (ρ := σ))) id l s = mfold step l s
  | [], s => rfl
  | x :: l, s => by
    simp only [mfoldE, mfold]
    cases step x.1 x.2 s with
    | none => rfl
    | some s' => exact mfoldE_eq step l s'

open Classical in
theorem Part.more {p l0 : List (K × V)} (hp : Part m p) (h0 : Lists m l0) : ∃ l, Lists m (p ++ l) := by
  refine ⟨l0.filter (fun y => decide (y.1 ∉ p.map (·.1))), ?_, fun k v => ?_⟩
  · rw [List.map_append, List.nodup_append]
    refine ⟨hp.1, h0.nodup.sublist ((List.filter_sublist).map _), fun a ha b hb e => ?_⟩
    obtain ⟨y, hy, rfl⟩ := List.mem_map.1 hb
    have := (List.mem_filter.1 hy).2
    simp only [decide_eq_true_eq] at this
    exact this (e ▸ ha)
  · rw [List.mem_append, List.mem_filter]
    constructor
    · rintro (h | ⟨h, _⟩)
      · exact hp.2 _ h
      · exact (h0.mem k v).1 h
    · intro h
      by_cases hk : k ∈ p.map (·.1)
      · obtain ⟨y, hy, rfl⟩ := List.mem_map.1 hk
        have := hp.2 y hy
        rw [h] at this
        left
        have e : v = y.2 := Option.some.inj this
        rw [e]; exact hy
      · exact .inr ⟨(h0.mem k v).2 h, by simpa using hk⟩
theorem Part.next {p : List (K × V)} {x : K × V} (hp : Part m p) (h : NextOf m p (some x)) : Part m (p ++ [x]) := by
  refine ⟨?_, fun y hy => ?_⟩
  · rw [List.map_append, List.nodup_append]
    refine ⟨hp.1, by simp, fun a ha b hb e => ?_⟩
    simp at hb; subst hb
    exact h.2 (e ▸ ha)
  · rcases List.mem_append.1 hy with h1 | h1
    · exact hp.2 y h1
    · simp at h1; subst h1; exact h.1
theorem Part.len {p l0 : List (K × V)} (hp : Part m p) (h0 : Lists m l0) : p.length ≤ l0.length := by
  obtain ⟨l, hl⟩ := hp.more h0
  have := (hl.perm h0).length_eq
  rw [List.length_append] at this
  omega
end

section
variable {P : Program} {Q : Exit → Act → World → Prop} {n : Nat} {F : Fr} {L : Slots} {B : Owns}
variable {K V : Type} {m : GMap K V}

theorem Cod.mrangeEL {c : Code} {σ O : Type} {step : K → V → σ → Option (Res σ O)} {fin : σ → O} {s0 : σ} {e : O} (he : mrangeE m step fin s0 = some e) (hfin : ∃ l, Lists m l) (Ls : List (K × V) × σ → Slots) (Bs : List (K × V) × σ → Owns) {keep : Slots} {keepB : Owns}
    (h0 : Sub L (Ls ([], s0))) (hB0 : SubB B (Bs ([], s0))) (hk : Sub L keep) (hkB : SubB B keepB)
    (round : ∀ (p : List (K × V) × σ), (∀ o, NextOf m p.1 o → ∃ out, mstepE step fin p o = some out ∧ (∀ e', out = .done e' → some e' = some e)) →
      Cod P c (Exit.then (fun a w => ∃ s', (∃ o, NextOf m p.1 o ∧ mstepE step fin p o = some (.again s')) ∧ Sat n F (Ls s' ++ keep) (Bs s' ++ keepB) a w) Q) n F (Ls p ++ keep) (Bs p ++ keepB)) : Cod P (.loop c) Q n F L B := by
  obtain ⟨l0, hl0⟩ := hfin
  have hall := mrangeE_some he
  refine Cod.loop (ι := { p : List (K × V) × σ // Part m p.1 ∧ ∀ l, Lists m (p.1 ++ l) → mfoldE step fin l p.2 = some e }) (fun p => Ls p.1 ++ keep) (fun p => Bs p.1 ++ keepB) (fun p => l0.length - p.1.1.length)
    ⟨([], s0), ⟨List.nodup_nil, by simp⟩, fun l hl => hall l (by simpa using hl)⟩ (h0.append hk) (hB0.append hkB) ?_
  rintro ⟨p, hp, hI⟩
  have H : ∀ o, NextOf m p.1 o → ∃ out, mstepE step fin p o = some out ∧ (∀ e', out = .done e' → some e' = some e) := by
    intro o ho
    cases o with
    | none =>
      have h1 := hI [] (by simpa using (show Lists m p.1 from ho))
      exact ⟨_, rfl, fun e' h2 => by cases h2; exact h1⟩
    | some x =>
      obtain ⟨l, hl⟩ := (hp.next ho).more hl0
      have h1 := hI (x :: l) (by simpa using hl)
      simp only [mfoldE] at h1
      simp only [mstepE, bindD]
      cases hst : step x.1 x.2 p.2 with
      | none => rw [hst] at h1; cases h1
      | some r =>
        rw [hst] at h1
        cases r with
        | nx s' => exact ⟨_, rfl, fun e' h2 => by cases h2⟩
        | ab y => exact ⟨_, rfl, fun e' h2 => by cases h2; exact h1⟩
  intro a w hs
  refine wp_mono (round p H a w hs) (fun x a w hq => ?_)
  cases x with
  | normal =>
    obtain ⟨s', ⟨o, ho, hst⟩, h3⟩ := hq
    cases o with
    | none => simp [mstepE] at hst
    | some x =>
      simp only [mstepE, bindD] at hst
      cases hx : step x.1 x.2 p.2 with
      | none => rw [hx] at hst; cases hst
      | some r =>
        rw [hx] at hst
        cases r with
        | ab y => simp [resd] at hst
        | nx s'' =>
          simp only [Option.bind_some, resd, Option.some.injEq, Step.again.injEq] at hst
          subst hst
          have hpn := hp.next ho
          refine ⟨⟨(p.1 ++ [x], s''), hpn, fun l hl => ?_⟩, ?_, h3⟩
          · have h1 := hI (x :: l) (by simpa using hl)
            simp only [mfoldE, hx, Option.bind_some] at h1
            exact h1
          · have h1 := hpn.len hl0
            rw [List.length_append] at h1
            simp at h1 ⊢
            omega
  | _ => exact hq

theorem Cod.mrangeL {c : Code} {σ : Type} {step : K → V → σ → Option σ} {s0 e : σ} (he : mrange m step s0 = some e) (hfin : ∃ l, Lists m l) (Ls : List (K × V) × σ → Slots) (Bs : List (K × V) × σ → Owns) {keep : Slots} {keepB : Owns}
    (h0 : Sub L (Ls ([], s0))) (hB0 : SubB B (Bs ([], s0))) (hk : Sub L keep) (hkB : SubB B keepB)
    (round : ∀ (p : List (K × V) × σ), (∀ o, NextOf m p.1 o → ∃ out, mstep step p o = some out ∧ (∀ e', out = .done e' → some e' = some e)) →
      Cod P c (Exit.then (fun a w => ∃ s', (∃ o, NextOf m p.1 o ∧ mstep step p o = some (.again s')) ∧ Sat n F (Ls s' ++ keep) (Bs s' ++ keepB) a w) Q) n F (Ls p ++ keep) (Bs p ++ keepB)) : Cod P (.loop c) Q n F L B := by
  have hs : ∀ p o, mstepE (fun k v s => (step k v s).map (Res.nx (ρ := σ))) id p o = mstep step p o := by
    intro p o
    cases o with
    | none => rfl
    | some x =>
      simp only [mstepE, mstep, bindD]
      cases step x.1 x.2 p.2 <;> rfl
  have he' : mrangeE m (fun k v s => (step k v s).map (Res.nx (ρ := σ))) id s0 = some e := by
    obtain ⟨l0, hl0⟩ := hfin
    exact mrangeE_of hl0 fun l hl => by rw [mfoldE_eq]; exact mrange_some he l hl
  refine Cod.mrangeEL he' hfin Ls Bs h0 hB0 hk hkB fun p H => ?_
  simp only [hs] at H ⊢
  exact round p H

/-- The outcome of the round is known. -/
theorem Cod.againM {c : Code} {σ ρ : Type} {OK : σ → Prop} {out : Step σ ρ} {Ls : σ → Slots} {Bs : σ → Owns} {keep : Slots} {keepB : Owns} (hA : ∀ s', out = .again s' → OK s')
    (h : Cod P c (Exit.then (fun a w => ∃ s', out = .again s' ∧ Sat n F (Ls s' ++ keep) (Bs s' ++ keepB) a w) Q) n F L B) :
    Cod P c (Exit.then (fun a w => ∃ s', OK s' ∧ Sat n F (Ls s' ++ keep) (Bs s' ++ keepB) a w) Q) n F L B := fun a w hs => wp_mono (h a w hs) (fun e a w hq => by
  cases e with
  | normal => obtain ⟨s', h1, h2⟩ := hq; exact ⟨s', hA s' h1, h2⟩
  | _ => exact hq)

theorem Cod.condT {t : Nat} {x y : Code} {c : Prop} {b : Bool} (hl : look L t = some ⟨c, rep b⟩) (hc : c) (hb : b = true) (h : Cod P x Q n F L B) : Cod P (.cond (.tmp t) x y) Q n F L B :=
  Cod.cond hl hc (fun _ => h) (fun h2 => by rw [hb] at h2; cases h2)
theorem Cod.condF {t : Nat} {x y : Code} {c : Prop} {b : Bool} (hl : look L t = some ⟨c, rep b⟩) (hc : c) (hb : b = false) (h : Cod P y Q n F L B) : Cod P (.cond (.tmp t) x y) Q n F L B :=
  Cod.cond hl hc (fun h2 => by rw [hb] at h2; cases h2) (fun _ => h)

/-- What `next` gave is told; the iterator has its name again. -/
theorem Cod.openNext {c : Code} {t k r : Nat} {C : List (K × V) → CPred} {p : List (K × V)} (hl : lookB B t = some (okedV r C m p)) (ht : Nat.blt t n = true) (hg : lookB B k = none)
    (h : ∀ o, NextOf m p o → Cod P c Q n F ((t, ⟨True, rep o.isSome⟩) :: L) ((k, some (CPred.at (ptr r 0) (C (p ++ o.toList)))) :: (t, none) :: B)) : Cod P c Q n F L B := by
  intro a w hs
  obtain ⟨M, D, h1⟩ := id hs
  obtain ⟨o, ho, hv, hC⟩ := h1.hasB t _ hl
  refine h o ho a w ⟨M, _, h1.rekey hl hg (C' := CPred.at (ptr r 0) (C (p ++ o.toList))) hC fun t' e he => ?_⟩
  simp only [look] at he
  by_cases hne : t = t'
  · subst hne
    simp at he; subst he
    have hlt : t < a.tmps.size := by rw [h1.size]; exact Nat.le_of_ble_eq_true ht
    refine ⟨Act.val a t, by unfold Act.val; simp [hlt], fun _ => ?_, fun hf => (hf trivial).elim⟩
    rw [hv]; exact rep_bool.2 rfl
  · rw [beq_ne hne, cond_false] at he; exact h1.has t' e he

variable [Rep K] [Rep V]
/-- A map has entries that can be listed. -/
theorem Cod.lists {c : Code} {t : Nat} {cd : Prop} (hl : look L t = some ⟨cd, rep m⟩) (hc : cd) (h : (∃ l, Lists m l) → Cod P c Q n F L B) : Cod P c Q n F L B := by
  intro a w hs
  obtain ⟨M, D, h1⟩ := id hs
  obtain ⟨v, hv, he⟩ := h1.has t _ hl
  rcases rep_map.1 (he.1 hc) with ⟨_, rfl⟩ | ⟨_, _, _, l, _, _, _, _, h2⟩
  · exact h ⟨[], Lists.nil⟩ a w hs
  · exact h ⟨l, h2.lists⟩ a w hs
theorem Cod.listsF {c : Code} {q r : Nat} {p : List (K × V)} (hl : lookB B q = some (CPred.at (ptr r 0) (iterF m p))) (h : (∃ l, Lists m l) → Cod P c Q n F L B) : Cod P c Q n F L B := by
  intro a w hs
  obtain ⟨M, D, h1⟩ := id hs
  obtain ⟨r', _, _, _, h2⟩ := h1.hasB q _ hl
  rcases h2 with ⟨rfl, _⟩ | ⟨_, _, _, l, _, _, _, _, h3, _⟩
  · exact h ⟨[], Lists.nil⟩ a w hs
  · exact h ⟨l, h3.lists⟩ a w hs
theorem mapV_map {M D : MSet} {w : World} {s : Value} (h : (mapV m).p M D s w) : ∃ b, s = .map (some b) := by
  obtain ⟨b, _, _, _, hv, _⟩ := h; exact ⟨b, hv⟩
/-- A slot's map gets a name. -/
theorem Cod.nameMap {c : Code} {t g : Nat} (hl : lookB B t = some (mapV m)) (ht : Nat.blt t n = true) (hg : lookB B g = none)
    (k : ∀ s, Cod P c Q n F ((t, ⟨True, isV s⟩) :: L) ((g, some (CPred.at s (mapV m))) :: (t, none) :: B)) : Cod P c Q n F L B := by
  intro a w hs
  obtain ⟨M, D, h⟩ := id hs
  have hC := h.hasB t _ hl
  refine k (Act.val a t) a w ⟨M, _, h.rekey hl hg hC fun t' e he => ?_⟩
  simp only [look] at he
  by_cases hne : t = t'
  · subst hne
    simp at he; subst he
    have hlt : t < a.tmps.size := by rw [h.size]; exact Nat.le_of_ble_eq_true ht
    refine ⟨Act.val a t, by unfold Act.val; simp [hlt], fun _ => ?_, fun hf => (hf trivial).elim⟩
    obtain ⟨b, hv⟩ := mapV_map hC
    rw [hv]
    exact rep_raw.2 ⟨rfl, rfl, rfl⟩
  · rw [beq_ne hne, cond_false] at he; exact h.has t' e he
end

end Go.DB

/-
  Structs that are made of memory of one's own: any rows or maps.
-/
set_option linter.unusedVariables false
set_option linter.unusedSimpArgs false
namespace Go.DB
open Go Go.RowKit

/-- What is told by a value of one cell. -/
def OneC (C : CPred) : Prop := ∀ M D v w, C.p M D v w → isOne v = true ∧ v.cells = #[v]
/-- What is written no more is what x stands for. -/
def FrzC {β : Type} [Rep β] (R : CPred) (x : β) : Prop := ∀ (M D : MSet) (s : Value) (w : World), R.p M D s w → (∀ k, M k → k < w.heap.size) → (rep x).p (fun k => M k ∧ ¬ D k) s w
theorem frzRow {α : Type} [Rep α] {E : Nat} {l : List α} : FrzC (rowV E l) l := fun M D s w h hms => rowV_rep M D w s h hms
section
variable {P : Program} {ops : Array Oper} {fs : Nat} {L : Slots} {B : Owns} {G : Prop}
variable {ty : TypeId} {pos : String} {after : Array Edge} {g : Option (Nat × Bool)} {xr : List Nat} {d : Option Tmp}

theorem deep_ref1 {T m : Nat} {α β1 γ : Type} [Rep α] [Rep β1] [Rep γ] {x1 : β1} {R1 : CPred} {mk : Value → α} {y : γ} (f1 : FrzC R1 x1) (hsz : Rep.sz γ = Rep.sz α)
    (hy : ∀ M s1 cs w, Rep.cells M (mk s1) cs w → (rep x1).p M s1 w → Rep.cells M y cs w) (M D : MSet) (w : World)
    (h : (deep (fun s1 => cont T (mk s1)) R1).p M D (ptr m 0) w) (hms : ∀ k, M k → k < w.heap.size) : (ref y).p (fun k => M k ∧ ¬ D k) (ptr m 0) w := by
  obtain ⟨s1, D1, D2, ⟨m', cs, hv, hD, hM, hh, hc⟩, hR1, e2, a2⟩ := h
  have hsub : ∀ k, (M k ∧ ¬ D k) → M k ∨ w.heap.size ≤ k := fun k h => .inl h.1
  refine ⟨m', 0, cs, hv, fun hk => hk.2 ((e2 m').2 (.inl ((hD m').2 rfl))), hms _ hM, hy _ s1 cs w (Rep.law (Keeps.refl M w) hsub hc) ?_, fun j _ => by rw [cell_of_heap hh]; simp⟩
  exact (rep x1).law _ _ s1 w w (Keeps.refl _ _) (fun k h => .inl ⟨h.1, fun h2 => h.2 ((e2 k).2 (.inr h2))⟩) (f1 M D2 s1 w hR1 hms)
/-- The cells of what stands behind a told value. -/
theorem raw_cells {β : Type} [Rep β] {x : β} {M : MSet} {s : Value} {cs : List Value} {w : World} (ha : Rep.agg β = false) (h1 : Rep.sz β = 1) (hc : Rep.cells M (⟨s⟩ : Raw) cs w) (h : (rep x).p M s w) : Rep.cells M x cs w := by
  obtain ⟨rfl, _, _⟩ := hc
  obtain ⟨c, h2, h3⟩ := h
  have hl := Rep.len h2
  rw [h1] at hl
  match c, hl with
  | [u], _ =>
    rw [ha] at h3
    have : s = u := h3
    rw [this]; exact h2
end
end Go.DB

