/-
  Plain rules on the program's operations, code and memory (texts laid together).
-/
import Derived.Test.YtlbbcehlhbaggaaGreatDoorCoreD
import Derived.Maps.RangeRun
/-
  Maps: what they stand for, and the operations on them.
-/
set_option linter.unusedVariables false
set_option linter.unusedSimpArgs false
namespace Go.DB
open Go Go.RowKit

/-- A map: what is at each key. -/
structure GMap (K V : Type) where
  f : K → Option V

namespace GMap
variable {K V : Type}
def nil : GMap K V := ⟨fun _ => none⟩
instance : Inhabited (GMap K V) := ⟨nil⟩
def set [DecidableEq K] (m : GMap K V) (k : K) (v : V) : GMap K V := ⟨fun x => if x = k then some v else m.f x⟩
def del [DecidableEq K] (m : GMap K V) (k : K) : GMap K V := ⟨fun x => if x = k then none else m.f x⟩
def getD (m : GMap K V) (k : K) (z : V) : V := (m.f k).getD z
def has (m : GMap K V) (k : K) : Bool := (m.f k).isSome
end GMap

/-- The entries of a map, in some order. -/
structure Lists {K V : Type} (m : GMap K V) (l : List (K × V)) : Prop where
  nodup : (l.map (·.1)).Nodup
  mem : ∀ k v, (k, v) ∈ l ↔ m.f k = some v

open Classical in
/-- How many entries a map has. -/
noncomputable def GMap.size {K V : Type} (m : GMap K V) : Int := if h : ∃ l, Lists m l then (h.choose.length : Int) else 0

theorem nodup_idx {α : Type} {l : List α} (h : l.Nodup) {i j : Nat} {a : α} (h1 : l[i]? = some a) (h2 : l[j]? = some a) : i = j := by
  obtain ⟨hi, e1⟩ := List.getElem?_eq_some_iff.1 h1
  obtain ⟨hj, e2⟩ := List.getElem?_eq_some_iff.1 h2
  have hp := List.pairwise_iff_getElem.1 h
  rcases Nat.lt_trichotomy i j with c | c | c
  · exact absurd (e1.trans e2.symm) (hp i j hi hj c)
  · exact c
  · exact absurd (e2.trans e1.symm) (hp j i hj hi c)
theorem nodup_of_map {α β : Type} {f : α → β} {l : List α} (h : (l.map f).Nodup) : l.Nodup := List.Pairwise.of_map f (fun a b hne e => hne (by rw [e])) h

section
variable {K V : Type} {m : GMap K V} {l l' : List (K × V)}
theorem Lists.perm (h : Lists m l) (h' : Lists m l') : l.Perm l' :=
  (List.perm_ext_iff_of_nodup (nodup_of_map h.nodup) (nodup_of_map h'.nodup)).2 fun ⟨k, v⟩ => (h.mem k v).trans (h'.mem k v).symm
theorem Lists.size (h : Lists m l) : m.size = l.length := by
  have hx : ∃ l, Lists m l := ⟨l, h⟩
  unfold GMap.size
  rw [dif_pos hx, (hx.choose_spec.perm h).length_eq]
theorem Lists.nil : Lists (GMap.nil : GMap K V) [] := ⟨List.nodup_nil, fun k v => by simp [GMap.nil]⟩
theorem Lists.of_perm (h : Lists m l) (hp : l.Perm l') : Lists m l' := ⟨(hp.map _).nodup_iff.1 h.nodup, fun k v => (hp.mem_iff.symm).trans (h.mem k v)⟩
theorem Lists.fst_ne {k : K} (h : Lists m l) (hn : ∀ x ∈ l, x.1 ≠ k) : m.f k = none := by
  cases hm : m.f k with
  | none => rfl
  | some v => exact absurd rfl (hn (k, v) ((h.mem k v).2 hm))
variable [DecidableEq K]
theorem Lists.push (h : Lists m l) {k : K} {v : V} (hn : ∀ x ∈ l, x.1 ≠ k) : Lists (m.set k v) (l ++ [(k, v)]) := by
  refine ⟨?_, fun k' v' => ?_⟩
  · rw [List.map_append, List.nodup_append]
    refine ⟨h.nodup, by simp, fun a ha b hb => ?_⟩
    obtain ⟨x, hx, rfl⟩ := List.mem_map.1 ha
    simp at hb; subst hb; exact hn x hx
  · simp only [List.mem_append, List.mem_singleton, GMap.set]
    by_cases hk : k' = k
    · subst hk
      rw [if_pos rfl]
      constructor
      · rintro (h1 | h1)
        · exact absurd rfl (hn _ h1)
        · simp at h1; rw [h1]
      · intro h1; simp at h1; right; rw [h1]
    · rw [if_neg hk, ← h.mem k' v']
      constructor
      · rintro (h1 | h1)
        · exact h1
        · simp at h1; exact absurd h1.1 hk
      · exact .inl
theorem Lists.put (h : Lists m l) {j : Nat} {x : K × V} {v : V} (hj : l[j]? = some x) : Lists (m.set x.1 v) (l.set j (x.1, v)) := by
  have hlt : j < l.length := (List.getElem?_eq_some_iff.1 hj).1
  have hx : l[j] = x := (List.getElem?_eq_some_iff.1 hj).2
  have hmap : (l.set j (x.1, v)).map (·.1) = l.map (·.1) := by
    rw [List.map_set]
    have : (l.map (·.1))[j]? = some x.1 := by rw [List.getElem?_map, hj]; rfl
    apply List.ext_getElem?
    intro i
    by_cases hij : j = i
    · subst hij; rw [List.getElem?_set_self (by simpa using hlt), this]
    · rw [List.getElem?_set_ne hij]
  refine ⟨by rw [hmap]; exact h.nodup, fun k' v' => ?_⟩
  have hin : x ∈ l := List.mem_of_getElem? hj
  simp only [GMap.set]
  by_cases hk : k' = x.1
  · subst hk
    rw [if_pos rfl]
    constructor
    · intro h1
      obtain ⟨i, hi⟩ := List.getElem?_of_mem h1
      by_cases hij : j = i
      · subst hij
        rw [List.getElem?_set_self hlt] at hi; simp at hi; rw [hi]
      · rw [List.getElem?_set_ne hij] at hi
        have h2 : (l.map (·.1))[i]? = some x.1 := by rw [List.getElem?_map, hi]; rfl
        have h3 : (l.map (·.1))[j]? = some x.1 := by rw [List.getElem?_map, hj]; rfl
        exact absurd (nodup_idx h.nodup h3 h2) hij
    · intro h1; simp at h1; subst h1
      exact List.mem_of_getElem? (List.getElem?_set_self hlt)
  · rw [if_neg hk, ← h.mem k' v']
    constructor
    · intro h1
      rcases List.mem_or_eq_of_mem_set h1 with h1 | h1
      · exact h1
      · simp at h1; exact absurd h1.1 hk
    · intro h1
      obtain ⟨i, hi⟩ := List.getElem?_of_mem h1
      refine List.mem_of_getElem? (i := i) ?_
      rw [List.getElem?_set_ne]
      · exact hi
      · intro e; subst e; rw [hj] at hi; simp at hi; subst hi; exact hk rfl
theorem Lists.drop (h : Lists m l) {j : Nat} {x : K × V} (hj : l[j]? = some x) : Lists (m.del x.1) (l.eraseIdx j) := by
  have hlt : j < l.length := (List.getElem?_eq_some_iff.1 hj).1
  refine ⟨h.nodup.sublist ((List.eraseIdx_sublist _ _).map _), fun k' v' => ?_⟩
  simp only [GMap.del]
  constructor
  · intro h1
    obtain ⟨i, hne, hi⟩ := List.mem_eraseIdx_iff_getElem?.1 h1
    have hk : k' ≠ x.1 := by
      intro e
      have h2 : (l.map (·.1))[i]? = some x.1 := by rw [List.getElem?_map, hi, ← e]; rfl
      have h3 : (l.map (·.1))[j]? = some x.1 := by rw [List.getElem?_map, hj]; rfl
      exact hne (nodup_idx h.nodup h2 h3)
    rw [if_neg hk, ← h.mem]; exact List.mem_of_getElem? hi
  · intro h1
    by_cases hk : k' = x.1
    · rw [if_pos hk] at h1; cases h1
    · rw [if_neg hk, ← h.mem] at h1
      obtain ⟨i, hi⟩ := List.getElem?_of_mem h1
      refine List.mem_eraseIdx_iff_getElem?.2 ⟨i, fun e => hk ?_, hi⟩
      subst e; rw [hj] at hi; simp at hi; rw [hi]
end

/-- What a search for a key comes to. -/
def Found {K : Type} (k : K) (es : List MapEntry) (l : List K) (r : Option (Nat × Value)) : Prop :=
  (r = none ∧ ∀ x ∈ l, x ≠ k) ∨ ∃ j e x, r = some (j, e.val) ∧ es[j]? = some e ∧ l[j]? = some x ∧ x = k
/-- What can be a key: its type, and that keys are told apart. -/
class MKey (K : Type) [Rep K] [DecidableEq K] where
  desc : Program → TypeId → Prop
  check : ∀ {P : Program} {T : TypeId} {M : MSet} {w0 : World} {k : K} {v : Value} (e : Bool) (w : World), desc P T → (rep k).p M v w0 → (Instr.checkKey e 10000 T v).run P w = .ok () w
  find : ∀ {P : Program} {T : TypeId} {M M' : MSet} {w w' : World} {k : K} {v : Value} (w0 : World), desc P T → (rep k).p M' v w' → ∀ (es : List MapEntry) (l : List K), es.length = l.length →
    (∀ (j : Nat) (e : MapEntry) (x : K), es[j]? = some e → l[j]? = some x → (rep x).p M e.key w) → ∃ r, (Instr.findKey T v es).run P w0 = .ok r w0 ∧ Found k es l r
  bits : ∀ {M M' w w'} {k : K} {v1 v2 : Value}, (rep k).p M v1 w → (rep k).p M' v2 w' → Instr.sameBits 10000 v1 v2 = true

theorem findNow_ents {K : Type} [Rep K] [DecidableEq K] {desc : TypeDesc} (same : ∀ {M M' w w'} {k1 k2 : K} {v1 v2 : Value}, (rep k1).p M v1 w → (rep k2).p M' v2 w' → Instr.sameNow desc v1 v2 = some (decide (k1 = k2))) {M M' : MSet} {w w' : World} {k : K} {v : Value} (hv : (rep k).p M' v w') : ∀ (es : List MapEntry) (l : List K) (i : Nat), es.length = l.length →
    (∀ (j : Nat) (e : MapEntry) (x : K), es[j]? = some e → l[j]? = some x → (rep x).p M e.key w) →
    ∃ r, Instr.findNow desc v es i = some r ∧ ((r = none ∧ ∀ x ∈ l, x ≠ k) ∨ ∃ j e x, r = some (i + j, e.val) ∧ es[j]? = some e ∧ l[j]? = some x ∧ x = k)
  | [], l, i, h, _ => by
    have : l = [] := List.length_eq_zero_iff.1 h.symm
    subst this
    exact ⟨none, rfl, .inl ⟨rfl, by simp⟩⟩
  | e :: es, [], i, h, _ => by simp at h
  | e :: es, x :: l, i, h, h' => by
    have h0 := h' 0 e x rfl rfl
    have hs := same hv h0
    simp only [Instr.findNow, hs]
    by_cases hk : k = x
    · rw [decide_eq_true hk]
      exact ⟨_, rfl, .inr ⟨0, e, x, rfl, rfl, rfl, hk.symm⟩⟩
    · rw [decide_eq_false hk]
      obtain ⟨r, h1, h2⟩ := findNow_ents same hv es l (i + 1) (by simpa using h) (fun j e' x' h1 h2 => h' (j + 1) e' x' (by simpa using h1) (by simpa using h2))
      refine ⟨r, h1, ?_⟩
      rcases h2 with ⟨h2, h3⟩ | ⟨j, e', x', h2, h3, h4, h5⟩
      · exact .inl ⟨h2, fun y hy => by
          rcases List.mem_cons.1 hy with rfl | hy
          · exact fun e => hk e.symm
          · exact h3 y hy⟩
      · exact .inr ⟨j + 1, e', x', by rw [h2]; congr 2; omega, by simpa using h3, by simpa using h4, h5⟩
theorem find_now {K : Type} [Rep K] [DecidableEq K] {desc : TypeDesc} (same : ∀ {M M' w w'} {k1 k2 : K} {v1 v2 : Value}, (rep k1).p M v1 w → (rep k2).p M' v2 w' → Instr.sameNow desc v1 v2 = some (decide (k1 = k2)))
    {P : Program} {T : TypeId} {M M' : MSet} {w w' : World} {k : K} {v : Value} (w0 : World) (hT : P.underlying T = some desc) (hv : (rep k).p M' v w') (es : List MapEntry) (l : List K) (hl : es.length = l.length)
    (h : ∀ (j : Nat) (e : MapEntry) (x : K), es[j]? = some e → l[j]? = some x → (rep x).p M e.key w) : ∃ r, (Instr.findKey T v es).run P w0 = .ok r w0 ∧ Found k es l r := by
  obtain ⟨r, h1, h2⟩ := findNow_ents same hv es l 0 hl h
  refine ⟨r, ?_, by simpa [Found] using h2⟩
  have hun : (underlying T).run P w0 = .ok desc w0 := by simp [underlying, hT, go_sem]
  simp only [Instr.findKey, Sem.run_bind, hun, Result.andThen, h1, Sem.run_pure]

instance : MKey Int where
  desc := fun P T => P.underlying T = some (.int .i64)
  find := fun w0 hT hv es l hl h => find_now (fun h1 h2 => by
    obtain ⟨rfl, _⟩ := rep_int.1 h1
    obtain ⟨rfl, _⟩ := rep_int.1 h2
    simp only [Instr.sameNow, if_true]
    congr 1) w0 hT hv es l hl h
  check := fun e w hT _ => by
    unfold Instr.checkKey
    simp [underlying, hT, go_sem]
  bits := fun h1 h2 => by
    obtain ⟨rfl, _⟩ := rep_int.1 h1
    obtain ⟨rfl, _⟩ := rep_int.1 h2
    unfold Instr.sameBits
    simp
instance : MKey Str where
  desc := fun P T => P.underlying T = some .string
  find := fun w0 hT hv es l hl h => find_now (fun {M M' w w' k1 k2 v1 v2} h1 h2 => by
    obtain ⟨rfl, _⟩ := rep_str.1 h1
    obtain ⟨rfl, _⟩ := rep_str.1 h2
    simp only [Instr.sameNow, strV]
    congr 1
    rw [Bool.eq_iff_iff, Go.MapKept.bytes_beq, decide_eq_true_eq]
    cases k1; cases k2; simp) w0 hT hv es l hl h
  check := fun e w hT _ => by
    unfold Instr.checkKey
    simp [underlying, hT, go_sem]
  bits := fun h1 h2 => by
    obtain ⟨rfl, _⟩ := rep_str.1 h1
    obtain ⟨rfl, _⟩ := rep_str.1 h2
    unfold Instr.sameBits
    exact (Go.MapKept.bytes_beq _ _).2 rfl

section
variable {K V : Type} [Rep K] [Rep V]

/-- The entries in memory stand for l. -/
def Ents (M : MSet) (w : World) (es : List MapEntry) (l : List (K × V)) : Prop :=
  es.length = l.length ∧ ∀ (j : Nat) (e : MapEntry) (x : K × V), es[j]? = some e → l[j]? = some x → (rep x.1).p M e.key w ∧ (rep x.2).p M e.val w

theorem Ents.law {M M' : MSet} {w w' : World} {es : List MapEntry} {l : List (K × V)} (hk : Keeps M w w') (hm : ∀ k, M' k → M k ∨ w.heap.size ≤ k) (h : Ents M w es l) : Ents M' w' es l :=
  ⟨h.1, fun j e x h1 h2 => ⟨(rep x.1).law M M' _ w w' hk hm (h.2 j e x h1 h2).1, (rep x.2).law M M' _ w w' hk hm (h.2 j e x h1 h2).2⟩⟩
theorem Ents.nil {M : MSet} {w : World} : Ents M w [] ([] : List (K × V)) := ⟨rfl, fun j e x h => by simp at h⟩
theorem Ents.at {M : MSet} {w : World} {es : List MapEntry} {l : List (K × V)} (h : Ents M w es l) {j : Nat} {e : MapEntry} (hj : es[j]? = some e) : ∃ x, l[j]? = some x ∧ (rep x.1).p M e.key w ∧ (rep x.2).p M e.val w := by
  have hlt := (List.getElem?_eq_some_iff.1 hj).1
  have : j < l.length := by rw [← h.1]; exact hlt
  exact ⟨l[j], List.getElem?_eq_getElem this, h.2 j e _ hj (List.getElem?_eq_getElem this)⟩
theorem Ents.push {M : MSet} {w : World} {es : List MapEntry} {l : List (K × V)} (h : Ents M w es l) {e : MapEntry} {x : K × V} (h1 : (rep x.1).p M e.key w) (h2 : (rep x.2).p M e.val w) : Ents M w (es ++ [e]) (l ++ [x]) := by
  refine ⟨by simp [h.1], fun j e' x' hj hx => ?_⟩
  by_cases hlt : j < es.length
  · rw [List.getElem?_append_left hlt] at hj
    rw [List.getElem?_append_left (by rw [← h.1]; exact hlt)] at hx
    exact h.2 j e' x' hj hx
  · rw [List.getElem?_append_right (by omega)] at hj
    rw [List.getElem?_append_right (by rw [← h.1]; omega)] at hx
    obtain ⟨k, hk⟩ : ∃ k, j - es.length = k := ⟨_, rfl⟩
    rw [← h.1, hk] at hx
    rw [hk] at hj
    cases k with
    | zero => simp at hj hx; subst hj hx; exact ⟨h1, h2⟩
    | succ k => simp at hj
theorem Ents.set {M : MSet} {w : World} {es : List MapEntry} {l : List (K × V)} (h : Ents M w es l) {j : Nat} {e : MapEntry} {x : K × V} (h1 : (rep x.1).p M e.key w) (h2 : (rep x.2).p M e.val w) : Ents M w (es.set j e) (l.set j x) := by
  refine ⟨by simp [h.1], fun i e' x' hj hx => ?_⟩
  by_cases hij : j = i
  · subst hij
    have hlt : j < es.length := by
      rcases Nat.lt_or_ge j es.length with h' | h'
      · exact h'
      · rw [List.getElem?_eq_none (by simpa using h')] at hj; cases hj
    rw [List.getElem?_set_self hlt] at hj
    rw [List.getElem?_set_self (by rw [← h.1]; exact hlt)] at hx
    simp at hj hx; subst hj hx; exact ⟨h1, h2⟩
  · rw [List.getElem?_set_ne hij] at hj
    rw [List.getElem?_set_ne hij] at hx
    exact h.2 i e' x' hj hx
theorem Ents.erase {M : MSet} {w : World} {es : List MapEntry} {l : List (K × V)} (h : Ents M w es l) (j : Nat) : Ents M w (es.eraseIdx j) (l.eraseIdx j) := by
  refine ⟨by rw [List.length_eraseIdx, List.length_eraseIdx, h.1], fun i e' x' hj hx => ?_⟩
  rw [List.getElem?_eraseIdx] at hj hx
  by_cases hij : i < j
  · rw [if_pos hij] at hj hx; exact h.2 i e' x' hj hx
  · rw [if_neg hij] at hj hx; exact h.2 _ e' x' hj hx

theorem run_findKey [DecidableEq K] [MKey K] {P : Program} {T : Nat} {M M' : MSet} {w w' w0 : World} {k : K} {v : Value} (hT : MKey.desc K P T) (hv : (rep k).p M' v w') {es : Array MapEntry} {l : List (K × V)} (h : Ents M w es.toList l) :
    ∃ r, (Instr.findKey T v es.toList).run P w0 = .ok r w0 ∧ ((r = none ∧ ∀ x ∈ l, x.1 ≠ k) ∨ ∃ j e x, r = some (j, e.val) ∧ es.toList[j]? = some e ∧ l[j]? = some x ∧ x.1 = k) := by
  obtain ⟨r, h1, h2⟩ := MKey.find (M := M) (w := w) w0 hT hv es.toList (l.map (·.1)) (by rw [List.length_map]; exact h.1) (fun j e x hj hx => by
    rw [List.getElem?_map, Option.map_eq_some_iff] at hx
    obtain ⟨y, hy, rfl⟩ := hx
    exact (h.2 j e y hj hy).1)
  refine ⟨r, h1, ?_⟩
  rcases h2 with ⟨h2, h3⟩ | ⟨j, e, x, h2, h3, h4, h5⟩
  · exact .inl ⟨h2, fun x hx => h3 x.1 (List.mem_map.2 ⟨x, hx, rfl⟩)⟩
  · rw [List.getElem?_map, Option.map_eq_some_iff] at h4
    obtain ⟨y, hy, rfl⟩ := h4
    exact .inr ⟨j, e, y, h2, h3, hy, h5⟩

/-- What a map's block holds. -/
structure MapIs (M : MSet) (w : World) (m : GMap K V) (es : Array MapEntry) (clock : Nat) (l : List (K × V)) : Prop where
  ents : Ents M w es.toList l
  lists : Lists m l
  born : (es.toList.map (·.born)).Nodup
  low : ∀ e ∈ es.toList, e.born < clock

theorem MapIs.law {M M' : MSet} {w w' : World} {m : GMap K V} {es : Array MapEntry} {clock : Nat} {l : List (K × V)} (hk : Keeps M w w') (hm : ∀ k, M' k → M k ∨ w.heap.size ≤ k) (h : MapIs M w m es clock l) : MapIs M' w' m es clock l :=
  ⟨h.ents.law hk hm, h.lists, h.born, h.low⟩

/-- Maps that nobody writes. -/
instance : Rep (GMap K V) where
  sz := 1
  agg := false
  cells := fun M m cs w => ∃ v, cs = [v] ∧ ((v = .map none ∧ m = GMap.nil) ∨ ∃ b es clock l, v = .map (some b) ∧ ¬ M b ∧ b < w.heap.size ∧ w.heap[b]? = some (.map es clock) ∧ MapIs M w m es clock l)
  len := fun ⟨v, h, _⟩ => by rw [h]; rfl
  pos := by decide
  flat := fun ⟨v, h, hv⟩ => by
    subst h
    rcases hv with ⟨rfl, _⟩ | ⟨b, es, clock, l, rfl, _⟩ <;> rfl
  plain := fun ⟨v, h, hv⟩ c hc => by
    subst h; simp at hc; subst hc
    rcases hv with ⟨rfl, _⟩ | ⟨b, es, clock, l, rfl, _⟩ <;> rfl
  law := fun {M M' x cs w w'} hk hm ⟨v, h, hv⟩ => ⟨v, h, by
    rcases hv with hv | ⟨b, es, clock, l, h1, h2, h3, h4, h5⟩
    · exact .inl hv
    · exact .inr ⟨b, es, clock, l, h1, fun hb => (hm b hb).elim h2 (by omega), Nat.lt_of_lt_of_le h3 hk.size, by rw [hk.block b h3 h2]; exact h4, h5.law hk hm⟩⟩
theorem rep_map {m : GMap K V} {M : MSet} {v : Value} {w : World} : (rep m).p M v w ↔ (v = .map none ∧ m = GMap.nil) ∨ ∃ b es clock l, v = .map (some b) ∧ ¬ M b ∧ b < w.heap.size ∧ w.heap[b]? = some (.map es clock) ∧ MapIs M w m es clock l := by
  constructor
  · rintro ⟨cs, ⟨v', h, hv⟩, e⟩
    subst h
    have : v = v' := e
    subst this; exact hv
  · intro h; exact ⟨[v], ⟨v, rfl, h⟩, rfl⟩
instance : Fits (GMap K V) := ⟨fun _ => True⟩
instance : FitsRep (GMap K V) := ⟨fun _ => trivial⟩
/-- A map of one's own. -/
def mapV (m : GMap K V) : CPred where
  p := fun M D v w => ∃ b es clock l, v = .map (some b) ∧ (∀ k, D k ↔ k = b) ∧ M b ∧ w.heap[b]? = some (.map es clock) ∧ MapIs M w m es clock l
  inM := fun M D v w ⟨b, _, _, _, _, hD, hM, _⟩ k hk => (hD k).1 hk ▸ hM
  law := fun M M' D v w w' hk hm hown ⟨b, es, clock, l, hv, hD, hM, hh, h⟩ => by
    obtain ⟨h1, h2⟩ := hown b ((hD b).2 rfl)
    exact ⟨b, es, clock, l, hv, hD, h1, by rw [h2]; exact hh, h.law hk hm⟩
/-- The same, where its entries are told. -/
def mapP (b : Nat) (es : Array MapEntry) (clock : Nat) (l : List (K × V)) (m : GMap K V) : CPred where
  p := fun M D v w => v = .map (some b) ∧ (∀ k, D k ↔ k = b) ∧ M b ∧ w.heap[b]? = some (.map es clock) ∧ MapIs M w m es clock l
  inM := fun M D v w ⟨_, hD, hM, _⟩ k hk => (hD k).1 hk ▸ hM
  law := fun M M' D v w w' hk hm hown ⟨hv, hD, hM, hh, h⟩ => by
    obtain ⟨h1, h2⟩ := hown b ((hD b).2 rfl)
    exact ⟨hv, hD, h1, by rw [h2]; exact hh, h.law hk hm⟩
theorem mapV_rep {m : GMap K V} {M D : MSet} {w : World} {s : Value} (h : (mapV m).p M D s w) (hms : ∀ k, M k → k < w.heap.size) : (rep m).p (fun k => M k ∧ ¬ D k) s w := by
  obtain ⟨b, es, clock, l, hv, hD, hM, hh, h⟩ := h
  exact rep_map.2 (.inr ⟨b, es, clock, l, hv, fun hb => hb.2 ((hD b).2 rfl), hms b hM, hh, h.law (Keeps.refl _ _) (fun k hk => .inl hk.1)⟩)
end
end Go.DB

/-
  Maps: the operations.
-/
set_option linter.unusedVariables false
set_option linter.unusedSimpArgs false
namespace Go.DB
open Go Go.RowKit

/-- What a map's type is. -/
def MapOf (P : Program) (T kt et : TypeId) (d : Program → TypeId → Prop) : Prop := P.underlying T = some (.map kt et) ∧ d P kt

section
variable {P : Program} {K V : Type} [Rep K] [DecidableEq K] [MKey K] [Rep V] {T kt et : TypeId} {m : GMap K V} {k : K} {x z : V}
theorem run_und {w : World} {d : TypeDesc} (h : P.underlying T = some d) : (underlying T).run P w = .ok d w := by simp [underlying, h, go_sem]

theorem run_lookupAt {M M' : MSet} {w w' : World} {b : Nat} {es : Array MapEntry} {clock : Nat} {l : List (K × V)} {kv : Value} (hT : MapOf P T kt et (MKey.desc K)) (hz : ZeroOf P et z) (hv : (rep k).p M' kv w')
    (hb : w.heap[b]? = some (.map es clock)) (h : MapIs M w m es clock l) (c : Bool) :
    ∃ u, (rep (m.getD k z)).p M u w ∧ (Instr.lookup T (.map (some b)) kv c).run P w = .ok (if c then .tuple #[u, .bool (m.has k)] else u) w := by
  obtain ⟨zs, hz1, hz2⟩ := run_zeroOf hz w
  obtain ⟨r, h1, h2⟩ := run_findKey (w0 := w) hT.2 hv h.ents
  rcases h2 with ⟨rfl, h3⟩ | ⟨j, e, y, rfl, h3, h4, h5⟩
  · have hn := h.lists.fst_ne h3
    have e : m.getD k z = z := by simp [GMap.getD, hn]
    refine ⟨mkv (Rep.agg V) zs, by rw [e]; exact ⟨zs, hz2 M w, rfl⟩, ?_⟩
    simp only [GMap.has, hn, Option.isSome_none]
    simp only [Instr.lookup, Sem.run_bind, run_und hT.1, Go.MapKept.run_getObj_map hb, Sem.run_pure, MKey.check _ w hT.2 hv, h1, hz1, Result.andThen]
  · have hy := h.lists
    have hm : m.f k = some y.2 := by rw [← h5]; exact (hy.mem y.1 y.2).1 (List.mem_of_getElem? h4)
    have hval : (rep (m.getD k z)).p M e.val w := by
      have := (h.ents.2 j e y h3 h4).2
      simpa only [GMap.getD, hm, Option.getD_some] using this
    refine ⟨_, hval, ?_⟩
    simp only [GMap.has, hm, Option.isSome_some]
    simp only [Instr.lookup, Sem.run_bind, run_und hT.1, Go.MapKept.run_getObj_map hb, Sem.run_pure, MKey.check _ w hT.2 hv, h1, Result.andThen]
theorem run_lookupNil {M' : MSet} {w w' : World} {kv : Value} (hT : MapOf P T kt et (MKey.desc K)) (hz : ZeroOf P et z) (hv : (rep k).p M' kv w') (c : Bool) :
    ∃ u, (∀ M, (rep ((GMap.nil : GMap K V).getD k z)).p M u w) ∧ (Instr.lookup T (.map none) kv c).run P w = .ok (if c then .tuple #[u, .bool ((GMap.nil : GMap K V).has k)] else u) w := by
  obtain ⟨zs, hz1, hz2⟩ := run_zeroOf hz w
  obtain ⟨r, h1, h2⟩ := run_findKey (V := V) (w0 := w) (M := NoM) (w := w) (es := #[]) (l := []) hT.2 hv Ents.nil
  have hr : r = none := by
    rcases h2 with ⟨h, _⟩ | ⟨j, e, y, _, h3, _⟩
    · exact h
    · simp at h3
  subst hr
  refine ⟨_, fun M => ⟨zs, hz2 M w, rfl⟩, ?_⟩
  simp only [Instr.lookup, Sem.run_bind, run_und hT.1, Sem.run_pure, MKey.check _ w hT.2 hv, h1, hz1, Result.andThen, GMap.has, GMap.nil, Option.isSome_none]

/-- The block after a key is set. -/
theorem run_updateAt {M : MSet} {w : World} {b : Nat} {es : Array MapEntry} {clock : Nat} {l : List (K × V)} {kv xv : Value} (hT : MapOf P T kt et (MKey.desc K)) (hv : (rep k).p M kv w) (hx : (rep x).p M xv w)
    (hb : w.heap[b]? = some (.map es clock)) (h : MapIs M w m es clock l) :
    ∃ es' clock' l', (Instr.mapUpdate T (.map (some b)) kv xv).run P w = .ok () { w with heap := w.heap.setIfInBounds b (.map es' clock') } ∧ MapIs M w (m.set k x) es' clock' l' := by
  obtain ⟨r, h1, h2⟩ := run_findKey (w0 := w) hT.2 hv h.ents
  rcases h2 with ⟨rfl, h3⟩ | ⟨j, e, y, rfl, h3, h4, h5⟩
  · refine ⟨es.push { key := kv, val := xv, born := clock }, clock + 1, l ++ [(k, x)], ?_, ⟨?_, h.lists.push h3, ?_, ?_⟩⟩
    · simp only [Instr.mapUpdate, Sem.run_bind, run_und hT.1, Go.MapKept.run_getObj_map hb, Sem.run_pure, MKey.check _ w hT.2 hv, h1, Result.andThen, Go.MapKept.run_setObj_map _ hb]
    · rw [Array.toList_push]; exact h.ents.push (x := (k, x)) hv hx
    · rw [Array.toList_push, List.map_append, List.nodup_append]
      refine ⟨h.born, by simp, fun a ha b' hb' => ?_⟩
      obtain ⟨e, he, rfl⟩ := List.mem_map.1 ha
      simp at hb'; subst hb'
      have := h.low e he
      omega
    · intro e he
      rw [Array.toList_push] at he
      rcases List.mem_append.1 he with he | he
      · have := h.low e he; omega
      · simp at he; subst he; exact Nat.lt_succ_self _
  · have hj : es[j]? = some e := by rw [← Array.getElem?_toList]; exact h3
    have hset : (es.modify j fun e => { e with key := kv, val := xv }).toList = es.toList.set j { e with key := kv, val := xv } := by
      rw [Array.toList_modify]
      apply List.ext_getElem?
      intro i
      rw [List.getElem?_modify, List.getElem?_set]
      by_cases hij : j = i
      · subst hij
        have hlt := (List.getElem?_eq_some_iff.1 h3).1
        simp [h3]
        simpa using hlt
      · simp [hij]
    have hko := (h.ents.2 j e y h3 h4).1
    rw [h5] at hko
    refine ⟨es.modify j (fun e => { e with key := kv, val := xv }), clock, l.set j (k, x), ?_, ⟨?_, ?_, ?_, ?_⟩⟩
    · simp only [Instr.mapUpdate, Sem.run_bind, run_und hT.1, Go.MapKept.run_getObj_map hb, Sem.run_pure, MKey.check _ w hT.2 hv, h1, Result.andThen, hj, Option.map_some, Option.getD_some, Instr.keyThatStays, MKey.bits hko hv, if_true, Go.MapKept.run_setObj_map _ hb]
    · rw [hset]; exact h.ents.set (x := (k, x)) hv hx
    · rw [← h5]; exact h.lists.put h4
    · rw [hset, List.map_set]
      have : (es.toList.map (·.born)).set j e.born = es.toList.map (·.born) := by
        apply List.ext_getElem?
        intro i
        by_cases hij : j = i
        · subst hij
          rw [List.getElem?_set_self (by simpa using (List.getElem?_eq_some_iff.1 h3).1), List.getElem?_map, h3]; rfl
        · rw [List.getElem?_set_ne hij]
      rw [this]; exact h.born
    · intro e' he'
      rw [hset] at he'
      rcases List.mem_or_eq_of_mem_set he' with he' | rfl
      · exact h.low e' he'
      · exact h.low e (List.mem_of_getElem? h3)
end

section
variable {P : Program} {ops : Array Oper} {fs : Nat} {L : Slots} {B : Owns} {G : Prop}
variable {ty : TypeId} {pos : String} {after : Array Edge} {g : Option (Nat × Bool)} {xr : List Nat} {d : Option Tmp}
variable {K V : Type} [Rep K] [DecidableEq K] [MKey K] [Rep V] {T kt et : TypeId} {m : GMap K V} {k : K} {z : V}

theorem tup2_of {α β : Type} [Rep α] [Rep β] {r : α × β} {M : MSet} {w : World} {u v : Value} (h1 : (rep r.1).p M u w) (h2 : (rep r.2).p M v w) : (tup2 r).p M (.tuple #[u, v]) w :=
  ⟨[u, v], rfl, rfl, fun i S y hi hy => by
    match i with
    | 0 => simp at hi hy; subst hi hy; exact h1
    | 1 => simp at hi hy; subst hi hy; exact h2
    | i + 2 => simp at hi⟩

theorem StepOK.lookup {x y : Operand} (hg : Guard ops g L G) (hT : MapOf P T kt et (MKey.desc K)) (hz : ZeroOf P et z) (hx : Opd L G x (rep m)) (hy : Opd L G y (rep k)) :
    StepOK P ops fs ⟨d, .lookup T x y false, ty, pos, after, g⟩ L B (xr, []) ⟨G, rep (m.getD k z)⟩ [] :=
  .pure hg fun M a w _ hs hG => by
    have h1 := rep_map.1 (hx.get hs (fun t ht => looksAt_op (by simp [Op.operands, ht])) hG)
    have h2 := hy.get hs (fun t ht => looksAt_op (by simp [Op.operands, ht])) hG
    rcases h1 with ⟨hv, rfl⟩ | ⟨b, es, clock, l, hv, hM, hb, hh, hi⟩
    · obtain ⟨u, hu, hr⟩ := run_lookupNil (V := V) (w := w) hT hz h2 false
      refine ⟨u, ?_, hu M⟩
      simp only [execOp, hv]; rw [Sem.run_bind, hr]; rfl
    · obtain ⟨u, hu, hr⟩ := run_lookupAt hT hz h2 hh hi false
      refine ⟨u, ?_, hu⟩
      simp only [execOp, hv]; rw [Sem.run_bind, hr]; rfl
theorem StepOK.lookupOk {x y : Operand} (hg : Guard ops g L G) (hT : MapOf P T kt et (MKey.desc K)) (hz : ZeroOf P et z) (hx : Opd L G x (rep m)) (hy : Opd L G y (rep k)) :
    StepOK P ops fs ⟨d, .lookup T x y true, ty, pos, after, g⟩ L B (xr, []) ⟨G, tup2 (m.getD k z, m.has k)⟩ [] :=
  .pure hg fun M a w _ hs hG => by
    have h1 := rep_map.1 (hx.get hs (fun t ht => looksAt_op (by simp [Op.operands, ht])) hG)
    have h2 := hy.get hs (fun t ht => looksAt_op (by simp [Op.operands, ht])) hG
    rcases h1 with ⟨hv, rfl⟩ | ⟨b, es, clock, l, hv, hM, hb, hh, hi⟩
    · obtain ⟨u, hu, hr⟩ := run_lookupNil (V := V) (w := w) hT hz h2 true
      refine ⟨_, ?_, tup2_of (hu M) (rep_bool.2 rfl)⟩
      simp only [execOp, hv]; rw [Sem.run_bind, hr]; rfl
    · obtain ⟨u, hu, hr⟩ := run_lookupAt hT hz h2 hh hi true
      refine ⟨_, ?_, tup2_of hu (rep_bool.2 rfl)⟩
      simp only [execOp, hv]; rw [Sem.run_bind, hr]; rfl
/-- Memory that holds a map. -/
def OwnMap (C : CPred) (m : GMap K V) : Prop := ∀ M D v w, C.p M D v w → (mapV m).p M D v w
omit [DecidableEq K] [MKey K] in
theorem ownMap_self : OwnMap (mapV m) m := fun _ _ _ _ h => h
/-- Of one's own: what it gives must not lie in memory that is written. -/
theorem StepOK.lookupO {x y : Operand} {q : Nat} (hg : Guard ops g L G) (hT : MapOf P T kt et (MKey.desc K)) (hz : ZeroOf P et z) {C : CPred} (hC : OwnMap C m) (hx : RowArg L B x q C) (hy : Opd L G y (rep k)) :
    StepOK P ops fs ⟨d, .lookup T x y false, ty, pos, after, g⟩ L B ([q], []) ⟨G, rep (m.getD k z)⟩ [] :=
  .of hg fun M D a w hm hs hsB hG => by
    obtain ⟨hcc, _⟩ := hx.get hs (fun t ht => looksAt_op (by simp [Op.operands, ht])) hsB (by simp)
    obtain ⟨b, es, clock, l, hv, hD, hM, hh, hi⟩ := hC _ _ _ _ hcc
    have h2 := hy.get hs (fun t ht => looksAt_op (by simp [Op.operands, ht])) hG
    obtain ⟨u, hu, hr⟩ := run_lookupAt hT hz h2 hh hi false
    refine Does.value (v := u) (w' := w) ?_ ⟨Keeps.refl _ _, hu⟩
    simp only [execOp, hv]; rw [Sem.run_bind, hr]; rfl
omit [DecidableEq K] [MKey K] in
theorem StepOK.makeMap {d : Nat} (hd : Nat.blt d fs = true) :
    StepOK P ops fs ⟨some d, .makeMap T none, ty, pos, after, none⟩ L B ([], [d]) ⟨True, anyV⟩ [(d, some (mapV (GMap.nil : GMap K V)))] := by
  refine .doing fun M D a w hsz hm hs _ => ?_
  refine Does.value (v := .map (some w.heap.size)) (w' := w.alloc (.map #[] 0)) rfl (.one (fun k => M k ∨ k = w.heap.size) (fun k => k = w.heap.size) (Ext.alloc _ _) (fun k h => .inl h) (fun k h => h.imp id (by omega)) (fun k h => ?_) ⟨fun _ => trivial, fun hf => (hf trivial).elim⟩ ?_ (fun k h => by omega))
  · rw [size_new]
    rcases h with h | h
    · have := hm k h; omega
    · omega
  · rw [val_self (by rw [hsz]; exact Nat.le_of_ble_eq_true hd)]
    refine ⟨w.heap.size, #[], 0, [], rfl, fun k => Iff.rfl, .inr rfl, ?_, ⟨Ents.nil, Lists.nil, by simp, by simp⟩⟩
    show (w.heap.push _)[w.heap.size]? = _
    rw [Array.getElem?_push_size]

theorem keeps_set {b : Nat} {o : Obj} {w : World} {D : MSet} (hD : ∀ k, D k ↔ k = b) : Keeps D w { w with heap := w.heap.setIfInBounds b o } :=
  ⟨rfl, rfl, rfl, by simp, fun j _ hn => by
    have : j ≠ b := fun e => hn ((hD j).2 e)
    simp [Array.getElem?_setIfInBounds, Ne.symm this]⟩
theorem set_self {b : Nat} {o o' : Obj} {w : World} (h : w.heap[b]? = some o) : (w.heap.setIfInBounds b o')[b]? = some o' := by
  have hlt : b < w.heap.size := (Array.getElem?_eq_some_iff.1 h).1
  simp [Array.getElem?_setIfInBounds, hlt]

omit [DecidableEq K] [MKey K] in
theorem MapIs.stay {M D : MSet} {w w' : World} {es : Array MapEntry} {clock : Nat} {l : List (K × V)} (hk : Keeps D w w') (hD : ∀ k, D k → M k) (h : MapIs M w m es clock l) : MapIs M w' m es clock l :=
  h.law (hk.mono (fun k _ h => hD k h)) (fun k h => .inl h)

theorem StepOK.mapUpdate {x y u : Operand} {q : Nat} {s : Value} {v : V} (hT : MapOf P T kt et (MKey.desc K)) (hx : Opd L True x (isV s)) (hq : lookB B q = some (CPred.at s (mapV m))) (hy : Opd L True y (rep k)) (hu : Opd L True u (rep v)) :
    StepOK P ops fs ⟨none, .mapUpdate T x y u, ty, pos, after, none⟩ L B ([q], [q]) ⟨True, anyV⟩ [(q, some (CPred.at s (mapV (m.set k v))))] := by
  refine .doing fun M D a w hsz hm hs hsB => ?_
  have he : a.eval x = s := (rep_raw.1 (hx.get hs (fun t ht => looksAt_op (by simp [Op.operands, ht])) trivial)).1
  obtain ⟨b, es, clock, l, hv, hD, hM, hh, hi⟩ := hsB.has q (by simp) _ hq
  have h2 := hy.get hs (fun t ht => looksAt_op (by simp [Op.operands, ht])) trivial
  have h3 := hu.get hs (fun t ht => looksAt_op (by simp [Op.operands, ht])) trivial
  obtain ⟨es', clock', l', hr, hi'⟩ := run_updateAt hT h2 h3 hh hi
  have hk : Keeps (D q) w { w with heap := w.heap.setIfInBounds b (.map es' clock') } := keeps_set hD
  refine Does.skip ?_ rfl (.turn hq hk (fun j h => by simpa using hm j h) ⟨fun _ => trivial, fun hf => (hf trivial).elim⟩ ⟨b, es', clock', l', hv, hD, hM, set_self hh, hi'.stay hk (fun j h => (hD j).1 h ▸ hM)⟩)
  simp only [execOp, he, hv]; rw [Sem.run_bind, hr]; rfl
end
end Go.DB

/-
  Ranges over maps.
-/
set_option linter.unusedVariables false
set_option linter.unusedSimpArgs false
namespace Go.DB
open Go Go.RowKit

section
variable {K V : Type}
/-- Entries that have come, in the order in which they came. -/
def Part (m : GMap K V) (p : List (K × V)) : Prop := (p.map (·.1)).Nodup ∧ ∀ x ∈ p, m.f x.1 = some x.2
/-- What can come next. -/
def NextOf (m : GMap K V) (p : List (K × V)) : Option (K × V) → Prop
  | none => Lists m p
  | some x => m.f x.1 = some x.2 ∧ x.1 ∉ p.map (·.1)

/-- The entries of l whose stamps an iterator has seen. -/
def SeenAt (es : Array MapEntry) (l : List (K × V)) (seen : Array Nat) (p : List (K × V)) : Prop :=
  ∃ js : List Nat, js.Nodup ∧ (∀ j ∈ js, j < es.size) ∧ seen.toList = js.map (fun j => (es.toList[j]?).elim 0 (·.born)) ∧ p.map some = js.map (fun j => l[j]?)

theorem SeenAt.nil {es : Array MapEntry} {l : List (K × V)} : SeenAt es l #[] [] := ⟨[], List.nodup_nil, by simp, rfl, rfl⟩
end

section
variable {K V : Type} [Rep K] [Rep V] {m : GMap K V} {M : MSet} {w : World} {es : Array MapEntry} {clock : Nat} {l p : List (K × V)} {seen : Array Nat}

theorem SeenAt.mem (h : SeenAt es l seen p) (hi : MapIs M w m es clock l) {x : K × V} (hx : x ∈ p) : ∃ j e, j < es.size ∧ es.toList[j]? = some e ∧ l[j]? = some x ∧ e.born ∈ seen.toList := by
  obtain ⟨js, h1, h2, h3, h4⟩ := h
  have : some x ∈ js.map (fun j => l[j]?) := by rw [← h4]; exact List.mem_map.2 ⟨x, hx, rfl⟩
  obtain ⟨j, hj, e⟩ := List.mem_map.1 this
  have hlt : j < es.toList.length := by simpa using h2 j hj
  refine ⟨j, es.toList[j], by simpa using hlt, List.getElem?_eq_getElem hlt, e, ?_⟩
  rw [h3]
  exact List.mem_map.2 ⟨j, hj, by rw [List.getElem?_eq_getElem hlt]; rfl⟩

theorem SeenAt.all (h : SeenAt es l seen p) (hi : MapIs M w m es clock l) (h0 : (leftOf es seen).size = 0) : Lists m p := by
  obtain ⟨js, h1, h2, h3, h4⟩ := h
  have hlen : es.size = l.length := by simpa using hi.ents.1
  have hcov : ∀ j, j < es.size → j ∈ js := by
    intro j hj
    have hjl : j < es.toList.length := by simpa using hj
    have he : es.toList[j] ∈ es.toList := List.getElem_mem hjl
    have hseen : es.toList[j].born ∈ seen.toList := by
      by_cases hc : es.toList[j].born ∈ seen.toList
      · exact hc
      · exfalso
        have hin : es.toList[j] ∈ (leftOf es seen).toList := by
          unfold leftOf
          rw [Array.toList_filter, List.mem_filter]
          refine ⟨he, ?_⟩
          simp only [Bool.not_eq_true', Array.contains_eq_mem, decide_eq_false_iff_not]
          intro hh; exact hc (by simpa using hh)
        have : (leftOf es seen).toList.length = 0 := by simpa using h0
        rw [List.length_eq_zero_iff.1 this] at hin
        cases hin
    rw [h3] at hseen
    obtain ⟨i, hi', e⟩ := List.mem_map.1 hseen
    have hil : i < es.toList.length := by simpa using h2 i hi'
    rw [List.getElem?_eq_getElem hil] at e
    have e1 : (es.toList.map (·.born))[i]? = some es.toList[j].born := by rw [List.getElem?_map, List.getElem?_eq_getElem hil]; exact congrArg some e
    have e2 : (es.toList.map (·.born))[j]? = some es.toList[j].born := by rw [List.getElem?_map, List.getElem?_eq_getElem hjl]; rfl
    have := nodup_idx hi.born e1 e2
    subst this; exact hi'
  have hp : js.Perm (List.range es.size) := (List.perm_ext_iff_of_nodup h1 List.nodup_range).2 fun j => by
    rw [List.mem_range]
    exact ⟨h2 j, hcov j⟩
  have hl : l.map some = (List.range es.size).map (fun j => l[j]?) := by
    apply List.ext_getElem?
    intro i
    rw [List.getElem?_map, List.getElem?_map]
    by_cases hlt : i < l.length
    · rw [List.getElem?_range (by omega), List.getElem?_eq_getElem hlt]; simp [hlt]
    · rw [List.getElem?_eq_none (by omega)]
      rw [List.getElem?_eq_none (by simp; omega)]; rfl
  have hpp : (l.map some).Perm (p.map some) := by
    rw [hl, h4]; exact (hp.map _).symm
  have hq := hpp.filterMap id
  have e : ∀ q : List (K × V), (q.map some).filterMap id = q := fun q => by
    rw [List.filterMap_map]
    exact List.filterMap_some
  rw [e, e] at hq
  exact hi.lists.of_perm hq

theorem SeenAt.more (h : SeenAt es l seen p) (hi : MapIs M w m es clock l) {e : MapEntry} (he : e ∈ (leftOf es seen).toList) :
    ∃ x, NextOf m p (some x) ∧ SeenAt es l (seen.push e.born) (p ++ [x]) := by
  unfold leftOf at he
  rw [Array.toList_filter, List.mem_filter] at he
  obtain ⟨he, hns⟩ := he
  have hns' : e.born ∉ seen.toList := by
    simp only [Bool.not_eq_true', Array.contains_eq_mem, decide_eq_false_iff_not] at hns
    intro hh; exact hns (by simpa using hh)
  obtain ⟨j, hj⟩ := List.getElem?_of_mem he
  obtain ⟨x, hx, _, _⟩ := hi.ents.at hj
  have hjl : j < es.toList.length := (List.getElem?_eq_some_iff.1 hj).1
  have hnew : ∀ y ∈ p, y.1 ≠ x.1 := by
    intro y hy e1
    obtain ⟨j', e', hlt, h1, h2, h3⟩ := h.mem hi hy
    have a1 : (l.map (·.1))[j']? = some x.1 := by rw [List.getElem?_map, h2]; exact congrArg some e1
    have a2 : (l.map (·.1))[j]? = some x.1 := by rw [List.getElem?_map, hx]; rfl
    have := nodup_idx hi.lists.nodup a1 a2
    subst this
    rw [hj] at h1; simp at h1; subst h1
    exact hns' h3
  refine ⟨x, ⟨(hi.lists.mem x.1 x.2).1 (List.mem_of_getElem? hx), fun hm => ?_⟩, ?_⟩
  · obtain ⟨y, hy, e1⟩ := List.mem_map.1 hm
    exact hnew y hy e1
  · obtain ⟨js, h1, h2, h3, h4⟩ := h
    refine ⟨js ++ [j], ?_, fun i hi' => ?_, ?_, ?_⟩
    · rw [List.nodup_append]
      refine ⟨h1, by simp, fun a ha b hb => ?_⟩
      simp at hb; subst hb
      intro e1; subst e1
      apply hns'
      rw [h3]; exact List.mem_map.2 ⟨a, ha, by rw [hj]; rfl⟩
    · rcases List.mem_append.1 hi' with h' | h'
      · exact h2 i h'
      · simp at h'; subst h'; simpa using hjl
    · rw [Array.toList_push, h3, List.map_append, List.map_cons, List.map_nil, hj]; rfl
    · rw [List.map_append, h4, List.map_append]; simp [hx]

/-- An iterator over a map that nobody writes: what has come. -/
def iterF (m : GMap K V) (p : List (K × V)) : CPred where
  p := fun M D v w => ∃ r, v = .pointer (some ⟨r, 0, none⟩) ∧ (∀ k, D k ↔ k = r) ∧ M r ∧
    ((m = GMap.nil ∧ p = [] ∧ ∃ seen, w.heap[r]? = some (.mapIter none 0 seen 0)) ∨
     ∃ b es clock l seen, ¬ M b ∧ b < w.heap.size ∧ w.heap[b]? = some (.map es clock) ∧ MapIs M w m es clock l ∧ w.heap[r]? = some (.mapIter (some b) clock seen clock) ∧ SeenAt es l seen p)
  inM := fun M D v w ⟨r, hv, hD, hM, _⟩ k hk => (hD k).1 hk ▸ hM
  law := fun M M' D v w w' hk hm hown ⟨r, hv, hD, hM, h⟩ => by
    obtain ⟨h1, h2⟩ := hown r ((hD r).2 rfl)
    refine ⟨r, hv, hD, h1, ?_⟩
    rw [h2]
    rcases h with h | ⟨b, es, clock, l, seen, a1, a2, a3, a4, a5, a6⟩
    · exact .inl h
    · exact .inr ⟨b, es, clock, l, seen, fun hb => (hm b hb).elim a1 (by omega), Nat.lt_of_lt_of_le a2 hk.size, by rw [hk.block b a2 a1]; exact a3, a4.law hk hm, a5, a6⟩
/-- An iterator over a map of one's own whose entries are told. -/
def iterO (b : Nat) (es : Array MapEntry) (clock : Nat) (l : List (K × V)) (p : List (K × V)) : CPred where
  p := fun M D v w => ∃ r seen, v = .pointer (some ⟨r, 0, none⟩) ∧ (∀ k, D k ↔ k = r) ∧ M r ∧ w.heap[r]? = some (.mapIter (some b) clock seen clock) ∧ SeenAt es l seen p
  inM := fun M D v w ⟨r, _, hv, hD, hM, _⟩ k hk => (hD k).1 hk ▸ hM
  law := fun M M' D v w w' hk hm hown ⟨r, seen, hv, hD, hM, hh, hs⟩ => by
    obtain ⟨h1, h2⟩ := hown r ((hD r).2 rfl)
    exact ⟨r, seen, hv, hD, h1, by rw [h2]; exact hh, hs⟩
end

section
variable {K V : Type}
/-- A step is done; the slot has what `next` gave. -/
def nextedV (r : Nat) (C : List (K × V) → CPred) (m : GMap K V) (p : List (K × V)) : CPred where
  p := fun M D v w => ∃ o vs, NextOf m p o ∧ v = .tuple vs ∧ vs[0]? = some (.bool o.isSome) ∧ (C (p ++ o.toList)).p M D (ptr r 0) w
  inM := fun M D v w ⟨o, vs, _, _, _, h⟩ => (C _).inM M D _ w h
  law := fun M M' D v w w' hk hm hown ⟨o, vs, h1, h2, h3, h⟩ => ⟨o, vs, h1, h2, h3, (C _).law M M' D _ w w' hk hm hown h⟩
/-- The slot says whether there was an entry. -/
def okedV (r : Nat) (C : List (K × V) → CPred) (m : GMap K V) (p : List (K × V)) : CPred where
  p := fun M D v w => ∃ o, NextOf m p o ∧ v = .bool o.isSome ∧ (C (p ++ o.toList)).p M D (ptr r 0) w
  inM := fun M D v w ⟨o, _, _, h⟩ => (C _).inM M D _ w h
  law := fun M M' D v w w' hk hm hown ⟨o, h1, h2, h⟩ => ⟨o, h1, h2, (C _).law M M' D _ w w' hk hm hown h⟩
end

section
variable {P : Program} {ops : Array Oper} {fs : Nat} {L : Slots} {B : Owns} {G : Prop}
variable {ty : TypeId} {pos : String} {after : Array Edge} {g : Option (Nat × Bool)} {xr : List Nat}
variable {K V : Type} [Rep K] [Rep V] {T kt et : TypeId} {m : GMap K V}

end

end Go.DB

/-
  Ranges over maps: what a loop makes of a map whose entries come in any order, and the walk.
-/
set_option linter.unusedVariables false
set_option linter.unusedSimpArgs false
namespace Go.DB
open Go Go.RowKit

section
variable {K V σ O : Type}
def mfoldE (step : K → V → σ → Option (Res σ O)) (fin : σ → O) : List (K × V) → σ → Option O
  | [], s => some (fin s)
  | x :: l, s => (step x.1 x.2 s).bind (fun r => match r with
    | .nx s' => mfoldE step fin l s'
    | .ab o => some o)
def mfold (step : K → V → σ → Option σ) : List (K × V) → σ → Option σ
  | [], s => some s
  | x :: l, s => (step x.1 x.2 s).bind (fun s' => mfold step l s')
open Classical in
/-- A loop over the entries of a map: what comes out in whatever order they come. -/
noncomputable def mrangeE (m : GMap K V) (step : K → V → σ → Option (Res σ O)) (fin : σ → O) (s0 : σ) : Option O :=
  if h : ∃ r, ∀ l, Lists m l → mfoldE step fin l s0 = some r then some h.choose else none
open Classical in
noncomputable def mrange (m : GMap K V) (step : K → V → σ → Option σ) (s0 : σ) : Option σ :=
  if h : ∃ r, ∀ l, Lists m l → mfold step l s0 = some r then some h.choose else none

def mstepE (step : K → V → σ → Option (Res σ O)) (fin : σ → O) (p : List (K × V) × σ) (o : Option (K × V)) : Option (Step (List (K × V) × σ) O) := match o with
  | none => some (.done (fin p.2))
  | some x => bindD (step x.1 x.2 p.2) (fun s' => some (.again (p.1 ++ [x], s')))
def mstep (step : K → V → σ → Option σ) (p : List (K × V) × σ) (o : Option (K × V)) : Option (Step (List (K × V) × σ) σ) := match o with
  | none => some (.done p.2)
  | some x => (step x.1 x.2 p.2).bind (fun s' => some (.again (p.1 ++ [x], s')))

variable {m : GMap K V}
open Classical in
theorem Part.more {p l0 : List (K × V)} (hp : Part m p) (h0 : Lists m l0) : ∃ l, Lists m (p ++ l) := by
  refine ⟨l0.filter (fun y => decide (y.1 ∉ p.map (·.1))), ?_, fun k v => ?_⟩
  · rw [List.map_append, List.nodup_append]
    refine ⟨hp.1, h0.nodup.sublist ((List.filter_sublist).map _), fun a ha b hb e => ?_⟩
    obtain ⟨y, hy, rfl⟩ := List.mem_map.1 hb
    have := (List.mem_filter.1 hy).2
    simp only [decide_eq_true_eq] at this
    exact this (e ▸ ha)
  · rw [List.mem_append, List.mem_filter]
    constructor
    · rintro (h | ⟨h, _⟩)
      · exact hp.2 _ h
      · exact (h0.mem k v).1 h
    · intro h
      by_cases hk : k ∈ p.map (·.1)
      · obtain ⟨y, hy, rfl⟩ := List.mem_map.1 hk
        have := hp.2 y hy
        rw [h] at this
        left
        have e : v = y.2 := Option.some.inj this
        rw [e]; exact hy
      · exact .inr ⟨(h0.mem k v).2 h, by simpa using hk⟩
theorem Part.next {p : List (K × V)} {x : K × V} (hp : Part m p) (h : NextOf m p (some x)) : Part m (p ++ [x]) := by
  refine ⟨?_, fun y hy => ?_⟩
  · rw [List.map_append, List.nodup_append]
    refine ⟨hp.1, by simp, fun a ha b hb e => ?_⟩
    simp at hb; subst hb
    exact h.2 (e ▸ ha)
  · rcases List.mem_append.1 hy with h1 | h1
    · exact hp.2 y h1
    · simp at h1; subst h1; exact h.1
theorem Part.len {p l0 : List (K × V)} (hp : Part m p) (h0 : Lists m l0) : p.length ≤ l0.length := by
  obtain ⟨l, hl⟩ := hp.more h0
  have := (hl.perm h0).length_eq
  rw [List.length_append] at this
  omega
end

section
variable {P : Program} {Q : Exit → Act → World → Prop} {n : Nat} {F : Fr} {L : Slots} {B : Owns}
variable {K V : Type} {m : GMap K V}

variable [Rep K] [Rep V]
/-- A map has entries that can be listed. -/
theorem Cod.lists {c : Code} {t : Nat} {cd : Prop} (hl : look L t = some ⟨cd, rep m⟩) (hc : cd) (h : (∃ l, Lists m l) → Cod P c Q n F L B) : Cod P c Q n F L B := by
  intro a w hs
  obtain ⟨M, D, h1⟩ := id hs
  obtain ⟨v, hv, he⟩ := h1.has t _ hl
  rcases rep_map.1 (he.1 hc) with ⟨_, rfl⟩ | ⟨_, _, _, l, _, _, _, _, h2⟩
  · exact h ⟨[], Lists.nil⟩ a w hs
  · exact h ⟨l, h2.lists⟩ a w hs
theorem mapV_map {M D : MSet} {w : World} {s : Value} (h : (mapV m).p M D s w) : ∃ b, s = .map (some b) := by
  obtain ⟨b, _, _, _, hv, _⟩ := h; exact ⟨b, hv⟩
/-- A slot's map gets a name. -/
theorem Cod.nameMap {c : Code} {t g : Nat} (hl : lookB B t = some (mapV m)) (ht : Nat.blt t n = true) (hg : lookB B g = none)
    (k : ∀ s, Cod P c Q n F ((t, ⟨True, isV s⟩) :: L) ((g, some (CPred.at s (mapV m))) :: (t, none) :: B)) : Cod P c Q n F L B := by
  intro a w hs
  obtain ⟨M, D, h⟩ := id hs
  have hC := h.hasB t _ hl
  refine k (Act.val a t) a w ⟨M, _, h.rekey hl hg hC fun t' e he => ?_⟩
  simp only [look] at he
  by_cases hne : t = t'
  · subst hne
    simp at he; subst he
    have hlt : t < a.tmps.size := by rw [h.size]; exact Nat.le_of_ble_eq_true ht
    refine ⟨Act.val a t, by unfold Act.val; simp [hlt], fun _ => ?_, fun hf => (hf trivial).elim⟩
    obtain ⟨b, hv⟩ := mapV_map hC
    rw [hv]
    exact rep_raw.2 ⟨rfl, rfl, rfl⟩
  · rw [beq_ne hne, cond_false] at he; exact h.has t' e he
end

end Go.DB

/-
  Structs that are made of memory of one's own: any rows or maps.
-/
set_option linter.unusedVariables false
set_option linter.unusedSimpArgs false
namespace Go.DB
open Go Go.RowKit

/-- What is told by a value of one cell. -/
def OneC (C : CPred) : Prop := ∀ M D v w, C.p M D v w → isOne v = true ∧ v.cells = #[v]
/-- What is written no more is what x stands for. -/
def FrzC {β : Type} [Rep β] (R : CPred) (x : β) : Prop := ∀ (M D : MSet) (s : Value) (w : World), R.p M D s w → (∀ k, M k → k < w.heap.size) → (rep x).p (fun k => M k ∧ ¬ D k) s w
theorem frzRow {α : Type} [Rep α] {E : Nat} {l : List α} : FrzC (rowV E l) l := fun M D s w h hms => rowV_rep M D w s h hms
theorem frzMap {K V : Type} [Rep K] [Rep V] {m : GMap K V} : FrzC (mapV m) m := fun M D s w h hms => mapV_rep h hms
theorem oneMap {K V : Type} [Rep K] [Rep V] {m : GMap K V} : OneC (mapV m) := fun _ _ _ _ h => by
  obtain ⟨b, hv⟩ := mapV_map h
  rw [hv]; exact ⟨rfl, rfl⟩

section
variable {P : Program} {ops : Array Oper} {fs : Nat} {L : Slots} {B : Owns} {G : Prop}
variable {ty : TypeId} {pos : String} {after : Array Edge} {g : Option (Nat × Bool)} {xr : List Nat} {d : Option Tmp}

/-- A struct that is made of rows of one's own (two of them). -/
theorem StepOK.buildG2 {T d t1 t2 : Nat} {α : Type} [Rep α] {R1 R2 : CPred} (o1 : OneC R1) (o2 : OneC R2) {parts : Array (Nat × Operand)} {x0 : α} (mk : Value → Value → α) {zero : List Value} {places : List (Nat × Nat)} {Ss : Value → Value → List SPred} (hb : BuildAt P T zero places) (hz : ∀ M w, Rep.cells M x0 zero w) (hagg : Rep.agg α = true)
    (hd : Nat.blt d fs = true) (h1 : lookB B t1 = some R1) (h2 : lookB B t2 = some R2) (hn1 : Nat.blt t1 fs = true) (hn2 : Nat.blt t2 fs = true) (h12 : (t1 == t2) = false) (hd1 : (d == t1) = false) (hd2 : (d == t2) = false)
    (hx : ∀ s1 s2, OpdL ((t1, ⟨True, isV s1⟩) :: (t2, ⟨True, isV s2⟩) :: L) True (parts.toList.map (·.2)) (Ss s1 s2)) (hf : ∀ s1 s2, Fills places x0 (parts.toList.map (·.1)) (Ss s1 s2) (mk s1 s2)) :
    StepOK P ops fs ⟨some d, .build T parts, ty, pos, after, none⟩ L B ([t1, t2], [d, t1, t2]) ⟨True, anyV⟩ [(d, some (deep (fun s1 => deep (fun s2 => valV (mk s1 s2)) R2) R1)), (t1, none), (t2, none)] := by
  have h12 : t1 ≠ t2 := by simpa using h12
  have hd1 : d ≠ t1 := by simpa using hd1
  have hd2 : d ≠ t2 := by simpa using hd2
  refine .doing fun M D a w hsz hm hs hsB => ?_
  have hR1 := hsB.has t1 (by simp) _ h1
  have hR2 := hsB.has t2 (by simp) _ h2
  have hap := hsB.apart t1 (by simp) t2 (by simp) _ _ h1 h2 h12
  have e1 := o1 _ _ _ _ hR1
  have e2 := o2 _ _ _ _ hR2
  have hs2 := (hs.extend (t := t2) (by rw [hsz]; exact Nat.le_of_ble_eq_true hn2) e2.1 e2.2).extend (t := t1) (by rw [hsz]; exact Nat.le_of_ble_eq_true hn1) e1.1 e1.2
  have ha := (hx (Act.val a t1) (Act.val a t2)).get hs2 (fun x hxm t ht => looksAt_op (by
    subst ht
    obtain ⟨p, hp, he⟩ := List.mem_map.1 hxm
    simp only [Op.operands]
    rw [List.mem_toArray]
    exact List.mem_map.2 ⟨p, hp, he⟩)) trivial
  obtain ⟨v, hr, hv⟩ := ex_buildF (P := P) (d := some d) (ty := ty) (pos := pos) (after := after) (g := none) (T := T) hb hz hagg ha (hf _ _)
  refine Does.value hr ?_
  have m1 : ∀ j, D t1 j → Mine [d, t1, t2] B D j := fun j hj => ⟨t1, by simp, _, h1, hj⟩
  have m2 : ∀ j, D t2 j → Mine [d, t1, t2] B D j := fun j hj => ⟨t2, by simp, _, h2, hj⟩
  have cs : ∀ t c, lookB [(d, some (deep (fun s1 => deep (fun s2 => valV (mk s1 s2)) R2) R1)), (t1, none), (t2, none)] t = some c → t = d ∧ c = deep (fun s1 => deep (fun s2 => valV (mk s1 s2)) R2) R1 := by
    intro t c hc
    simp only [lookB] at hc
    by_cases q1 : d = t
    · subst q1; simp at hc; exact ⟨rfl, hc.symm⟩
    · rw [beq_ne q1, cond_false] at hc
      by_cases q2 : t1 = t
      · subst q2; simp at hc
      · rw [beq_ne q2, cond_false] at hc
        by_cases q3 : t2 = t
        · subst q3; simp at hc
        · rw [beq_ne q3, cond_false] at hc; cases hc
  refine ⟨M, fun _ j => D t1 j ∨ D t2 j, Keeps.refl _ _, fun j h => .inl h, fun j h => .inl h, hm, ⟨fun _ => trivial, fun hf => (hf trivial).elim⟩, fun t c hc => ?_, fun t t' c c' hc hc' hne => ?_⟩
  · obtain ⟨rfl, rfl⟩ := cs t c hc
    refine ⟨?_, fun j hj => .inl (hj.elim (m1 j) (m2 j))⟩
    rw [val_self (by rw [hsz]; exact Nat.le_of_ble_eq_true hd)]
    refine ⟨Act.val a t1, D t2, D t1, ⟨Act.val a t2, NoM, D t2, ⟨fun k h => h, hv⟩, hR2, fun j => ⟨fun h => .inr h, fun h => h.elim (fun h => h.elim) id⟩, fun j h => h.elim⟩, hR1, fun j => ⟨fun h => h.symm, fun h => h.symm⟩, fun j a b => hap j b a⟩
  · exact absurd ((cs t c hc).1.trans (cs t' c' hc').1.symm) hne

/-- What owns rows goes into a box. -/
theorem StepOK.boxG2 {T d t : Nat} {α : Type} [Rep α] {R1 R2 : CPred} {mk : Value → Value → α} (hd : Nat.blt d fs = true) (h1 : lookB B t = some (deep (fun s1 => deep (fun s2 => valV (mk s1 s2)) R2) R1)) :
    StepOK P ops fs ⟨some d, .box T (.tmp t), ty, pos, after, none⟩ L B ([t], [d, t]) ⟨True, anyV⟩ [(d, some (deep (fun s1 => deep (fun s2 => cont T (mk s1 s2)) R2) R1)), (t, none)] := by
  refine .doing fun M D a w hsz hm hs hsB => ?_
  have hC := hsB.has t (by simp) _ h1
  obtain ⟨s1, D1, D2, ⟨s2, D3, D4, ⟨hn, cs, hc, hv⟩, hR2, e1, a1⟩, hR1, e2, a2⟩ := id hC
  have hx : a.eval (.tmp t) = Act.val a t := eval_val
  have hcs : (a.eval (.tmp t)).cells = cs.toArray := by rw [hx, hv]; exact Rep.flat hc
  have hin : ∀ j, D t j → M j := fun j hj => CPred.inM _ M (D t) _ w hC j hj
  have hext := Ext.alloc w (.cells cs.toArray T)
  have hmm : ∀ k, (M k ∨ k = w.heap.size) → M k ∨ w.heap.size ≤ k := fun k h => h.imp id (by omega)
  have hblk : ∀ j, D t j → j < w.heap.size := fun j hj => hm j (hin j hj)
  refine Does.value (ex_box hcs) (.pass (fun k => M k ∨ k = w.heap.size) (fun j => D t j ∨ j = w.heap.size) h1 hext.keeps (fun k h => .inl h) hmm (fun k h => ?_) ⟨fun _ => trivial, fun hf => (hf trivial).elim⟩ ?_ (fun j h => h.imp id (by omega)))
  · rw [size_new]
    rcases h with h | h
    · have := hm k h; omega
    · omega
  · rw [val_self (by rw [hsz]; exact Nat.le_of_ble_eq_true hd)]
    have d1 : ∀ j, D1 j → D t j := fun j h => (e2 j).2 (.inl h)
    have d2 : ∀ j, D2 j → D t j := fun j h => (e2 j).2 (.inr h)
    have d4 : ∀ j, D4 j → D1 j := fun j h => (e1 j).2 (.inr h)
    have old : ∀ j, D t j → (M j ∨ j = w.heap.size) ∧ (w.alloc (.cells cs.toArray T)).heap[j]? = w.heap[j]? := fun j hj => ⟨.inl (hin j hj), hext.block j (hblk j hj) (fun f => f)⟩
    refine ⟨s1, fun j => D4 j ∨ j = w.heap.size, D2, ⟨s2, fun j => j = w.heap.size, D4, ⟨w.heap.size, cs, rfl, fun _ => Iff.rfl, .inr rfl, ?_, Rep.law hext.keeps hmm hc⟩, ?_, fun j => Or.comm, fun j h1 h2 => ?_⟩, ?_, fun j => ?_, fun j h1 h2 => ?_⟩
    · show (w.heap.push _)[w.heap.size]? = _
      rw [Array.getElem?_push_size]
    · exact R2.law M _ D4 s2 w _ hext.keeps hmm (fun j hj => old j (d1 j (d4 j hj))) hR2
    · have := hblk j (d1 j (d4 j h2)); omega
    · exact R1.law M _ D2 s1 w _ hext.keeps hmm (fun j hj => old j (d2 j hj)) hR1
    · constructor
      · rintro (h | h)
        · rcases (e2 j).1 h with h | h
          · rcases (e1 j).1 h with h | h
            · exact absurd h (hn j)
            · exact .inl (.inl h)
          · exact .inr h
        · exact .inl (.inr h)
      · rintro ((h | h) | h)
        · exact .inl (d1 j (d4 j h))
        · exact .inr h
        · exact .inl (d2 j h)
    · rcases h1 with h1 | h1
      · exact a2 j (d4 j h1) h2
      · have := hblk j (d2 j h2); omega

/-- A box with memory of its own behind two values that nobody writes any more. -/
theorem deep_ref2 {T m : Nat} {α β1 β2 γ : Type} [Rep α] [Rep β1] [Rep β2] [Rep γ] {x1 : β1} {x2 : β2} {R1 R2 : CPred} {mk : Value → Value → α} {y : γ} (f1 : FrzC R1 x1) (f2 : FrzC R2 x2) (hsz : Rep.sz γ = Rep.sz α)
    (hy : ∀ M s1 s2 cs w, Rep.cells M (mk s1 s2) cs w → (rep x1).p M s1 w → (rep x2).p M s2 w → Rep.cells M y cs w) (M D : MSet) (w : World)
    (h : (deep (fun s1 => deep (fun s2 => cont T (mk s1 s2)) R2) R1).p M D (ptr m 0) w) (hms : ∀ k, M k → k < w.heap.size) : (ref y).p (fun k => M k ∧ ¬ D k) (ptr m 0) w := by
  obtain ⟨s1, D1, D2, ⟨s2, D3, D4, ⟨m', cs, hv, hD, hM, hh, hc⟩, hR2, e1, a1⟩, hR1, e2, a2⟩ := h
  have hsub : ∀ k, (M k ∧ ¬ D k) → M k ∨ w.heap.size ≤ k := fun k h => .inl h.1
  refine ⟨m', 0, cs, hv, fun hk => hk.2 ((e2 m').2 (.inl ((e1 m').2 (.inl ((hD m').2 rfl))))), hms _ hM, hy _ s1 s2 cs w (Rep.law (Keeps.refl M w) hsub hc) ?_ ?_, fun j _ => by rw [cell_of_heap hh]; simp⟩
  · exact (rep x1).law _ _ s1 w w (Keeps.refl _ _) (fun k h => .inl ⟨h.1, fun h2 => h.2 ((e2 k).2 (.inr h2))⟩) (f1 M D2 s1 w hR1 hms)
  · exact (rep x2).law _ _ s2 w w (Keeps.refl _ _) (fun k h => .inl ⟨h.1, fun h2 => h.2 ((e2 k).2 (.inl ((e1 k).2 (.inr h2))))⟩) (f2 M D4 s2 w hR2 hms)
/-- The cells of what stands behind a told value. -/
theorem raw_cells {β : Type} [Rep β] {x : β} {M : MSet} {s : Value} {cs : List Value} {w : World} (ha : Rep.agg β = false) (h1 : Rep.sz β = 1) (hc : Rep.cells M (⟨s⟩ : Raw) cs w) (h : (rep x).p M s w) : Rep.cells M x cs w := by
  obtain ⟨rfl, _, _⟩ := hc
  obtain ⟨c, h2, h3⟩ := h
  have hl := Rep.len h2
  rw [h1] at hl
  match c, hl with
  | [u], _ =>
    rw [ha] at h3
    have : s = u := h3
    rw [this]; exact h2
end
end Go.DB

