/-
  Plain rules on the program's operations, code and memory (texts laid together).
-/
import Derived.Test.YtjnglmeiifcgjaaGreatDoorCoreD
import Derived.Maps.RangeRun
/-
  Maps: what they stand for, and the operations on them.
-/
set_option linter.unusedVariables false
set_option linter.unusedSimpArgs false
namespace Go.DB
open Go Go.RowKit

/-- A map: what is at each key. -/
structure GMap (K V : Type) where
  f : K → Option V

namespace GMap
variable {K V : Type}
def nil : GMap K V := ⟨fun _ => none⟩
instance : Inhabited (GMap K V) := ⟨nil⟩
def set [DecidableEq K] (m : GMap K V) (k : K) (v : V) : GMap K V := ⟨fun x => if x = k then some v else m.f x⟩
def del [DecidableEq K] (m : GMap K V) (k : K) : GMap K V := ⟨fun x => if x = k then none else m.f x⟩
def getD (m : GMap K V) (k : K) (z : V) : V := (m.f k).getD z
def has (m : GMap K V) (k : K) : Bool := (m.f k).isSome
end GMap

/-- The entries of a map, in some order. -/
structure Lists {K V : Type} (m : GMap K V) (l : List (K × V)) : Prop where
  nodup : (l.map (·.1)).Nodup
  mem : ∀ k v, (k, v) ∈ l ↔ m.f k = some v

open Classical in
/-- How many entries a map has. -/
noncomputable def GMap.size {K V : Type} (m : GMap K V) : Int := if h : ∃ l, Lists m l then (h.choose.length : Int) else 0

theorem nodup_idx {α : Type} {l : List α} (h : l.Nodup) {i j : Nat} {a : α} (h1 : l[i]? = some a) (h2 : l[j]? = some a) : i = j := by
  obtain ⟨hi, e1⟩ := List.getElem?_eq_some_iff.1 h1
  obtain ⟨hj, e2⟩ := List.getElem?_eq_some_iff.1 h2
  have hp := List.pairwise_iff_getElem.1 h
  rcases Nat.lt_trichotomy i j with c | c | c
  · exact absurd (e1.trans e2.symm) (hp i j hi hj c)
  · exact c
  · exact absurd (e2.trans e1.symm) (hp j i hj hi c)
theorem nodup_of_map {α β : Type} {f : α → β} {l : List α} (h : (l.map f).Nodup) : l.Nodup := List.Pairwise.of_map f (fun a b hne e => hne (by rw [e])) h

section
variable {K V : Type} {m : GMap K V} {l l' : List (K × V)}
theorem Lists.perm (h : Lists m l) (h' : Lists m l') : l.Perm l' :=
  (List.perm_ext_iff_of_nodup (nodup_of_map h.nodup) (nodup_of_map h'.nodup)).2 fun ⟨k, v⟩ => (h.mem k v).trans (h'.mem k v).symm
theorem Lists.size (h : Lists m l) : m.size = l.length := by
  have hx : ∃ l, Lists m l := ⟨l, h⟩
  unfold GMap.size
  rw [dif_pos hx, (hx.choose_spec.perm h).length_eq]
theorem Lists.nil : Lists (GMap.nil : GMap K V) [] := ⟨List.nodup_nil, fun k v => by simp [GMap.nil]⟩
theorem Lists.of_perm (h : Lists m l) (hp : l.Perm l') : Lists m l' := ⟨(hp.map _).nodup_iff.1 h.nodup, fun k v => (hp.mem_iff.symm).trans (h.mem k v)⟩
variable [DecidableEq K]
theorem Lists.push (h : Lists m l) {k : K} {v : V} (hn : ∀ x ∈ l, x.1 ≠ k) : Lists (m.set k v) (l ++ [(k, v)]) := by
  refine ⟨?_, fun k' v' => ?_⟩
  · rw [List.map_append, List.nodup_append]
    refine ⟨h.nodup, by simp, fun a ha b hb => ?_⟩
    obtain ⟨x, hx, rfl⟩ := List.mem_map.1 ha
    simp at hb; subst hb; exact hn x hx
  · simp only [List.mem_append, List.mem_singleton, GMap.set]
    by_cases hk : k' = k
    · subst hk
      rw [if_pos rfl]
      constructor
      · rintro (h1 | h1)
        · exact absurd rfl (hn _ h1)
        · simp at h1; rw [h1]
      · intro h1; simp at h1; right; rw [h1]
    · rw [if_neg hk, ← h.mem k' v']
      constructor
      · rintro (h1 | h1)
        · exact h1
        · simp at h1; exact absurd h1.1 hk
      · exact .inl
theorem Lists.put (h : Lists m l) {j : Nat} {x : K × V} {v : V} (hj : l[j]? = some x) : Lists (m.set x.1 v) (l.set j (x.1, v)) := by
  have hlt : j < l.length := (List.getElem?_eq_some_iff.1 hj).1
  have hx : l[j] = x := (List.getElem?_eq_some_iff.1 hj).2
  have hmap : (l.set j (x.1, v)).map (·.1) = l.map (·.1) := by
    rw [List.map_set]
    have : (l.map (·.1))[j]? = some x.1 := by rw [List.getElem?_map, hj]; rfl
    apply List.ext_getElem?
    intro i
    by_cases hij : j = i
    · subst hij; rw [List.getElem?_set_self (by simpa using hlt), this]
    · rw [List.getElem?_set_ne hij]
  refine ⟨by rw [hmap]; exact h.nodup, fun k' v' => ?_⟩
  have hin : x ∈ l := List.mem_of_getElem? hj
  simp only [GMap.set]
  by_cases hk : k' = x.1
  · subst hk
    rw [if_pos rfl]
    constructor
    · intro h1
      obtain ⟨i, hi⟩ := List.getElem?_of_mem h1
      by_cases hij : j = i
      · subst hij
        rw [List.getElem?_set_self hlt] at hi; simp at hi; rw [hi]
      · rw [List.getElem?_set_ne hij] at hi
        have h2 : (l.map (·.1))[i]? = some x.1 := by rw [List.getElem?_map, hi]; rfl
        have h3 : (l.map (·.1))[j]? = some x.1 := by rw [List.getElem?_map, hj]; rfl
        exact absurd (nodup_idx h.nodup h3 h2) hij
    · intro h1; simp at h1; subst h1
      exact List.mem_of_getElem? (List.getElem?_set_self hlt)
  · rw [if_neg hk, ← h.mem k' v']
    constructor
    · intro h1
      rcases List.mem_or_eq_of_mem_set h1 with h1 | h1
      · exact h1
      · simp at h1; exact absurd h1.1 hk
    · intro h1
      obtain ⟨i, hi⟩ := List.getElem?_of_mem h1
      refine List.mem_of_getElem? (i := i) ?_
      rw [List.getElem?_set_ne]
      · exact hi
      · intro e; subst e; rw [hj] at hi; simp at hi; subst hi; exact hk rfl
theorem Lists.drop (h : Lists m l) {j : Nat} {x : K × V} (hj : l[j]? = some x) : Lists (m.del x.1) (l.eraseIdx j) := by
  have hlt : j < l.length := (List.getElem?_eq_some_iff.1 hj).1
  refine ⟨h.nodup.sublist ((List.eraseIdx_sublist _ _).map _), fun k' v' => ?_⟩
  simp only [GMap.del]
  constructor
  · intro h1
    obtain ⟨i, hne, hi⟩ := List.mem_eraseIdx_iff_getElem?.1 h1
    have hk : k' ≠ x.1 := by
      intro e
      have h2 : (l.map (·.1))[i]? = some x.1 := by rw [List.getElem?_map, hi, ← e]; rfl
      have h3 : (l.map (·.1))[j]? = some x.1 := by rw [List.getElem?_map, hj]; rfl
      exact hne (nodup_idx h.nodup h2 h3)
    rw [if_neg hk, ← h.mem]; exact List.mem_of_getElem? hi
  · intro h1
    by_cases hk : k' = x.1
    · rw [if_pos hk] at h1; cases h1
    · rw [if_neg hk, ← h.mem] at h1
      obtain ⟨i, hi⟩ := List.getElem?_of_mem h1
      refine List.mem_eraseIdx_iff_getElem?.2 ⟨i, fun e => hk ?_, hi⟩
      subst e; rw [hj] at hi; simp at hi; rw [hi]
end

/-- What a search for a key comes to. -/
def Found {K : Type} (k : K) (es : List MapEntry) (l : List K) (r : Option (Nat × Value)) : Prop :=
  (r = none ∧ ∀ x ∈ l, x ≠ k) ∨ ∃ j e x, r = some (j, e.val) ∧ es[j]? = some e ∧ l[j]? = some x ∧ x = k
/-- What can be a key: its type, and that keys are told apart. -/
class MKey (K : Type) [Rep K] [DecidableEq K] where
  desc : Program → TypeId → Prop
  check : ∀ {P : Program} {T : TypeId} {M : MSet} {w0 : World} {k : K} {v : Value} (e : Bool) (w : World), desc P T → (rep k).p M v w0 → (Instr.checkKey e 10000 T v).run P w = .ok () w
  find : ∀ {P : Program} {T : TypeId} {M M' : MSet} {w w' : World} {k : K} {v : Value} (w0 : World), desc P T → (rep k).p M' v w' → ∀ (es : List MapEntry) (l : List K), es.length = l.length →
    (∀ (j : Nat) (e : MapEntry) (x : K), es[j]? = some e → l[j]? = some x → (rep x).p M e.key w) → ∃ r, (Instr.findKey T v es).run P w0 = .ok r w0 ∧ Found k es l r
  bits : ∀ {M M' w w'} {k : K} {v1 v2 : Value}, (rep k).p M v1 w → (rep k).p M' v2 w' → Instr.sameBits 10000 v1 v2 = true

theorem findNow_ents {K : Type} [Rep K] [DecidableEq K] {desc : TypeDesc} (same : ∀ {M M' w w'} {k1 k2 : K} {v1 v2 : Value}, (rep k1).p M v1 w → (rep k2).p M' v2 w' → Instr.sameNow desc v1 v2 = some (decide (k1 = k2))) {M M' : MSet} {w w' : World} {k : K} {v : Value} (hv : (rep k).p M' v w') : ∀ (es : List MapEntry) (l : List K) (i : Nat), es.length = l.length →
    (∀ (j : Nat) (e : MapEntry) (x : K), es[j]? = some e → l[j]? = some x → (rep x).p M e.key w) →
    ∃ r, Instr.findNow desc v es i = some r ∧ ((r = none ∧ ∀ x ∈ l, x ≠ k) ∨ ∃ j e x, r = some (i + j, e.val) ∧ es[j]? = some e ∧ l[j]? = some x ∧ x = k)
  | [], l, i, h, _ => by
    have : l = [] := List.length_eq_zero_iff.1 h.symm
    subst this
    exact ⟨none, rfl, .inl ⟨rfl, by simp⟩⟩
  | e :: es, [], i, h, _ => by simp at h
  | e :: es, x :: l, i, h, h' => by
    have h0 := h' 0 e x rfl rfl
    have hs := same hv h0
    simp only [Instr.findNow, hs]
    by_cases hk : k = x
    · rw [decide_eq_true hk]
      exact ⟨_, rfl, .inr ⟨0, e, x, rfl, rfl, rfl, hk.symm⟩⟩
    · rw [decide_eq_false hk]
      obtain ⟨r, h1, h2⟩ := findNow_ents same hv es l (i + 1) (by simpa using h) (fun j e' x' h1 h2 => h' (j + 1) e' x' (by simpa using h1) (by simpa using h2))
      refine ⟨r, h1, ?_⟩
      rcases h2 with ⟨h2, h3⟩ | ⟨j, e', x', h2, h3, h4, h5⟩
      · exact .inl ⟨h2, fun y hy => by
          rcases List.mem_cons.1 hy with rfl | hy
          · exact fun e => hk e.symm
          · exact h3 y hy⟩
      · exact .inr ⟨j + 1, e', x', by rw [h2]; congr 2; omega, by simpa using h3, by simpa using h4, h5⟩
theorem find_now {K : Type} [Rep K] [DecidableEq K] {desc : TypeDesc} (same : ∀ {M M' w w'} {k1 k2 : K} {v1 v2 : Value}, (rep k1).p M v1 w → (rep k2).p M' v2 w' → Instr.sameNow desc v1 v2 = some (decide (k1 = k2)))
    {P : Program} {T : TypeId} {M M' : MSet} {w w' : World} {k : K} {v : Value} (w0 : World) (hT : P.underlying T = some desc) (hv : (rep k).p M' v w') (es : List MapEntry) (l : List K) (hl : es.length = l.length)
    (h : ∀ (j : Nat) (e : MapEntry) (x : K), es[j]? = some e → l[j]? = some x → (rep x).p M e.key w) : ∃ r, (Instr.findKey T v es).run P w0 = .ok r w0 ∧ Found k es l r := by
  obtain ⟨r, h1, h2⟩ := findNow_ents same hv es l 0 hl h
  refine ⟨r, ?_, by simpa [Found] using h2⟩
  have hun : (underlying T).run P w0 = .ok desc w0 := by simp [underlying, hT, go_sem]
  simp only [Instr.findKey, Sem.run_bind, hun, Result.andThen, h1, Sem.run_pure]

instance : MKey Int where
  desc := fun P T => P.underlying T = some (.int .i64)
  find := fun w0 hT hv es l hl h => find_now (fun h1 h2 => by
    obtain ⟨rfl, _⟩ := rep_int.1 h1
    obtain ⟨rfl, _⟩ := rep_int.1 h2
    simp only [Instr.sameNow, if_true]
    congr 1) w0 hT hv es l hl h
  check := fun e w hT _ => by
    unfold Instr.checkKey
    simp [underlying, hT, go_sem]
  bits := fun h1 h2 => by
    obtain ⟨rfl, _⟩ := rep_int.1 h1
    obtain ⟨rfl, _⟩ := rep_int.1 h2
    unfold Instr.sameBits
    simp
instance : MKey Str where
  desc := fun P T => P.underlying T = some .string
  find := fun w0 hT hv es l hl h => find_now (fun {M M' w w' k1 k2 v1 v2} h1 h2 => by
    obtain ⟨rfl, _⟩ := rep_str.1 h1
    obtain ⟨rfl, _⟩ := rep_str.1 h2
    simp only [Instr.sameNow, strV]
    congr 1
    rw [Bool.eq_iff_iff, Go.MapKept.bytes_beq, decide_eq_true_eq]
    cases k1; cases k2; simp) w0 hT hv es l hl h
  check := fun e w hT _ => by
    unfold Instr.checkKey
    simp [underlying, hT, go_sem]
  bits := fun h1 h2 => by
    obtain ⟨rfl, _⟩ := rep_str.1 h1
    obtain ⟨rfl, _⟩ := rep_str.1 h2
    unfold Instr.sameBits
    exact (Go.MapKept.bytes_beq _ _).2 rfl

section
variable {K V : Type} [Rep K] [Rep V]

/-- The entries in memory stand for l. -/
def Ents (M : MSet) (w : World) (es : List MapEntry) (l : List (K × V)) : Prop :=
  es.length = l.length ∧ ∀ (j : Nat) (e : MapEntry) (x : K × V), es[j]? = some e → l[j]? = some x → (rep x.1).p M e.key w ∧ (rep x.2).p M e.val w

theorem Ents.law {M M' : MSet} {w w' : World} {es : List MapEntry} {l : List (K × V)} (hk : Keeps M w w') (hm : ∀ k, M' k → M k ∨ w.heap.size ≤ k) (h : Ents M w es l) : Ents M' w' es l :=
  ⟨h.1, fun j e x h1 h2 => ⟨(rep x.1).law M M' _ w w' hk hm (h.2 j e x h1 h2).1, (rep x.2).law M M' _ w w' hk hm (h.2 j e x h1 h2).2⟩⟩
theorem Ents.nil {M : MSet} {w : World} : Ents M w [] ([] : List (K × V)) := ⟨rfl, fun j e x h => by simp at h⟩
theorem Ents.at {M : MSet} {w : World} {es : List MapEntry} {l : List (K × V)} (h : Ents M w es l) {j : Nat} {e : MapEntry} (hj : es[j]? = some e) : ∃ x, l[j]? = some x ∧ (rep x.1).p M e.key w ∧ (rep x.2).p M e.val w := by
  have hlt := (List.getElem?_eq_some_iff.1 hj).1
  have : j < l.length := by rw [← h.1]; exact hlt
  exact ⟨l[j], List.getElem?_eq_getElem this, h.2 j e _ hj (List.getElem?_eq_getElem this)⟩
theorem Ents.push {M : MSet} {w : World} {es : List MapEntry} {l : List (K × V)} (h : Ents M w es l) {e : MapEntry} {x : K × V} (h1 : (rep x.1).p M e.key w) (h2 : (rep x.2).p M e.val w) : Ents M w (es ++ [e]) (l ++ [x]) := by
  refine ⟨by simp [h.1], fun j e' x' hj hx => ?_⟩
  by_cases hlt : j < es.length
  · rw [List.getElem?_append_left hlt] at hj
    rw [List.getElem?_append_left (by rw [← h.1]; exact hlt)] at hx
    exact h.2 j e' x' hj hx
  · rw [List.getElem?_append_right (by omega)] at hj
    rw [List.getElem?_append_right (by rw [← h.1]; omega)] at hx
    obtain ⟨k, hk⟩ : ∃ k, j - es.length = k := ⟨_, rfl⟩
    rw [← h.1, hk] at hx
    rw [hk] at hj
    cases k with
    | zero => simp at hj hx; subst hj hx; exact ⟨h1, h2⟩
    | succ k => simp at hj
theorem Ents.set {M : MSet} {w : World} {es : List MapEntry} {l : List (K × V)} (h : Ents M w es l) {j : Nat} {e : MapEntry} {x : K × V} (h1 : (rep x.1).p M e.key w) (h2 : (rep x.2).p M e.val w) : Ents M w (es.set j e) (l.set j x) := by
  refine ⟨by simp [h.1], fun i e' x' hj hx => ?_⟩
  by_cases hij : j = i
  · subst hij
    have hlt : j < es.length := by
      rcases Nat.lt_or_ge j es.length with h' | h'
      · exact h'
      · rw [List.getElem?_eq_none (by simpa using h')] at hj; cases hj
    rw [List.getElem?_set_self hlt] at hj
    rw [List.getElem?_set_self (by rw [← h.1]; exact hlt)] at hx
    simp at hj hx; subst hj hx; exact ⟨h1, h2⟩
  · rw [List.getElem?_set_ne hij] at hj
    rw [List.getElem?_set_ne hij] at hx
    exact h.2 i e' x' hj hx
/-- What a map's block holds. -/
structure MapIs (M : MSet) (w : World) (m : GMap K V) (es : Array MapEntry) (clock : Nat) (l : List (K × V)) : Prop where
  ents : Ents M w es.toList l
  lists : Lists m l
  born : (es.toList.map (·.born)).Nodup
  low : ∀ e ∈ es.toList, e.born < clock

theorem MapIs.law {M M' : MSet} {w w' : World} {m : GMap K V} {es : Array MapEntry} {clock : Nat} {l : List (K × V)} (hk : Keeps M w w') (hm : ∀ k, M' k → M k ∨ w.heap.size ≤ k) (h : MapIs M w m es clock l) : MapIs M' w' m es clock l :=
  ⟨h.ents.law hk hm, h.lists, h.born, h.low⟩

/-- Maps that nobody writes. -/
instance : Rep (GMap K V) where
  sz := 1
  agg := false
  cells := fun M m cs w => ∃ v, cs = [v] ∧ ((v = .map none ∧ m = GMap.nil) ∨ ∃ b es clock l, v = .map (some b) ∧ ¬ M b ∧ b < w.heap.size ∧ w.heap[b]? = some (.map es clock) ∧ MapIs M w m es clock l)
  len := fun ⟨v, h, _⟩ => by rw [h]; rfl
  pos := by decide
  flat := fun ⟨v, h, hv⟩ => by
    subst h
    rcases hv with ⟨rfl, _⟩ | ⟨b, es, clock, l, rfl, _⟩ <;> rfl
  plain := fun ⟨v, h, hv⟩ c hc => by
    subst h; simp at hc; subst hc
    rcases hv with ⟨rfl, _⟩ | ⟨b, es, clock, l, rfl, _⟩ <;> rfl
  law := fun {M M' x cs w w'} hk hm ⟨v, h, hv⟩ => ⟨v, h, by
    rcases hv with hv | ⟨b, es, clock, l, h1, h2, h3, h4, h5⟩
    · exact .inl hv
    · exact .inr ⟨b, es, clock, l, h1, fun hb => (hm b hb).elim h2 (by omega), Nat.lt_of_lt_of_le h3 hk.size, by rw [hk.block b h3 h2]; exact h4, h5.law hk hm⟩⟩
theorem rep_map {m : GMap K V} {M : MSet} {v : Value} {w : World} : (rep m).p M v w ↔ (v = .map none ∧ m = GMap.nil) ∨ ∃ b es clock l, v = .map (some b) ∧ ¬ M b ∧ b < w.heap.size ∧ w.heap[b]? = some (.map es clock) ∧ MapIs M w m es clock l := by
  constructor
  · rintro ⟨cs, ⟨v', h, hv⟩, e⟩
    subst h
    have : v = v' := e
    subst this; exact hv
  · intro h; exact ⟨[v], ⟨v, rfl, h⟩, rfl⟩
instance : Fits (GMap K V) := ⟨fun _ => True⟩
instance : FitsRep (GMap K V) := ⟨fun _ => trivial⟩
/-- A map of one's own. -/
def mapV (m : GMap K V) : CPred where
  p := fun M D v w => ∃ b es clock l, v = .map (some b) ∧ (∀ k, D k ↔ k = b) ∧ M b ∧ w.heap[b]? = some (.map es clock) ∧ MapIs M w m es clock l
  inM := fun M D v w ⟨b, _, _, _, _, hD, hM, _⟩ k hk => (hD k).1 hk ▸ hM
  law := fun M M' D v w w' hk hm hown ⟨b, es, clock, l, hv, hD, hM, hh, h⟩ => by
    obtain ⟨h1, h2⟩ := hown b ((hD b).2 rfl)
    exact ⟨b, es, clock, l, hv, hD, h1, by rw [h2]; exact hh, h.law hk hm⟩
/-- The same, where its entries are told. -/
def mapP (b : Nat) (es : Array MapEntry) (clock : Nat) (l : List (K × V)) (m : GMap K V) : CPred where
  p := fun M D v w => v = .map (some b) ∧ (∀ k, D k ↔ k = b) ∧ M b ∧ w.heap[b]? = some (.map es clock) ∧ MapIs M w m es clock l
  inM := fun M D v w ⟨_, hD, hM, _⟩ k hk => (hD k).1 hk ▸ hM
  law := fun M M' D v w w' hk hm hown ⟨hv, hD, hM, hh, h⟩ => by
    obtain ⟨h1, h2⟩ := hown b ((hD b).2 rfl)
    exact ⟨hv, hD, h1, by rw [h2]; exact hh, h.law hk hm⟩
end
end Go.DB

/-
  Maps: the operations.
-/
set_option linter.unusedVariables false
set_option linter.unusedSimpArgs false
namespace Go.DB
open Go Go.RowKit

/-- What a map's type is. -/
def MapOf (P : Program) (T kt et : TypeId) (d : Program → TypeId → Prop) : Prop := P.underlying T = some (.map kt et) ∧ d P kt

section
variable {P : Program} {K V : Type} [Rep K] [DecidableEq K] [MKey K] [Rep V] {T kt et : TypeId} {m : GMap K V} {k : K} {x z : V}
theorem run_und {w : World} {d : TypeDesc} (h : P.underlying T = some d) : (underlying T).run P w = .ok d w := by simp [underlying, h, go_sem]

end

section
variable {P : Program} {ops : Array Oper} {fs : Nat} {L : Slots} {B : Owns} {G : Prop}
variable {ty : TypeId} {pos : String} {after : Array Edge} {g : Option (Nat × Bool)} {xr : List Nat} {d : Option Tmp}
variable {K V : Type} [Rep K] [DecidableEq K] [MKey K] [Rep V] {T kt et : TypeId} {m : GMap K V} {k : K} {z : V}

theorem tup2_of {α β : Type} [Rep α] [Rep β] {r : α × β} {M : MSet} {w : World} {u v : Value} (h1 : (rep r.1).p M u w) (h2 : (rep r.2).p M v w) : (tup2 r).p M (.tuple #[u, v]) w :=
  ⟨[u, v], rfl, rfl, fun i S y hi hy => by
    match i with
    | 0 => simp at hi hy; subst hi hy; exact h1
    | 1 => simp at hi hy; subst hi hy; exact h2
    | i + 2 => simp at hi⟩

/-- Memory that holds a map. -/
def OwnMap (C : CPred) (m : GMap K V) : Prop := ∀ M D v w, C.p M D v w → (mapV m).p M D v w
end
end Go.DB

/-
  Ranges over maps.
-/
set_option linter.unusedVariables false
set_option linter.unusedSimpArgs false
namespace Go.DB
open Go Go.RowKit

section
variable {K V : Type}
/-- Entries that have come, in the order in which they came. -/
def Part (m : GMap K V) (p : List (K × V)) : Prop := (p.map (·.1)).Nodup ∧ ∀ x ∈ p, m.f x.1 = some x.2
/-- What can come next. -/
def NextOf (m : GMap K V) (p : List (K × V)) : Option (K × V) → Prop
  | none => Lists m p
  | some x => m.f x.1 = some x.2 ∧ x.1 ∉ p.map (·.1)

/-- The entries of l whose stamps an iterator has seen. -/
def SeenAt (es : Array MapEntry) (l : List (K × V)) (seen : Array Nat) (p : List (K × V)) : Prop :=
  ∃ js : List Nat, js.Nodup ∧ (∀ j ∈ js, j < es.size) ∧ seen.toList = js.map (fun j => (es.toList[j]?).elim 0 (·.born)) ∧ p.map some = js.map (fun j => l[j]?)

theorem SeenAt.nil {es : Array MapEntry} {l : List (K × V)} : SeenAt es l #[] [] := ⟨[], List.nodup_nil, by simp, rfl, rfl⟩
end

section
variable {K V : Type} [Rep K] [Rep V] {m : GMap K V} {M : MSet} {w : World} {es : Array MapEntry} {clock : Nat} {l p : List (K × V)} {seen : Array Nat}

theorem SeenAt.mem (h : SeenAt es l seen p) (hi : MapIs M w m es clock l) {x : K × V} (hx : x ∈ p) : ∃ j e, j < es.size ∧ es.toList[j]? = some e ∧ l[j]? = some x ∧ e.born ∈ seen.toList := by
  obtain ⟨js, h1, h2, h3, h4⟩ := h
  have : some x ∈ js.map (fun j => l[j]?) := by rw [← h4]; exact List.mem_map.2 ⟨x, hx, rfl⟩
  obtain ⟨j, hj, e⟩ := List.mem_map.1 this
  have hlt : j < es.toList.length := by simpa using h2 j hj
  refine ⟨j, es.toList[j], by simpa using hlt, List.getElem?_eq_getElem hlt, e, ?_⟩
  rw [h3]
  exact List.mem_map.2 ⟨j, hj, by rw [List.getElem?_eq_getElem hlt]; rfl⟩

theorem SeenAt.all (h : SeenAt es l seen p) (hi : MapIs M w m es clock l) (h0 : (leftOf es seen).size = 0) : Lists m p := by
  obtain ⟨js, h1, h2, h3, h4⟩ := h
  have hlen : es.size = l.length := by simpa using hi.ents.1
  have hcov : ∀ j, j < es.size → j ∈ js := by
    intro j hj
    have hjl : j < es.toList.length := by simpa using hj
    have he : es.toList[j] ∈ es.toList := List.getElem_mem hjl
    have hseen : es.toList[j].born ∈ seen.toList := by
      by_cases hc : es.toList[j].born ∈ seen.toList
      · exact hc
      · exfalso
        have hin : es.toList[j] ∈ (leftOf es seen).toList := by
          unfold leftOf
          rw [Array.toList_filter, List.mem_filter]
          refine ⟨he, ?_⟩
          simp only [Bool.not_eq_true', Array.contains_eq_mem, decide_eq_false_iff_not]
          intro hh; exact hc (by simpa using hh)
        have : (leftOf es seen).toList.length = 0 := by simpa using h0
        rw [List.length_eq_zero_iff.1 this] at hin
        cases hin
    rw [h3] at hseen
    obtain ⟨i, hi', e⟩ := List.mem_map.1 hseen
    have hil : i < es.toList.length := by simpa using h2 i hi'
    rw [List.getElem?_eq_getElem hil] at e
    have e1 : (es.toList.map (·.born))[i]? = some es.toList[j].born := by rw [List.getElem?_map, List.getElem?_eq_getElem hil]; exact congrArg some e
    have e2 : (es.toList.map (·.born))[j]? = some es.toList[j].born := by rw [List.getElem?_map, List.getElem?_eq_getElem hjl]; rfl
    have := nodup_idx hi.born e1 e2
    subst this; exact hi'
  have hp : js.Perm (List.range es.size) := (List.perm_ext_iff_of_nodup h1 List.nodup_range).2 fun j => by
    rw [List.mem_range]
    exact ⟨h2 j, hcov j⟩
  have hl : l.map some = (List.range es.size).map (fun j => l[j]?) := by
    apply List.ext_getElem?
    intro i
    rw [List.getElem?_map, List.getElem?_map]
    by_cases hlt : i < l.length
    · rw [List.getElem?_range (by omega), List.getElem?_eq_getElem hlt]; simp [hlt]
    · rw [List.getElem?_eq_none (by omega)]
      rw [List.getElem?_eq_none (by simp; omega)]; rfl
  have hpp : (l.map some).Perm (p.map some) := by
    rw [hl, h4]; exact (hp.map _).symm
  have hq := hpp.filterMap id
  have e : ∀ q : List (K × V), (q.map some).filterMap id = q := fun q => by
    rw [List.filterMap_map]
    exact List.filterMap_some
  rw [e, e] at hq
  exact hi.lists.of_perm hq

theorem SeenAt.more (h : SeenAt es l seen p) (hi : MapIs M w m es clock l) {e : MapEntry} (he : e ∈ (leftOf es seen).toList) :
    ∃ x, NextOf m p (some x) ∧ SeenAt es l (seen.push e.born) (p ++ [x]) := by
  unfold leftOf at he
  rw [Array.toList_filter, List.mem_filter] at he
  obtain ⟨he, hns⟩ := he
  have hns' : e.born ∉ seen.toList := by
    simp only [Bool.not_eq_true', Array.contains_eq_mem, decide_eq_false_iff_not] at hns
    intro hh; exact hns (by simpa using hh)
  obtain ⟨j, hj⟩ := List.getElem?_of_mem he
  obtain ⟨x, hx, _, _⟩ := hi.ents.at hj
  have hjl : j < es.toList.length := (List.getElem?_eq_some_iff.1 hj).1
  have hnew : ∀ y ∈ p, y.1 ≠ x.1 := by
    intro y hy e1
    obtain ⟨j', e', hlt, h1, h2, h3⟩ := h.mem hi hy
    have a1 : (l.map (·.1))[j']? = some x.1 := by rw [List.getElem?_map, h2]; exact congrArg some e1
    have a2 : (l.map (·.1))[j]? = some x.1 := by rw [List.getElem?_map, hx]; rfl
    have := nodup_idx hi.lists.nodup a1 a2
    subst this
    rw [hj] at h1; simp at h1; subst h1
    exact hns' h3
  refine ⟨x, ⟨(hi.lists.mem x.1 x.2).1 (List.mem_of_getElem? hx), fun hm => ?_⟩, ?_⟩
  · obtain ⟨y, hy, e1⟩ := List.mem_map.1 hm
    exact hnew y hy e1
  · obtain ⟨js, h1, h2, h3, h4⟩ := h
    refine ⟨js ++ [j], ?_, fun i hi' => ?_, ?_, ?_⟩
    · rw [List.nodup_append]
      refine ⟨h1, by simp, fun a ha b hb => ?_⟩
      simp at hb; subst hb
      intro e1; subst e1
      apply hns'
      rw [h3]; exact List.mem_map.2 ⟨a, ha, by rw [hj]; rfl⟩
    · rcases List.mem_append.1 hi' with h' | h'
      · exact h2 i h'
      · simp at h'; subst h'; simpa using hjl
    · rw [Array.toList_push, h3, List.map_append, List.map_cons, List.map_nil, hj]; rfl
    · rw [List.map_append, h4, List.map_append]; simp [hx]

/-- An iterator over a map that nobody writes: what has come. -/
def iterF (m : GMap K V) (p : List (K × V)) : CPred where
  p := fun M D v w => ∃ r, v = .pointer (some ⟨r, 0, none⟩) ∧ (∀ k, D k ↔ k = r) ∧ M r ∧
    ((m = GMap.nil ∧ p = [] ∧ ∃ seen, w.heap[r]? = some (.mapIter none 0 seen 0)) ∨
     ∃ b es clock l seen, ¬ M b ∧ b < w.heap.size ∧ w.heap[b]? = some (.map es clock) ∧ MapIs M w m es clock l ∧ w.heap[r]? = some (.mapIter (some b) clock seen clock) ∧ SeenAt es l seen p)
  inM := fun M D v w ⟨r, hv, hD, hM, _⟩ k hk => (hD k).1 hk ▸ hM
  law := fun M M' D v w w' hk hm hown ⟨r, hv, hD, hM, h⟩ => by
    obtain ⟨h1, h2⟩ := hown r ((hD r).2 rfl)
    refine ⟨r, hv, hD, h1, ?_⟩
    rw [h2]
    rcases h with h | ⟨b, es, clock, l, seen, a1, a2, a3, a4, a5, a6⟩
    · exact .inl h
    · exact .inr ⟨b, es, clock, l, seen, fun hb => (hm b hb).elim a1 (by omega), Nat.lt_of_lt_of_le a2 hk.size, by rw [hk.block b a2 a1]; exact a3, a4.law hk hm, a5, a6⟩
/-- An iterator over a map of one's own whose entries are told. -/
def iterO (b : Nat) (es : Array MapEntry) (clock : Nat) (l : List (K × V)) (p : List (K × V)) : CPred where
  p := fun M D v w => ∃ r seen, v = .pointer (some ⟨r, 0, none⟩) ∧ (∀ k, D k ↔ k = r) ∧ M r ∧ w.heap[r]? = some (.mapIter (some b) clock seen clock) ∧ SeenAt es l seen p
  inM := fun M D v w ⟨r, _, hv, hD, hM, _⟩ k hk => (hD k).1 hk ▸ hM
  law := fun M M' D v w w' hk hm hown ⟨r, seen, hv, hD, hM, hh, hs⟩ => by
    obtain ⟨h1, h2⟩ := hown r ((hD r).2 rfl)
    exact ⟨r, seen, hv, hD, h1, by rw [h2]; exact hh, hs⟩
end

section
variable {K V : Type}
/-- A step is done; the slot has what `next` gave. -/
def nextedV (r : Nat) (C : List (K × V) → CPred) (m : GMap K V) (p : List (K × V)) : CPred where
  p := fun M D v w => ∃ o vs, NextOf m p o ∧ v = .tuple vs ∧ vs[0]? = some (.bool o.isSome) ∧ (C (p ++ o.toList)).p M D (ptr r 0) w
  inM := fun M D v w ⟨o, vs, _, _, _, h⟩ => (C _).inM M D _ w h
  law := fun M M' D v w w' hk hm hown ⟨o, vs, h1, h2, h3, h⟩ => ⟨o, vs, h1, h2, h3, (C _).law M M' D _ w w' hk hm hown h⟩
/-- The slot says whether there was an entry. -/
def okedV (r : Nat) (C : List (K × V) → CPred) (m : GMap K V) (p : List (K × V)) : CPred where
  p := fun M D v w => ∃ o, NextOf m p o ∧ v = .bool o.isSome ∧ (C (p ++ o.toList)).p M D (ptr r 0) w
  inM := fun M D v w ⟨o, _, _, h⟩ => (C _).inM M D _ w h
  law := fun M M' D v w w' hk hm hown ⟨o, h1, h2, h⟩ => ⟨o, h1, h2, (C _).law M M' D _ w w' hk hm hown h⟩
end

section
variable {P : Program} {ops : Array Oper} {fs : Nat} {L : Slots} {B : Owns} {G : Prop}
variable {ty : TypeId} {pos : String} {after : Array Edge} {g : Option (Nat × Bool)} {xr : List Nat}
variable {K V : Type} [Rep K] [Rep V] {T kt et : TypeId} {m : GMap K V}

end

end Go.DB

/-
  Ranges over maps: what a loop makes of a map whose entries come in any order, and the walk.
-/
set_option linter.unusedVariables false
set_option linter.unusedSimpArgs false
namespace Go.DB
open Go Go.RowKit

section
variable {K V σ O : Type}
def mfoldE (step : K → V → σ → Option (Res σ O)) (fin : σ → O) : List (K × V) → σ → Option O
  | [], s => some (fin s)
  | x :: l, s => (step x.1 x.2 s).bind (fun r => match r with
    | .nx s' => mfoldE step fin l s'
    | .ab o => some o)
def mfold (step : K → V → σ → Option σ) : List (K × V) → σ → Option σ
  | [], s => some s
  | x :: l, s => (step x.1 x.2 s).bind (fun s' => mfold step l s')
open Classical in
/-- A loop over the entries of a map: what comes out in whatever order they come. -/
noncomputable def mrangeE (m : GMap K V) (step : K → V → σ → Option (Res σ O)) (fin : σ → O) (s0 : σ) : Option O :=
  if h : ∃ r, ∀ l, Lists m l → mfoldE step fin l s0 = some r then some h.choose else none
open Classical in
noncomputable def mrange (m : GMap K V) (step : K → V → σ → Option σ) (s0 : σ) : Option σ :=
  if h : ∃ r, ∀ l, Lists m l → mfold step l s0 = some r then some h.choose else none

def mstepE (step : K → V → σ → Option (Res σ O)) (fin : σ → O) (p : List (K × V) × σ) (o : Option (K × V)) : Option (Step (List (K × V) × σ) O) := match o with
  | none => some (.done (fin p.2))
  | some x => bindD (step x.1 x.2 p.2) (fun s' => some (.again (p.1 ++ [x], s')))
def mstep (step : K → V → σ → Option σ) (p : List (K × V) × σ) (o : Option (K × V)) : Option (Step (List (K × V) × σ) σ) := match o with
  | none => some (.done p.2)
  | some x => (step x.1 x.2 p.2).bind (fun s' => some (.again (p.1 ++ [x], s')))

variable {m : GMap K V}
open Classical in
theorem Part.more {p l0 : List (K × V)} (hp : Part m p) (h0 : Lists m l0) : ∃ l, Lists m (p ++ l) := by
  refine ⟨l0.filter (fun y => decide (y.1 ∉ p.map (·.1))), ?_, fun k v => ?_⟩
  · rw [List.map_append, List.nodup_append]
    refine ⟨hp.1, h0.nodup.sublist ((List.filter_sublist).map _), fun a ha b hb e => ?_⟩
    obtain ⟨y, hy, rfl⟩ := List.mem_map.1 hb
    have := (List.mem_filter.1 hy).2
    simp only [decide_eq_true_eq] at this
    exact this (e ▸ ha)
  · rw [List.mem_append, List.mem_filter]
    constructor
    · rintro (h | ⟨h, _⟩)
      · exact hp.2 _ h
      · exact (h0.mem k v).1 h
    · intro h
      by_cases hk : k ∈ p.map (·.1)
      · obtain ⟨y, hy, rfl⟩ := List.mem_map.1 hk
        have := hp.2 y hy
        rw [h] at this
        left
        have e : v = y.2 := Option.some.inj this
        rw [e]; exact hy
      · exact .inr ⟨(h0.mem k v).2 h, by simpa using hk⟩
theorem Part.next {p : List (K × V)} {x : K × V} (hp : Part m p) (h : NextOf m p (some x)) : Part m (p ++ [x]) := by
  refine ⟨?_, fun y hy => ?_⟩
  · rw [List.map_append, List.nodup_append]
    refine ⟨hp.1, by simp, fun a ha b hb e => ?_⟩
    simp at hb; subst hb
    exact h.2 (e ▸ ha)
  · rcases List.mem_append.1 hy with h1 | h1
    · exact hp.2 y h1
    · simp at h1; subst h1; exact h.1
theorem Part.len {p l0 : List (K × V)} (hp : Part m p) (h0 : Lists m l0) : p.length ≤ l0.length := by
  obtain ⟨l, hl⟩ := hp.more h0
  have := (hl.perm h0).length_eq
  rw [List.length_append] at this
  omega
end

section
variable {P : Program} {Q : Exit → Act → World → Prop} {n : Nat} {F : Fr} {L : Slots} {B : Owns}
variable {K V : Type} {m : GMap K V}

variable [Rep K] [Rep V]
/-- A map has entries that can be listed. -/
theorem Cod.lists {c : Code} {t : Nat} {cd : Prop} (hl : look L t = some ⟨cd, rep m⟩) (hc : cd) (h : (∃ l, Lists m l) → Cod P c Q n F L B) : Cod P c Q n F L B := by
  intro a w hs
  obtain ⟨M, D, h1⟩ := id hs
  obtain ⟨v, hv, he⟩ := h1.has t _ hl
  rcases rep_map.1 (he.1 hc) with ⟨_, rfl⟩ | ⟨_, _, _, l, _, _, _, _, h2⟩
  · exact h ⟨[], Lists.nil⟩ a w hs
  · exact h ⟨l, h2.lists⟩ a w hs
end

end Go.DB

/-
  Structs that are made of memory of one's own: any rows or maps.
-/
set_option linter.unusedVariables false
set_option linter.unusedSimpArgs false
namespace Go.DB
open Go Go.RowKit

/-- What is told by a value of one cell. -/
def OneC (C : CPred) : Prop := ∀ M D v w, C.p M D v w → isOne v = true ∧ v.cells = #[v]
/-- What is written no more is what x stands for. -/
def FrzC {β : Type} [Rep β] (R : CPred) (x : β) : Prop := ∀ (M D : MSet) (s : Value) (w : World), R.p M D s w → (∀ k, M k → k < w.heap.size) → (rep x).p (fun k => M k ∧ ¬ D k) s w
section
variable {P : Program} {ops : Array Oper} {fs : Nat} {L : Slots} {B : Owns} {G : Prop}
variable {ty : TypeId} {pos : String} {after : Array Edge} {g : Option (Nat × Bool)} {xr : List Nat} {d : Option Tmp}

end
end Go.DB

