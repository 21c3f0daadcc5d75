/-
  Interface values whose dynamic type is known; boxes that hold pointers to other boxes.
-/
import Derived.Test.YtlbbcehlhbaggaaGreatDoorCore47
set_option linter.unusedVariables false
set_option linter.unusedSimpArgs false
namespace Go.DB
open Go Go.RowKit

/-- An interface value of dynamic type T. -/
def ifcS (T : TypeId) (S : SPred) : SPred where
  p := fun M v w => ∃ u, v = .iface T u ∧ S.p M u w
  law := fun M M' v w w' hk hm ⟨u, h, hs⟩ => ⟨u, h, S.law M M' u w w' hk hm hs⟩

/-- The type is no interface. -/
def NotIfc (P : Program) (T : TypeId) : Prop := ((P.underlying T).map (fun | .interface _ => false | _ => true)) = some true

/-- The method of that name of type T is function f. -/
def MethAt (P : Program) (T : TypeId) (name : String) (f : Nat) (ptrRecv : Bool) : Prop :=
  ((P.info? T).bind (fun i => i.methods.find? (·.name == name))).map (fun m => (m.path.toList.isEmpty, m.func)) = some (true, some (f, ptrRecv))

/-! Structs of integers as keys of maps. -/

theorem run_checkInts {P : Program} {T n : Nat} {xs : List Int} {w : World} (e : Bool) (hT : IntFields P T n) (hl : xs.length = n) : (Instr.checkKey e 10000 T (.agg (xs.map (Value.int .i64 ·)).toArray)).run P w = .ok () w := by
  obtain ⟨hu, _, _, hfs⟩ := hT
  have hun : (underlying T).run P w = .ok (.struct (P.fieldsOf T)) w := run_und hu
  rw [show (10000 : Nat) = 9999 + 1 from rfl, Instr.checkKey]
  simp only [Sem.run_bind, hun, Result.andThen_ok]
  rw [← Array.forIn_toList]
  have deep : ∀ f ∈ (P.fieldsOf T).toList, f.name ≠ "_" ∧ f.offset < n ∧ P.underlying f.type = some (.int .i64) := fun f hf => by
    have hm := List.mem_map_of_mem (f := fun f : Field => (f.name != "_", f.offset, P.underlying f.type)) hf
    rw [hfs] at hm
    obtain ⟨i, hi, he⟩ := List.mem_map.1 hm
    simp only [Prod.mk.injEq] at he
    exact ⟨by simpa using he.1.symm, by rw [← he.2.1]; exact List.mem_range.1 hi, he.2.2.symm⟩
  generalize (P.fieldsOf T).toList = L at deep
  induction L with
  | nil => simp
  | cons f L ih =>
    obtain ⟨h1, h2, h3⟩ := deep f (by simp)
    have hag : (isAgg f.type).run P w = .ok false w := by simp [isAgg, underlying, h3, go_sem]
    have hp : (part f.type (xs.map (Value.int .i64 ·)).toArray f.offset).run P w = .ok (.int .i64 (xs[f.offset]'(by omega))) w := by
      unfold part
      rw [Sem.run_bind, hag]
      simp only [Result.andThen]
      have : ((xs.map (Value.int .i64 ·)).toArray)[f.offset]? = some (.int .i64 (xs[f.offset]'(by omega))) := by simp [hl, h2]
      simp only [Bool.false_eq_true, if_false, this]
      rfl
    have hc : ∀ z, (Instr.checkKey e 9999 f.type (.int .i64 z)).run P w = .ok () w := fun z => by
      rw [show (9999 : Nat) = 9998 + 1 from rfl, Instr.checkKey]
      simp [underlying, h3, go_sem]
    simp only [List.forIn_cons, Sem.run_bind, h1, ne_eq, not_false_eq_true, if_true, Result.andThen_ok, hp, hc, Sem.run_pure]
    exact ih (fun y hy => deep y (by simp [hy]))

theorem run_findInts {P : Program} {T n : Nat} {xs : List Int} {w0 : World} (hT : IntFields P T n) (hl : xs.length = n) : ∀ (es : List MapEntry) (ls : List (List Int)) (i : Nat), es.length = ls.length → (∀ ys ∈ ls, ys.length = n) →
    (∀ (j : Nat) (e : MapEntry) (ys : List Int), es[j]? = some e → ls[j]? = some ys → e.key = .agg (ys.map (Value.int .i64 ·)).toArray) →
    ∃ r, (Instr.findAsking T (.agg (xs.map (Value.int .i64 ·)).toArray) es i).run P w0 = .ok r w0 ∧ ((r = none ∧ ∀ y ∈ ls, y ≠ xs) ∨ ∃ j e y, r = some (i + j, e.val) ∧ es[j]? = some e ∧ ls[j]? = some y ∧ y = xs)
  | [], ls, i, h, _, _ => by
    have : ls = [] := List.length_eq_zero_iff.1 h.symm
    subst this
    exact ⟨none, by simp [Instr.findAsking, go_sem], .inl ⟨rfl, by simp⟩⟩
  | e :: es, [], i, h, _, _ => by simp at h
  | e :: es, y :: ls, i, h, hn, h' => by
    have h0 := h' 0 e y rfl rfl
    have hyl := hn y (by simp)
    obtain ⟨hu, hst, hgd, hfs⟩ := id hT
    have heq : (Op.equal T (.agg (xs.map (Value.int .i64 ·)).toArray) e.key).run P w0 = .ok (decide (xs = y)) w0 := by
      rw [h0]
      show (Op.equalIn (9998 + 1 + 1) T _ _).run P w0 = _
      rw [run_equalIn_struct w0 _ T _ _ hu hst, run_eqFields 9998 xs y (by omega) _ 0 n (by omega) (by rw [hfs, List.range_eq_range'])]
      simp
    unfold Instr.findAsking
    rw [Sem.run_bind, heq]
    simp only [Result.andThen]
    by_cases hk : xs = y
    · rw [decide_eq_true hk]
      exact ⟨_, rfl, .inr ⟨0, e, y, rfl, rfl, rfl, hk.symm⟩⟩
    · rw [decide_eq_false hk]
      obtain ⟨r, h1, h2⟩ := run_findInts (w0 := w0) hT hl es ls (i + 1) (by simpa using h) (fun z hz => hn z (by simp [hz])) (fun j e' x' h1 h2 => h' (j + 1) e' x' (by simpa using h1) (by simpa using h2))
      refine ⟨r, by simpa using h1, ?_⟩
      rcases h2 with ⟨h2, h3⟩ | ⟨j, e', x', h2, h3, h4, h5⟩
      · exact .inl ⟨h2, fun z hz => by
          rcases List.mem_cons.1 hz with rfl | hz
          · exact fun e => hk e.symm
          · exact h3 z hz⟩
      · exact .inr ⟨j + 1, e', x', by rw [h2]; congr 2; omega, by simpa using h3, by simpa using h4, h5⟩

theorem sameBits_ints (n : Nat) (xs : List Int) : Instr.sameBits (n + 1) (.agg (xs.map (Value.int .i64 ·)).toArray) (.agg (xs.map (Value.int .i64 ·)).toArray) = true := by
  unfold Instr.sameBits
  simp only [beq_self_eq_true, Bool.true_and]
  rw [List.all_eq_true]
  intro x hx
  obtain ⟨a, b⟩ := x
  have : a = b ∧ ∃ z, a = Value.int .i64 z := by
    clear n
    induction xs with
    | nil => simp at hx
    | cons y ys ih =>
      simp only [List.map_cons, List.zip_cons_cons, List.mem_cons, Prod.mk.injEq] at hx
      rcases hx with ⟨rfl, rfl⟩ | hx
      · exact ⟨rfl, y, rfl⟩
      · exact ih hx
  obtain ⟨rfl, z, rfl⟩ := this
  cases n <;> simp [Instr.sameBits]

/-- A struct of integers as a key. -/
abbrev MKey.ints {K : Type} [Rep K] [DecidableEq K] (n : Nat) (f : K → List Int) (hf : ∀ a b, f a = f b ↔ a = b) (hlen : ∀ a, (f a).length = n)
    (hrep : ∀ (M : MSet) (v : Value) (w : World) (a : K), (rep a).p M v w → v = .agg ((f a).map (Value.int .i64 ·)).toArray) : MKey K where
  desc := fun P T => IntFields P T n
  check := fun {P T M w0 k v} e w hT hv => by
    obtain rfl := hrep _ _ _ _ hv
    exact run_checkInts e hT (hlen k)
  find := fun {P T M M' w w' k v} w0 hT hv es l hl h => by
    obtain rfl := hrep _ _ _ _ hv
    have hun : (underlying T).run P w0 = .ok (.struct (P.fieldsOf T)) w0 := run_und hT.1
    have conv : ∀ r i, ((r = none ∧ ∀ y ∈ l.map f, y ≠ f k) ∨ ∃ j e y, r = some (i + j, MapEntry.val e) ∧ es[j]? = some e ∧ (l.map f)[j]? = some y ∧ y = f k) → i = 0 → Found k es l r := by
      rintro r i hr rfl
      rcases hr with ⟨h1, h2⟩ | ⟨j, e, y, h1, h2, h3, h4⟩
      · exact .inl ⟨h1, fun x hx he => h2 (f x) (List.mem_map.2 ⟨x, hx, rfl⟩) (by rw [he])⟩
      · rw [List.getElem?_map, Option.map_eq_some_iff] at h3
        obtain ⟨x, hx, rfl⟩ := h3
        exact .inr ⟨j, e, x, by rw [h1, Nat.zero_add], h2, hx, (hf x k).1 h4⟩
    obtain ⟨r, h1, h2⟩ := run_findInts (w0 := w0) hT (hlen k) es (l.map f) 0 (by rw [List.length_map]; exact hl) (fun ys hy => by obtain ⟨x, _, rfl⟩ := List.mem_map.1 hy; exact hlen x) (fun j e ys hj hy => by
      rw [List.getElem?_map, Option.map_eq_some_iff] at hy
      obtain ⟨x, hx, rfl⟩ := hy
      exact hrep _ _ _ _ (h j e x hj hx))
    cases es with
    | nil =>
      have : l = [] := List.length_eq_zero_iff.1 hl.symm
      subst this
      refine ⟨none, ?_, .inl ⟨rfl, by simp⟩⟩
      simp only [Instr.findKey, Sem.run_bind, hun, Result.andThen, Instr.findNow, Sem.run_pure]
    | cons e es =>
      refine ⟨r, ?_, conv r 0 h2 rfl⟩
      simp only [Instr.findKey, Sem.run_bind, hun, Result.andThen, Instr.findNow, Instr.sameNow]
      exact h1
  bits := fun {M M' w w' k v1 v2} h1 h2 => by
    obtain rfl := hrep _ _ _ _ h1
    obtain rfl := hrep _ _ _ _ h2
    exact sameBits_ints 9999 _

section
variable {P : Program} {ops : Array Oper} {fs : Nat} {L : Slots} {B : Owns} {G : Prop}
variable {d : Option Tmp} {ty : TypeId} {pos : String} {after : Array Edge} {g : Option (Nat × Bool)} {xr : List Nat}

end

section
variable {P : Program} {Q : Exit → Act → World → Prop} {n : Nat} {F : Fr} {L : Slots} {B : Owns}
end
end Go.DB
