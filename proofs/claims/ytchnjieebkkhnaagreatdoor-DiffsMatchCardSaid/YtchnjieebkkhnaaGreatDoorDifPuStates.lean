/-
  Operations, which of them count, and what there is: the law.
-/
import Derived.Test.YtchnjieebkkhnaaGreatDoorDifPuStates1
set_option linter.unusedSimpArgs false
set_option linter.unusedVariables false
namespace Go.DB
open Go Go.RowKit

/-- What counts and is no undoing. -/
def someL (l : List DOp) : List DOp := ((List.range l.length).filter fun i => cntB l i && !decide ((opI l i).Kind = 3)).map (opI l)
/-- What an operation makes of what there is. -/
noncomputable def doM (m : GMap Str (GMap Str Str)) (x : DOp) : GMap Str (GMap Str Str) := if x.Kind = 2 then m.del x.Id else m.set x.Id ((m.getD x.Id GMap.nil).set x.Field x.Value)
theorem lists_set {K V : Type} [DecidableEq K] {m : GMap K V} {l : List (K × V)} (h : Lists m l) (k : K) (v : V) : ∃ l', Lists (m.set k v) l' ∧ l'.length ≤ l.length + 1 := by
  by_cases hx : ∃ x ∈ l, x.1 = k
  · obtain ⟨x, hx, rfl⟩ := hx
    obtain ⟨j, hj⟩ := List.getElem?_of_mem hx
    exact ⟨_, h.put hj, by rw [List.length_set]; omega⟩
  · exact ⟨_, h.push (fun x hx' e => hx ⟨x, hx', e⟩), by simp⟩
theorem lists_del {K V : Type} [DecidableEq K] {m : GMap K V} {l : List (K × V)} (h : Lists m l) (k : K) : ∃ l', Lists (m.del k) l' ∧ l'.length ≤ l.length := by
  by_cases hx : ∃ x ∈ l, x.1 = k
  · obtain ⟨x, hx, rfl⟩ := hx
    obtain ⟨j, hj⟩ := List.getElem?_of_mem hx
    exact ⟨_, h.drop hj, by have := List.length_eraseIdx_le l j; omega⟩
  · have hn := h.fst_ne (k := k) (fun x hx' e => hx ⟨x, hx', e⟩)
    refine ⟨l, ?_, Nat.le_refl _⟩
    have : m.del k = m := by
      cases m with
      | mk f =>
        unfold GMap.del
        congr 1
        funext x
        by_cases e : x = k
        · rw [if_pos e, e]; exact hn.symm
        · rw [if_neg e]
    rw [this]; exact h
theorem Small.doM {m : GMap Str (GMap Str Str)} {N : Nat} (h : Small m N) (x : DOp) : Small (doM m x) (N + 1) := by
  obtain ⟨⟨l, h1, h2⟩, h3⟩ := h
  unfold DB.doM
  split
  · obtain ⟨l', a, b⟩ := lists_del h1 x.Id
    refine ⟨⟨l', a, by omega⟩, fun k e hk => ?_⟩
    have hk' : (if k = x.Id then none else m.f k) = some e := hk
    split at hk'
    · cases hk'
    · obtain ⟨le, c, d⟩ := h3 k e hk'
      exact ⟨le, c, by omega⟩
  · obtain ⟨l', a, b⟩ := lists_set h1 x.Id ((m.getD x.Id GMap.nil).set x.Field x.Value)
    refine ⟨⟨l', a, by omega⟩, fun k e hk => ?_⟩
    have hk' : (if k = x.Id then some ((m.getD x.Id GMap.nil).set x.Field x.Value) else m.f k) = some e := hk
    split at hk'
    · obtain rfl := Option.some.inj hk'
      obtain ⟨le, c, d⟩ : ∃ le, Lists (m.getD x.Id GMap.nil) le ∧ le.length ≤ N := by
        unfold GMap.getD
        cases q : m.f x.Id with
        | none => exact ⟨[], Lists.nil, Nat.zero_le _⟩
        | some e => exact h3 x.Id e q
      obtain ⟨l2, c2, d2⟩ := lists_set c x.Field x.Value
      exact ⟨l2, c2, by omega⟩
    · obtain ⟨le, c, d⟩ := h3 k e hk'
      exact ⟨le, c, by omega⟩
theorem set_has {K V : Type} [DecidableEq K] {m : GMap K V} {k : K} {v : V} : (m.set k v).has k = true := by unfold GMap.has GMap.set; simp
theorem set_getD {K V : Type} [DecidableEq K] {m : GMap K V} {k : K} {v z : V} : (m.set k v).getD k z = v := by unfold GMap.getD GMap.set; simp
theorem set_set {K V : Type} [DecidableEq K] {m : GMap K V} {k : K} {v u : V} : (m.set k v).set k u = m.set k u := by
  unfold GMap.set
  congr 1
  funext x
  by_cases e : x = k <;> simp [e]
theorem getD_no {K V : Type} {m : GMap K V} {k : K} {z : V} (h : m.has k = false) : m.getD k z = z := by
  unfold GMap.has at h
  unfold GMap.getD
  cases q : m.f k with
  | none => rfl
  | some v => rw [q] at h; cases h
theorem do_eq (m : GMap Str (GMap Str Str)) (x : DOp) : edit_things_do m x = some (doM m x) := by
  unfold edit_things_do doM
  by_cases hk : x.Kind = 2
  · rw [decide_eq_true hk, if_pos hk]; rfl
  · rw [decide_eq_false hk, if_neg hk, cond_false]
    cases hh : m.has x.Id with
    | true =>
      simp only [Bool.not_true, cond_false, Option.bind_some]
      rw [need_of hh]
    | false =>
      simp only [Bool.not_false, cond_true, Option.bind_some]
      rw [need_of set_has, set_getD, set_set, getD_no hh]
theorem Equal_Attr_self (s : List Attr) (hl : (s.length : Int) ≤ 9223372036854775807) : slices_Equal_Attr s s = some true := by
  unfold slices_Equal_Attr
  simp only [decide_true, Bool.not_true, cond_false]
  rw [rforE_same rfl hl (fun i hi => by
    unfold slices_Equal_Attr_L1
    rw [need_of ⟨by omega, by omega⟩, need_of ⟨by omega, by omega⟩, gx_nat hi]
    simp)]
  simp
theorem SameThings_self {s : List Thing} (hl : (s.length : Int) ≤ 9223372036854775807) (ha : ∀ x ∈ s, (x.Attrs.length : Int) ≤ 9223372036854775807) : ref_SameThings s s = some true := by
  unfold ref_SameThings slices_EqualFunc_Thing
  simp only [decide_true, Bool.not_true, cond_false]
  rw [rforE_any (fun _ => false) (Res.ab false) hl (fun i hi => by
    unfold slices_EqualFunc_Thing_L1
    have hs : ref_SameThings_1 (gx s i) (gx s i) = some true := by
      unfold ref_SameThings_1
      rw [Equal_Attr_self _ (ha _ (gx_mem hi))]
      simp
    rw [need_of hi, bnd_eq, need_of hi, bnd_eq, hs]; rfl)]
  simp
theorem things_bad {e : Int} (he : e ≠ 0) (r : Option (List Thing)) : law_things [] e e r = some true := by
  unfold law_things
  rw [decide_eq_false he]; simp
end Go.DB
