/-
  Operations, which of them count, and what there is: the law.
-/
import Derived.Test.YtlkebjlooppdlaaGreatDoorTEMPuStates1
set_option linter.unusedSimpArgs false
set_option linter.unusedVariables false
namespace Go.DB
open Go Go.RowKit

/-- What counts and is no undoing. -/
def someL (l : List DOp) : List DOp := ((List.range l.length).filter fun i => cntB l i && !decide ((opI l i).Kind = 3)).map (opI l)
theorem someL_succ (l : List DOp) (n : Nat) : ((List.range (n + 1)).filter fun i => cntB l i && !decide ((opI l i).Kind = 3)).map (opI l) = ((List.range n).filter fun i => cntB l i && !decide ((opI l i).Kind = 3)).map (opI l) ++ (if (cntB l n && !decide ((opI l n).Kind = 3)) = true then [opI l n] else []) := by
  rw [List.range_succ, List.filter_append, List.map_append]
  congr 1
  by_cases c : (cntB l n && !decide ((opI l n).Kind = 3)) = true
  · rw [if_pos c, List.filter_cons_of_pos (p := fun i => cntB l i && !decide ((opI l i).Kind = 3)) c]; rfl
  · rw [if_neg c, List.filter_cons_of_neg (p := fun i => cntB l i && !decide ((opI l i).Kind = 3)) c]; rfl
theorem someL_len (l : List DOp) (n : Nat) : (((List.range n).filter fun i => cntB l i && !decide ((opI l i).Kind = 3)).map (opI l)).length ≤ n := by
  rw [List.length_map]
  have := List.length_filter_le (fun i => cntB l i && !decide ((opI l i).Kind = 3)) (List.range n)
  rwa [List.length_range] at this
theorem gather_prog {l : List DOp} (h : l.length ≤ 2000) : rfor ((cntL l).length : Int) (edit_State_L1 l (cntL l)) ([] : List DOp) = some (someL l) := by
  rw [cntL_len]
  obtain ⟨s, e1, e2⟩ := rfor_inv (n := (l.length : Int)) (step := edit_State_L1 l (cntL l)) (s0 := ([] : List DOp)) (fun t s => s = ((List.range t).filter fun i => cntB l i && !decide ((opI l i).Kind = 3)).map (opI l)) (by omega) rfl (fun i s hi hI => by
    subst hI
    have hi' : i < l.length := by omega
    have hl := someL_len l i
    unfold edit_State_L1
    rw [need_of ⟨by omega, by rw [cntL_len]; omega⟩, need_of (fun _ => ⟨by omega, by omega⟩), cntL_at hi', someL_succ]
    show ∃ s', (bif cntB l i && !decide ((opI l i).Kind = 3) then _ else _) = some s' ∧ _
    cases c : cntB l i && !decide ((opI l i).Kind = 3) with
    | true => rw [cond_true, need_of ⟨by omega, by omega⟩, need_of (by rw [room_iff]; simp only [List.length_singleton]; omega)]; exact ⟨_, rfl, rfl⟩
    | false => rw [cond_false]; exact ⟨_, rfl, by simp⟩)
  rw [e1, e2]; rfl
/-- What an operation makes of what there is. -/
noncomputable def doM (m : GMap Str (GMap Str Str)) (x : DOp) : GMap Str (GMap Str Str) := if x.Kind = 2 then m.del x.Id else m.set x.Id ((m.getD x.Id GMap.nil).set x.Field x.Value)
theorem lists_set {K V : Type} [DecidableEq K] {m : GMap K V} {l : List (K × V)} (h : Lists m l) (k : K) (v : V) : ∃ l', Lists (m.set k v) l' ∧ l'.length ≤ l.length + 1 := by
  by_cases hx : ∃ x ∈ l, x.1 = k
  · obtain ⟨x, hx, rfl⟩ := hx
    obtain ⟨j, hj⟩ := List.getElem?_of_mem hx
    exact ⟨_, h.put hj, by rw [List.length_set]; omega⟩
  · exact ⟨_, h.push (fun x hx' e => hx ⟨x, hx', e⟩), by simp⟩
theorem lists_del {K V : Type} [DecidableEq K] {m : GMap K V} {l : List (K × V)} (h : Lists m l) (k : K) : ∃ l', Lists (m.del k) l' ∧ l'.length ≤ l.length := by
  by_cases hx : ∃ x ∈ l, x.1 = k
  · obtain ⟨x, hx, rfl⟩ := hx
    obtain ⟨j, hj⟩ := List.getElem?_of_mem hx
    exact ⟨_, h.drop hj, by have := List.length_eraseIdx_le l j; omega⟩
  · have hn := h.fst_ne (k := k) (fun x hx' e => hx ⟨x, hx', e⟩)
    refine ⟨l, ?_, Nat.le_refl _⟩
    have : m.del k = m := by
      cases m with
      | mk f =>
        unfold GMap.del
        congr 1
        funext x
        by_cases e : x = k
        · rw [if_pos e, e]; exact hn.symm
        · rw [if_neg e]
    rw [this]; exact h
theorem Small.doM {m : GMap Str (GMap Str Str)} {N : Nat} (h : Small m N) (x : DOp) : Small (doM m x) (N + 1) := by
  obtain ⟨⟨l, h1, h2⟩, h3⟩ := h
  unfold DB.doM
  split
  · obtain ⟨l', a, b⟩ := lists_del h1 x.Id
    refine ⟨⟨l', a, by omega⟩, fun k e hk => ?_⟩
    have hk' : (if k = x.Id then none else m.f k) = some e := hk
    split at hk'
    · cases hk'
    · obtain ⟨le, c, d⟩ := h3 k e hk'
      exact ⟨le, c, by omega⟩
  · obtain ⟨l', a, b⟩ := lists_set h1 x.Id ((m.getD x.Id GMap.nil).set x.Field x.Value)
    refine ⟨⟨l', a, by omega⟩, fun k e hk => ?_⟩
    have hk' : (if k = x.Id then some ((m.getD x.Id GMap.nil).set x.Field x.Value) else m.f k) = some e := hk
    split at hk'
    · obtain rfl := Option.some.inj hk'
      obtain ⟨le, c, d⟩ : ∃ le, Lists (m.getD x.Id GMap.nil) le ∧ le.length ≤ N := by
        unfold GMap.getD
        cases q : m.f x.Id with
        | none => exact ⟨[], Lists.nil, Nat.zero_le _⟩
        | some e => exact h3 x.Id e q
      obtain ⟨l2, c2, d2⟩ := lists_set c x.Field x.Value
      exact ⟨l2, c2, by omega⟩
    · obtain ⟨le, c, d⟩ := h3 k e hk'
      exact ⟨le, c, by omega⟩
theorem set_has {K V : Type} [DecidableEq K] {m : GMap K V} {k : K} {v : V} : (m.set k v).has k = true := by unfold GMap.has GMap.set; simp
theorem set_getD {K V : Type} [DecidableEq K] {m : GMap K V} {k : K} {v z : V} : (m.set k v).getD k z = v := by unfold GMap.getD GMap.set; simp
theorem set_set {K V : Type} [DecidableEq K] {m : GMap K V} {k : K} {v u : V} : (m.set k v).set k u = m.set k u := by
  unfold GMap.set
  congr 1
  funext x
  by_cases e : x = k <;> simp [e]
theorem getD_no {K V : Type} {m : GMap K V} {k : K} {z : V} (h : m.has k = false) : m.getD k z = z := by
  unfold GMap.has at h
  unfold GMap.getD
  cases q : m.f k with
  | none => rfl
  | some v => rw [q] at h; cases h
theorem do_eq (m : GMap Str (GMap Str Str)) (x : DOp) : edit_things_do m x = some (doM m x) := by
  unfold edit_things_do doM
  by_cases hk : x.Kind = 2
  · rw [decide_eq_true hk, if_pos hk]; rfl
  · rw [decide_eq_false hk, if_neg hk, cond_false]
    cases hh : m.has x.Id with
    | true =>
      simp only [Bool.not_true, cond_false, Option.bind_some]
      rw [need_of hh]
    | false =>
      simp only [Bool.not_false, cond_true, Option.bind_some]
      rw [need_of set_has, set_getD, set_set, getD_no hh]
theorem doL_prog {r : List DOp} (hr : r.length ≤ 2000) : ∃ m, rfor (r.length : Int) (edit_State_L2 r) (GMap.nil : GMap Str (GMap Str Str)) = some m ∧ m = r.foldl doM GMap.nil ∧ Small m 2000 := by
  obtain ⟨m, e1, e2, e3⟩ := rfor_inv (n := (r.length : Int)) (step := edit_State_L2 r) (s0 := (GMap.nil : GMap Str (GMap Str Str))) (fun t s => s = (r.take t).foldl doM GMap.nil ∧ Small s t) (by omega) ⟨rfl, ⟨[], Lists.nil, Nat.le_refl _⟩, fun k e h => by cases h⟩ (fun i s hi hI => by
    obtain ⟨i1, i2⟩ := hI
    have hi' : i < r.length := by omega
    unfold edit_State_L2
    rw [need_of ⟨by omega, by omega⟩, bnd_eq, do_eq, Option.bind_some, gx_nat hi']
    refine ⟨_, rfl, ?_, i2.doM _⟩
    rw [List.take_succ_eq_append_getElem hi', List.foldl_append, ← i1]; rfl)
  have e : (r.length : Int).toNat = r.length := by omega
  rw [e] at e2 e3
  rw [List.take_length] at e2
  refine ⟨m, e1, e2, ⟨?_, fun k e hk => ?_⟩⟩
  · obtain ⟨l, a, b⟩ := e3.1
    exact ⟨l, a, by omega⟩
  · obtain ⟨l, a, b⟩ := e3.2 k e hk
    exact ⟨l, a, by omega⟩
/-- What there is. -/
noncomputable def stateL (l : List DOp) : List Thing := thingsL ((sortF sortC_DOp (someL l)).foldl doM GMap.nil)
theorem sort_len (l : List DOp) : (sortF sortC_DOp l).length = l.length := by
  have hO : Sort.SWO (Proofs.ltOf sortC_DOp) := by
    have h : ∀ x y : { x : DOp // sortQ_DOp x }, Proofs.ltOf sortC_DOp x y = decide (cmpL x.1.Stamp.Time x.1.Stamp.Site.b x.1.Stamp.No y.1.Stamp.Time y.1.Stamp.Site.b y.1.Stamp.No < 0) := fun x y => rfl
    constructor
    · intro x; rw [h, cmpL_self]; rfl
    · intro x y z h1 h2
      rw [h] at *
      simp only [decide_eq_true_eq] at *
      exact (cmpL_trans (Int.le_of_lt h1) (Int.le_of_lt h2)).2 (.inl h1)
    · intro x y z h1 h2
      rw [h] at *
      simp only [decide_eq_false_iff_not, Int.not_lt] at *
      have e1 := cmpL_swap x.1.Stamp.Time x.1.Stamp.Site.b x.1.Stamp.No y.1.Stamp.Time y.1.Stamp.Site.b y.1.Stamp.No
      have e2 := cmpL_swap y.1.Stamp.Time y.1.Stamp.Site.b y.1.Stamp.No z.1.Stamp.Time z.1.Stamp.Site.b z.1.Stamp.No
      have e3 := cmpL_swap x.1.Stamp.Time x.1.Stamp.Site.b x.1.Stamp.No z.1.Stamp.Time z.1.Stamp.Site.b z.1.Stamp.No
      have := (cmpL_trans (t := z.1.Stamp.Time) (s := z.1.Stamp.Site.b) (n := z.1.Stamp.No) (t' := y.1.Stamp.Time) (s' := y.1.Stamp.Site.b) (n' := y.1.Stamp.No) (t'' := x.1.Stamp.Time) (s'' := x.1.Stamp.Site.b) (n'' := x.1.Stamp.No) (by omega) (by omega)).1
      omega
  exact (sortF_holds (l := l) (cf := sortC_DOp) hO (fun _ _ => trivial)).1.length_eq
theorem State_eq {l : List DOp} (h : opsErr l = 0) : edit_State l = some (stateL l, 0) := by
  have hl := (opsErr_len h).1
  have hs := someL_len l l.length
  have hs' : (someL l).length ≤ l.length := hs
  unfold edit_State
  rw [Check_eq, h, Option.bind_some]
  simp only [decide_true, Bool.not_true, cond_false]
  rw [counting_eq h, Option.bind_some, gather_prog hl, Option.bind_some]
  unfold slices_SortFunc_Op
  rw [need_of ⟨by omega, fun _ _ => trivial⟩, Option.bind_some, bnd_eq]
  obtain ⟨m, e1, e2, e3⟩ := doL_prog (r := sortF sortC_DOp (someL l)) (by rw [sort_len]; omega)
  rw [e1, Option.bind_some, listed_eq ⟨by obtain ⟨q, a, b⟩ := e3.1; exact ⟨q, a, by omega⟩, fun k e hk => by obtain ⟨q, a, b⟩ := e3.2 k e hk; exact ⟨q, a, by omega⟩⟩, Option.bind_some, e2]
  rfl
theorem stateL_small {l : List DOp} (h : opsErr l = 0) : (stateL l).length ≤ 100000 ∧ ∀ x ∈ stateL l, x.Attrs.length ≤ 100000 := by
  have hl := (opsErr_len h).1
  have hs' : (someL l).length ≤ l.length := someL_len l l.length
  obtain ⟨m, e1, e2, e3⟩ := doL_prog (r := sortF sortC_DOp (someL l)) (by rw [sort_len]; omega)
  unfold stateL
  rw [← e2]
  obtain ⟨⟨q, a, b⟩, g⟩ := e3
  refine ⟨by unfold thingsL; rw [List.length_map, keys_len a]; omega, fun x hx => ?_⟩
  obtain ⟨k, hk, rfl⟩ := List.mem_map.1 (show x ∈ (keysS m).map _ from hx)
  have hh := (keys_mem a).1 hk
  unfold GMap.has at hh
  cases q2 : m.f k with
  | none => rw [q2] at hh; cases hh
  | some e =>
    obtain ⟨le, c, d⟩ := g k e q2
    have : m.getD k GMap.nil = e := by unfold GMap.getD; rw [q2]; rfl
    show (attrsL (m.getD k GMap.nil)).length ≤ _
    rw [this]
    unfold attrsL
    rw [List.length_map, keys_len c]; omega
end Go.DB
