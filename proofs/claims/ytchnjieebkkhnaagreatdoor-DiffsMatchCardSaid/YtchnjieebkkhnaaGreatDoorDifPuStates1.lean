/-
  What there is: maps of maps, listed by their keys.
-/
import Derived.Test.YtchnjieebkkhnaaGreatDoorDifPuCount
import Derived.Test.YtchnjieebkkhnaaGreatDoorDifPuEdits
import Derived.Test.YtchnjieebkkhnaaGreatDoorExKeys
import Derived.Test.YtchnjieebkkhnaaGreatDoorExSortU
import Derived.Test.YtchnjieebkkhnaaGreatDoorExLater
set_option linter.unusedSimpArgs false
set_option linter.unusedVariables false
namespace Go.DB
open Go Go.RowKit

/-! Keys in order. -/

theorem lt_cmp : ∀ a b : List UInt8, a < b ↔ cmpB a b < 0
  | [], [] => by simp [cmpB]
  | [], b :: m => by simp [cmpB]
  | a :: l, [] => by simp [cmpB]
  | a :: l, b :: m => by
    rw [List.cons_lt_cons_iff, lt_cmp l m]
    show _ ↔ (if a.toNat < b.toNat then (-1 : Int) else if b.toNat < a.toNat then 1 else cmpB l m) < 0
    have h1 : a < b ↔ a.toNat < b.toNat := Iff.rfl
    have h2 : a = b ↔ a.toNat = b.toNat := ⟨fun e => by rw [e], fun e => UInt8.toNat_inj.1 e⟩
    rw [h1, h2]
    by_cases c1 : a.toNat < b.toNat
    · rw [if_pos c1]; simp [c1]
    · rw [if_neg c1]
      by_cases c2 : b.toNat < a.toNat
      · rw [if_pos c2]
        constructor
        · rintro (h | ⟨h, _⟩)
          · exact absurd h c1
          · omega
        · intro h; omega
      · rw [if_neg c2]
        have : a.toNat = b.toNat := by omega
        simp [this]
theorem le_cmp {a b : List UInt8} (h : Go.leB a b = true) (hne : a ≠ b) : cmpB a b < 0 := by
  have h' : a ≤ b := of_decide_eq_true h
  have h2 : ¬ b < a := by
    rw [← List.not_lt] at h'
    exact h'
  rw [lt_cmp] at h2
  have := cmpB_swap a b
  have h0 : cmpB a b ≠ 0 := fun e => hne (cmpB_zero e)
  omega
section
variable {V : Type}
/-- The keys of a map. -/
theorem keys_perm {m : GMap Str V} {l : List (Str × V)} (h : Lists m l) : (keysS m).Perm (l.map (·.1)) := by
  rw [keysS_eq h]
  have := (List.mergeSort_perm (l.map fun x => x.1.b) Go.leB).map Str.mk
  rw [List.map_map] at this
  exact this
theorem keys_sorted {m : GMap Str V} {l : List (Str × V)} (h : Lists m l) : (keysS m).Pairwise (fun a b => cmpB a.b b.b < 0) := by
  have hnd : (keysS m).Nodup := (keys_perm h).nodup_iff.2 h.nodup
  rw [keysS_eq h] at hnd ⊢
  rw [List.pairwise_map]
  have tr : ∀ a b c : List UInt8, Go.leB a b = true → Go.leB b c = true → Go.leB a c = true := fun a b c h1 h2 => by simp only [Go.leB, decide_eq_true_eq] at *; exact List.le_trans h1 h2
  have tt : ∀ a b : List UInt8, (Go.leB a b || Go.leB b a) = true := fun a b => by simp only [Go.leB, Bool.or_eq_true, decide_eq_true_eq]; exact List.le_total a b
  have hp := List.pairwise_mergeSort tr tt (l.map fun x => x.1.b)
  rw [List.nodup_iff_pairwise_ne, List.pairwise_map] at hnd
  exact (hp.and hnd).imp fun ⟨a, b⟩ => le_cmp a (fun e => b (congrArg Str.mk e))
theorem keys_mem {m : GMap Str V} {l : List (Str × V)} (h : Lists m l) {k : Str} : k ∈ keysS m ↔ m.has k = true := by
  rw [(keys_perm h).mem_iff, List.mem_map]
  unfold GMap.has
  constructor
  · rintro ⟨x, hx, rfl⟩
    rw [(h.mem x.1 x.2).1 hx]; rfl
  · intro hk
    cases e : m.f k with
    | none => rw [e] at hk; cases hk
    | some v => exact ⟨(k, v), (h.mem k v).2 e, rfl⟩
theorem keys_len {m : GMap Str V} {l : List (Str × V)} (h : Lists m l) : (keysS m).length = l.length := by rw [(keys_perm h).length_eq, List.length_map]
/-- What a map's entries make, by their keys. -/
theorem keys_map {W : Type} {m : GMap Str V} {l : List (Str × V)} (h : Lists m l) (z : V) (f : Str → V → W) : ((keysS m).map fun k => f k (m.getD k z)).Perm (l.map fun x => f x.1 x.2) := by
  have h1 := (keys_perm h).map fun k => f k (m.getD k z)
  rw [List.map_map] at h1
  have e : l.map ((fun k => f k (m.getD k z)) ∘ (·.1)) = l.map fun x => f x.1 x.2 := List.map_congr_left fun x hx => by
    have := (h.mem x.1 x.2).1 hx
    simp only [Function.comp, GMap.getD, this, Option.getD_some]
  rw [e] at h1
  exact h1
end

/-! Attributes, things. -/

noncomputable def attrsL (e : GMap Str Str) : List Attr := (keysS e).map fun f => ⟨f, e.getD f Str.nil⟩
noncomputable def thingsL (m : GMap Str (GMap Str Str)) : List Thing := (keysS m).map fun k => ⟨k, attrsL (m.getD k GMap.nil)⟩
theorem SortAttr_eq {e : GMap Str Str} {l : List (Str × Str)} (h : Lists e l) (hn : l.length ≤ 4611686018427387903) : slices_SortFunc_Attr (l.map fun x => ⟨x.1, x.2⟩) = some (attrsL e) := by
  unfold slices_SortFunc_Attr
  rw [need_of ⟨by rw [List.length_map]; omega, fun _ _ => trivial⟩]
  congr 1
  have hO : Sort.SWO (Proofs.ltOf sortC_Attr) := by
    have h : ∀ x y : { x : Attr // sortQ_Attr x }, Proofs.ltOf sortC_Attr x y = decide (cmpB x.1.Field.b y.1.Field.b < 0) := fun x y => rfl
    constructor
    · intro x; rw [h, cmpB_self]; rfl
    · intro x y z h1 h2
      rw [h] at *
      simp only [decide_eq_true_eq] at *
      exact (cmpB_trans (by omega) (by omega)).2 (.inl h1)
    · intro x y z h1 h2
      rw [h] at *
      simp only [decide_eq_false_iff_not, Int.not_lt] at *
      have e1 := cmpB_swap x.1.Field.b y.1.Field.b
      have e2 := cmpB_swap y.1.Field.b z.1.Field.b
      have e3 := cmpB_swap x.1.Field.b z.1.Field.b
      have := (cmpB_trans (a := z.1.Field.b) (b := y.1.Field.b) (c := x.1.Field.b) (by omega) (by omega)).1
      omega
  obtain ⟨p1, p2⟩ := sortF_holds (l := l.map fun x => (⟨x.1, x.2⟩ : Attr)) (Q := sortQ_Attr) (cf := sortC_Attr) hO (fun _ _ => trivial)
  have hs : (attrsL e).Pairwise (keyLt fun x : Attr => x.Field) := by
    unfold attrsL
    rw [List.pairwise_map]
    exact (keys_sorted h).imp fun h => h
  have hp : (attrsL e).Perm (l.map fun x => (⟨x.1, x.2⟩ : Attr)) := keys_map h Str.nil fun k v => (⟨k, v⟩ : Attr)
  refine strict_one (keyLt fun x : Attr => x.Field) (keyLt_asym _) (p1.trans hp.symm) ?_ hs
  rw [List.pairwise_iff_getElem]
  intro i j hi hj hij
  have hlt := p2 i j hij hj trivial trivial
  have hne : (sortF sortC_Attr (l.map fun x => (⟨x.1, x.2⟩ : Attr)))[i].Field ≠ (sortF sortC_Attr (l.map fun x => (⟨x.1, x.2⟩ : Attr)))[j].Field := fun e => by
    have hnd : ((sortF sortC_Attr (l.map fun x => (⟨x.1, x.2⟩ : Attr))).map (·.Field)).Nodup := by
      refine (p1.map _).nodup_iff.2 ?_
      rw [List.map_map]
      exact h.nodup
    rw [List.nodup_iff_pairwise_ne, List.pairwise_iff_getElem] at hnd
    have := hnd i j (by rw [List.length_map]; exact hi) (by rw [List.length_map]; exact hj) hij
    rw [List.getElem_map, List.getElem_map] at this
    exact this e
  generalize (sortF sortC_Attr (l.map fun x => (⟨x.1, x.2⟩ : Attr)))[i] = a at *
  generalize (sortF sortC_Attr (l.map fun x => (⟨x.1, x.2⟩ : Attr)))[j] = b at *
  have hlt' : ¬ cmpB b.Field.b a.Field.b < 0 := hlt
  show cmpB a.Field.b b.Field.b < 0
  have hsw := cmpB_swap a.Field.b b.Field.b
  have h0 : cmpB a.Field.b b.Field.b ≠ 0 := fun e => hne (site_ext (cmpB_zero e))
  omega
theorem mfold_app {K V τ σ : Type} {step : K → V → σ → Option σ} (mk : List τ → σ) (g : K × V → τ) (N : Nat) : ∀ (l : List (K × V)) (s : List τ), s.length + l.length ≤ N → (∀ x ∈ l, ∀ s : List τ, s.length < N → step x.1 x.2 (mk s) = some (mk (s ++ [g x]))) → mfold step l (mk s) = some (mk (s ++ l.map g))
  | [], s, _, _ => by simp [mfold]
  | x :: l, s, hN, h => by
    simp only [List.length_cons] at hN
    simp only [mfold, h x (by simp) s (by omega), Option.bind_some]
    rw [mfold_app mk g N l (s ++ [g x]) (by simp only [List.length_append, List.length_singleton]; omega) (fun y hy => h y (by simp [hy]))]
    simp
/-- A map of maps that is small. -/
def Small (m : GMap Str (GMap Str Str)) (N : Nat) : Prop := (∃ l, Lists m l ∧ l.length ≤ N) ∧ ∀ k e, m.f k = some e → ∃ l, Lists e l ∧ l.length ≤ N
theorem listed_L1 {e : GMap Str Str} {l0 : List (Str × Str)} (h : Lists e l0) (hn : l0.length ≤ 2199023255551) (k : Str) {s : List Thing} (hs : s.length ≤ 2199023255551) : edit_things_listed_L1 k e s = some (s ++ [⟨k, attrsL e⟩]) := by
  unfold edit_things_listed_L1
  refine mrangeK_of h fun l hl => ?_
  have hll : l.length = l0.length := (hl.perm h).length_eq
  refine ⟨_, mfold_app (fun s => (⟨k, s⟩ : Thing)) (fun x => (⟨x.1, x.2⟩ : Attr)) 2199023255551 l [] (by simp; omega) (fun x _ s hs => ?_), ?_⟩
  · unfold edit_things_listed_L2
    rw [need_of (by show _ ≤ 2199023255552; simp only [List.length_singleton]; omega)]
  · simp only [List.nil_append]
    rw [SortAttr_eq hl (by omega), Option.bind_some, need_of (by show _ ≤ 2199023255552; simp only [List.length_singleton]; omega)]
theorem things_sorted {m : GMap Str (GMap Str Str)} {l : List (Str × GMap Str Str)} (h : Lists m l) : (thingsL m).Pairwise (keyLt fun x : Thing => x.Id) := by
  unfold thingsL
  rw [List.pairwise_map]
  exact (keys_sorted h).imp fun h => h
theorem listed_eq {m : GMap Str (GMap Str Str)} (hm : Small m 2199023255551) : edit_things_listed m = some (thingsL m) := by
  obtain ⟨⟨l0, h0, hn⟩, hin⟩ := hm
  unfold edit_things_listed
  refine mrangeK_of h0 fun l hl => ?_
  have hll : l.length = l0.length := (hl.perm h0).length_eq
  refine ⟨_, mfold_app (fun s : List Thing => s) (fun x => (⟨x.1, attrsL x.2⟩ : Thing)) 2199023255551 l [] (by simp; omega) (fun x hx s hs => ?_), ?_⟩
  · obtain ⟨le, hle, hne⟩ := hin x.1 x.2 ((hl.mem x.1 x.2).1 hx)
    exact listed_L1 hle (by omega) x.1 (by omega)
  · simp only [List.nil_append]
    unfold slices_SortFunc_Thing
    rw [need_of ⟨by rw [List.length_map]; omega, by rw [List.map_map]; exact hl.nodup⟩, Option.bind_some]
    congr 1
    exact usort_eq (keys_map hl GMap.nil fun k e => (⟨k, attrsL e⟩ : Thing)) (things_sorted hl)
theorem ThingsOf_eq {m : GMap Str (GMap Str Str)} (hm : Small m 2199023255551) : ref_ThingsOf m = some (thingsL m) := by
  obtain ⟨⟨l0, h0, hn⟩, hin⟩ := hm
  have hk := keys_len h0
  have hsz := h0.size
  unfold ref_ThingsOf
  rw [need_of ⟨by omega, l0, h0⟩, bnd_eq]
  rw [rfor_gatherN 2199023255552 (by omega) (l := keysS m) (fun k => [(⟨k, attrsL (m.getD k GMap.nil)⟩ : Thing)]) [] (fun a _ => by simp) (by simp; omega) (fun i s hi hs => by
    unfold ref_ThingsOf_L1
    rw [need_of hi, bnd_eq]
    have hmem := gx_mem hi
    rw [keys_mem h0] at hmem
    generalize gx (keysS m) i = k at *
    obtain ⟨e, he⟩ : ∃ e, m.f k = some e := by
      unfold GMap.has at hmem
      cases q : m.f k with
      | none => rw [q] at hmem; cases hmem
      | some e => exact ⟨e, rfl⟩
    obtain ⟨le, hle, hne⟩ := hin k e he
    have hg : m.getD k (GMap.nil : GMap Str Str) = e := by unfold GMap.getD; rw [he]; rfl
    have hse := hle.size
    have hke := keys_len hle
    rw [hg, need_of ⟨by omega, le, hle⟩, bnd_eq]
    obtain ⟨s1, e1, e2⟩ := rfor_inv (n := ((keysS e).length : Int)) (step := ref_ThingsOf_L2 m (keysS e) k) (s0 := (⟨k, ([] : List Attr)⟩ : Thing)) (fun t s => s = ⟨k, ((keysS e).take t).map fun f => ⟨f, e.getD f Str.nil⟩⟩) (by omega) rfl (fun j s hj hI => by
      subst hI
      have hj' : j < (keysS e).length := by omega
      unfold ref_ThingsOf_L2
      simp only
      rw [need_of ⟨by omega, by omega⟩, bnd_eq, gx_nat hj', hg, need_of (by show _ ≤ 2199023255552; simp only [List.length_map, List.length_take, List.length_singleton]; omega)]
      refine ⟨_, rfl, ?_⟩
      rw [List.take_succ_eq_append_getElem hj', List.map_append]; rfl)
    rw [e1, e2, Option.bind_some, show ((keysS e).length : Int).toNat = (keysS e).length by omega, List.take_length, need_of (by show _ ≤ 2199023255552; simp only [List.length_singleton]; omega)]
    rfl), Option.bind_some, ← List.map_eq_flatMap]
  rfl
end Go.DB
