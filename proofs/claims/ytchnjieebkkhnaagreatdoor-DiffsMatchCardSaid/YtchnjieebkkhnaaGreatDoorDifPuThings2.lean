/-
  Things as maps, and back.
-/
import Derived.Test.YtchnjieebkkhnaaGreatDoorDifPuThings1
import Derived.Test.YtchnjieebkkhnaaGreatDoorDifPuStates
set_option linter.unusedSimpArgs false
set_option linter.unusedVariables false
namespace Go.DB
open Go Go.RowKit

def attrM (l : List Attr) : GMap Str Str := l.foldl (fun e a => e.set a.Field a.Value) GMap.nil
def mapT (l : List Thing) : GMap Str (GMap Str Str) := l.foldl (fun m t => m.set t.Id (attrM t.Attrs)) GMap.nil
theorem lists_fold {V A : Type} (kf : A → Str) (vf : A → V) : ∀ (l : List A) (m : GMap Str V) (l0 : List (Str × V)), Lists m l0 → ((l0.map (·.1)) ++ l.map kf).Nodup → Lists (l.foldl (fun m x => m.set (kf x) (vf x)) m) (l0 ++ l.map fun x => (kf x, vf x))
  | [], m, l0, h, _ => by simpa using h
  | x :: l, m, l0, h, hn => by
    rw [List.foldl_cons, List.map_cons]
    have hnx : ∀ y ∈ l0, y.1 ≠ kf x := fun y hy e => by
      rw [List.nodup_append] at hn
      exact hn.2.2 y.1 (List.mem_map.2 ⟨y, hy, rfl⟩) (kf x) (by simp) e
    have := lists_fold kf vf l _ _ (h.push hnx (v := vf x)) (by simpa [List.map_append, List.append_assoc] using hn)
    simpa [List.append_assoc] using this
theorem nodup_keys {A : Type} (kf : A → Str) {l : List A} (h : l.Pairwise (fun a b => cmpB (kf a).b (kf b).b < 0)) : (l.map kf).Nodup := by
  rw [List.nodup_iff_pairwise_ne, List.pairwise_map]
  exact h.imp fun {a b} hlt e => by rw [e, cmpB_self] at hlt; omega
theorem attrM_lists {l : List Attr} (h : l.Pairwise (fun a b => cmpB a.Field.b b.Field.b < 0)) : Lists (attrM l) (l.map fun a => (a.Field, a.Value)) := by
  have := lists_fold (fun a : Attr => a.Field) (fun a => a.Value) l GMap.nil [] Lists.nil (by simpa using nodup_keys (fun a : Attr => a.Field) h)
  rw [List.nil_append] at this
  exact this
theorem mapT_lists {l : List Thing} (h : l.Pairwise (fun a b => cmpB a.Id.b b.Id.b < 0)) : Lists (mapT l) (l.map fun a => (a.Id, attrM a.Attrs)) := by
  have := lists_fold (fun a : Thing => a.Id) (fun a => attrM a.Attrs) l GMap.nil [] Lists.nil (by simpa using nodup_keys (fun a : Thing => a.Id) h)
  rw [List.nil_append] at this
  exact this
theorem str_irr (a : Str) : ¬ cmpB a.b a.b < 0 := by rw [cmpB_self]; omega
theorem str_asym (a b : Str) (h : cmpB a.b b.b < 0) (h' : cmpB b.b a.b < 0) : False := by
  have := cmpB_swap a.b b.b
  omega
theorem keys_list {V A : Type} {kf : A → Str} {vf : A → V} {m : GMap Str V} {l : List A} (hL : Lists m (l.map fun x => (kf x, vf x))) (h : l.Pairwise (fun a b => cmpB (kf a).b (kf b).b < 0)) : keysS m = l.map kf := by
  refine sorted_uniq (R := fun a b : Str => cmpB a.b b.b < 0) str_irr str_asym (keys_sorted hL) (by rw [List.pairwise_map]; exact h) fun x => ?_
  rw [(keys_perm hL).mem_iff, List.map_map]
  exact Iff.rfl
theorem lists_get {K V : Type} {m : GMap K V} {l : List (K × V)} (h : Lists m l) {x : K × V} (hx : x ∈ l) (z : V) : m.getD x.1 z = x.2 := by
  unfold GMap.getD
  rw [(h.mem x.1 x.2).1 hx]; rfl
theorem attrsL_M {l : List Attr} (h : l.Pairwise (fun a b => cmpB a.Field.b b.Field.b < 0)) : attrsL (attrM l) = l := by
  have hL := attrM_lists h
  unfold attrsL
  rw [keys_list (kf := fun a : Attr => a.Field) (vf := fun a => a.Value) hL h, List.map_map]
  conv => rhs; rw [← List.map_id l]
  refine List.map_congr_left fun a ha => ?_
  have := lists_get hL (x := (a.Field, a.Value)) (List.mem_map.2 ⟨a, ha, rfl⟩) Str.nil
  simp only [Function.comp]
  rw [this]; rfl
theorem thingsL_M {l : List Thing} (h : RightT l) : thingsL (mapT l) = l := by
  have hL := mapT_lists h.ids
  unfold thingsL
  rw [keys_list (kf := fun a : Thing => a.Id) (vf := fun a => attrM a.Attrs) hL h.ids, List.map_map]
  conv => rhs; rw [← List.map_id l]
  refine List.map_congr_left fun a ha => ?_
  have := lists_get hL (x := (a.Id, attrM a.Attrs)) (List.mem_map.2 ⟨a, ha, rfl⟩) GMap.nil
  simp only [Function.comp]
  rw [this]
  simp only
  rw [attrsL_M (h.fields a ha)]; rfl
theorem mapT_has {l : List Thing} (h : RightT l) (k : Str) : (mapT l).has k = true ↔ ∃ t ∈ l, t.Id = k := by
  rw [← keys_mem (mapT_lists h.ids), keys_list (kf := fun a : Thing => a.Id) (vf := fun a => attrM a.Attrs) (mapT_lists h.ids) h.ids, List.mem_map]
theorem mapT_at {l : List Thing} (h : RightT l) {t : Thing} (ht : t ∈ l) : (mapT l).f t.Id = some (attrM t.Attrs) := ((mapT_lists h.ids).mem t.Id _).1 (List.mem_map.2 ⟨t, ht, rfl⟩)
theorem attrM_at {l : List Attr} (h : l.Pairwise (fun a b => cmpB a.Field.b b.Field.b < 0)) {a : Attr} (ha : a ∈ l) : (attrM l).f a.Field = some a.Value := ((attrM_lists h).mem _ _).1 (List.mem_map.2 ⟨a, ha, rfl⟩)
theorem attrM_has {l : List Attr} (h : l.Pairwise (fun a b => cmpB a.Field.b b.Field.b < 0)) (k : Str) : (attrM l).has k = true ↔ ∃ a ∈ l, a.Field = k := by
  rw [← keys_mem (attrM_lists h), keys_list (kf := fun a : Attr => a.Field) (vf := fun a => a.Value) (attrM_lists h) h, List.mem_map]
theorem mapT_small {l : List Thing} (h : RightT l) : Small (mapT l) 2000 := by
  refine ⟨⟨_, mapT_lists h.ids, by rw [List.length_map]; exact h.len⟩, fun k e hk => ?_⟩
  obtain ⟨t, ht, e⟩ := List.mem_map.1 (((mapT_lists h.ids).mem k e).2 hk)
  obtain ⟨rfl, rfl⟩ := Prod.mk.inj e
  exact ⟨_, attrM_lists (h.fields t ht), by rw [List.length_map]; have := (h.some t ht).2; omega⟩
theorem thingsOf_eq {l : List Thing} (h : RightT l) : edit_thingsOf l = some (mapT l) := by
  have hl := h.len
  unfold edit_thingsOf
  rw [bnd_eq]
  obtain ⟨m, e1, e2⟩ := rfor_inv (n := (l.length : Int)) (step := edit_thingsOf_L1 l) (s0 := (GMap.nil : GMap Str (GMap Str Str))) (fun t s => s = (l.take t).foldl (fun m t => m.set t.Id (attrM t.Attrs)) GMap.nil) (by omega) rfl (fun i s hi hI => by
    have hi' : i < l.length := by omega
    have ha := (h.some _ (List.getElem_mem hi')).2
    unfold edit_thingsOf_L1
    rw [need_of ⟨by omega, by omega⟩, bnd_eq, bnd_eq, gx_nat hi']
    obtain ⟨m, e1, e2⟩ := rfor_inv (n := (l[i].Attrs.length : Int)) (step := edit_thingsOf_L2 l[i]) (s0 := s.set l[i].Id (GMap.nil : GMap Str Str)) (fun t s' => s' = s.set l[i].Id (attrM (l[i].Attrs.take t))) (by omega) rfl (fun j s' hj hJ => by
      have hj' : j < l[i].Attrs.length := by omega
      subst hJ
      unfold edit_thingsOf_L2
      rw [need_of ⟨by omega, by omega⟩, bnd_eq, need_of set_has, set_getD, set_set, gx_nat hj']
      refine ⟨_, rfl, ?_⟩
      rw [List.take_succ_eq_append_getElem hj']
      unfold attrM
      rw [List.foldl_append]; rfl)
    rw [e1, e2]
    refine ⟨_, rfl, ?_⟩
    rw [show (l[i].Attrs.length : Int).toNat = l[i].Attrs.length by omega, List.take_length, List.take_succ_eq_append_getElem hi', List.foldl_append, ← hI]; rfl)
  rw [e1, e2, show (l.length : Int).toNat = l.length by omega, List.take_length]; rfl
theorem MapOf_eq {l : List Thing} (h : RightT l) : ref_MapOf l = some (mapT l) := by
  have hl := h.len
  unfold ref_MapOf
  rw [bnd_eq]
  obtain ⟨m, e1, e2⟩ := rfor_inv (n := (l.length : Int)) (step := ref_MapOf_L1 l) (s0 := (GMap.nil : GMap Str (GMap Str Str))) (fun t s => s = (l.take t).foldl (fun m t => m.set t.Id (attrM t.Attrs)) GMap.nil) (by omega) rfl (fun i s hi hI => by
    have hi' : i < l.length := by omega
    have ha := (h.some _ (List.getElem_mem hi')).2
    unfold ref_MapOf_L1
    rw [need_of ⟨by omega, by omega⟩, bnd_eq, bnd_eq, gx_nat hi']
    obtain ⟨m, e1, e2⟩ := rfor_inv (n := (l[i].Attrs.length : Int)) (step := ref_MapOf_L2 l[i]) (s0 := s.set l[i].Id (GMap.nil : GMap Str Str)) (fun t s' => s' = s.set l[i].Id (attrM (l[i].Attrs.take t))) (by omega) rfl (fun j s' hj hJ => by
      have hj' : j < l[i].Attrs.length := by omega
      subst hJ
      unfold ref_MapOf_L2
      rw [need_of ⟨by omega, by omega⟩, bnd_eq, need_of set_has, set_getD, set_set, gx_nat hj']
      refine ⟨_, rfl, ?_⟩
      rw [List.take_succ_eq_append_getElem hj']
      unfold attrM
      rw [List.foldl_append]; rfl)
    rw [e1, e2]
    refine ⟨_, rfl, ?_⟩
    rw [show (l[i].Attrs.length : Int).toNat = l[i].Attrs.length by omega, List.take_length, List.take_succ_eq_append_getElem hi', List.foldl_append, ← hI]; rfl)
  rw [e1, e2, show (l.length : Int).toNat = l.length by omega, List.take_length]; rfl
end Go.DB
