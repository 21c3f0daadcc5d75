/-
  What differs between things: both ways of telling it.
-/
import Derived.Test.YtchnjieebkkhnaaGreatDoorDifPuThings2
import Derived.Test.YtchnjieebkkhnaaGreatDoorDifPuMap
import Derived.Test.YtchnjieebkkhnaaGreatDoorDifPuList
set_option linter.unusedSimpArgs false
set_option linter.unusedVariables false
namespace Go.DB
open Go Go.RowKit

def dropOp (id : Str) : DOp := ⟨⟨0, Str.nil, 0⟩, 2, id, Str.nil, Str.nil, 0⟩
def setOp (id f v : Str) : DOp := ⟨⟨0, Str.nil, 0⟩, 1, id, f, v, 0⟩
section
open Classical
/-- Has a thing lost a field? -/
noncomputable def lostB (x y : GMap Str (GMap Str Str)) (id : Str) : Bool := !(y.has id) || decide (∃ f, (x.getD id GMap.nil).has f = true ∧ (y.getD id GMap.nil).has f = false)
end
noncomputable def oldE (x y : GMap Str (GMap Str Str)) (id : Str) : GMap Str Str := if lostB x y id = true then GMap.nil else x.getD id GMap.nil
def otherB (e : GMap Str Str) (a : Attr) : Bool := !(e.has a.Field) || !decide (e.getD a.Field Str.nil = a.Value)
noncomputable def setsL (e : GMap Str Str) (id : Str) (l : List Attr) : List DOp := l.flatMap fun a => if otherB e a = true then [setOp id a.Field a.Value] else []
/-- What is to be done with a thing. -/
noncomputable def segL (x y : GMap Str (GMap Str Str)) (id : Str) : List DOp := (if lostB x y id = true then [dropOp id] else []) ++ setsL (oldE x y id) id (attrsL (y.getD id GMap.nil))
/-- The names of all things. -/
structure Ids (x y : GMap Str (GMap Str Str)) (r : List Str) : Prop where
  srt : r.Pairwise (fun a b => cmpB a.b b.b < 0)
  mem : ∀ k, k ∈ r ↔ x.has k = true ∨ y.has k = true
theorem Ids.one {x y : GMap Str (GMap Str Str)} {r s : List Str} (h : Ids x y r) (h' : Ids x y s) : r = s :=
  sorted_uniq (R := fun a b : Str => cmpB a.b b.b < 0) str_irr str_asym h.srt h'.srt (fun k => (h.mem k).trans (h'.mem k).symm)
theorem mfold_any {K V : Type} (p : K → Bool) {step : K → V → Bool → Option Bool} (h : ∀ k v s, step k v s = some (s || p k)) : ∀ (l : List (K × V)) (s : Bool), mfold step l s = some (s || l.any fun x => p x.1)
  | [], s => by simp [mfold]
  | x :: l, s => by
    rw [mfold, h, Option.bind_some, mfold_any p h l, List.any_cons, Bool.or_assoc]
theorem mrange_any {K V : Type} [DecidableEq K] {m : GMap K V} {l0 : List (K × V)} (h0 : Lists m l0) (p : K → Bool) {step : K → V → Bool → Option Bool} (h : ∀ k v s, step k v s = some (s || p k)) : ∃ b, mrange m step false = some b ∧ (b = true ↔ ∃ k, m.has k = true ∧ p k = true) := by
  refine ⟨l0.any fun x => p x.1, mrange_of h0 fun l hl => ?_, ?_⟩
  · rw [mfold_any p h l, Bool.false_or]
    congr 1
    rw [Bool.eq_iff_iff, List.any_eq_true, List.any_eq_true]
    exact ⟨fun ⟨y, a, b⟩ => ⟨y, (hl.perm h0).mem_iff.1 a, b⟩, fun ⟨y, a, b⟩ => ⟨y, (hl.perm h0).mem_iff.2 a, b⟩⟩
  · rw [List.any_eq_true]
    constructor
    · rintro ⟨y, a, b⟩
      refine ⟨y.1, ?_, b⟩
      unfold GMap.has
      rw [(h0.mem y.1 y.2).1 a]; rfl
    · rintro ⟨k, a, b⟩
      unfold GMap.has at a
      cases c : m.f k with
      | none => rw [c] at a; cases a
      | some v => exact ⟨(k, v), (h0.mem k v).2 c, b⟩
open Classical in
theorem lost_of {x y : GMap Str (GMap Str Str)} {id : Str} {b : Bool} (h : b = true ↔ ∃ k, (x.getD id GMap.nil).has k = true ∧ (!(y.getD id GMap.nil).has k) = true) (hy : y.has id = true) : lostB x y id = b := by
  unfold lostB
  rw [hy, Bool.not_true, Bool.false_or, Bool.eq_iff_iff, decide_eq_true_eq, h]
  simp only [Bool.not_eq_true']
theorem setsL_len {e : GMap Str Str} {id : Str} : ∀ l : List Attr, (setsL e id l).length ≤ l.length
  | [] => by simp [setsL]
  | a :: l => by
    have := setsL_len (e := e) (id := id) l
    unfold setsL at *
    rw [List.flatMap_cons, List.length_append, List.length_cons]
    split <;> simp only [List.length_singleton, List.length_nil] <;> omega
section
variable {a b : List Thing}
theorem get_lists {l : List Thing} (h : RightT l) (id : Str) : ∃ q, Lists ((mapT l).getD id GMap.nil) q ∧ q.length ≤ 20 := by
  cases c : (mapT l).has id with
  | true =>
    obtain ⟨t, ht, rfl⟩ := (mapT_has h id).1 c
    have := mapT_at h ht
    refine ⟨t.Attrs.map fun a => (a.Field, a.Value), ?_, by rw [List.length_map]; exact (h.some t ht).2⟩
    unfold GMap.getD
    rw [this]; exact attrM_lists (h.fields t ht)
  | false => rw [getD_no c]; exact ⟨[], Lists.nil, by simp⟩
theorem get_attrs {l : List Thing} (h : RightT l) {t : Thing} (ht : t ∈ l) : attrsL ((mapT l).getD t.Id GMap.nil) = t.Attrs := by
  have := mapT_at h ht
  unfold GMap.getD
  rw [this]
  exact attrsL_M (h.fields t ht)
theorem attrsL_nil : attrsL (GMap.nil : GMap Str Str) = [] := by unfold attrsL; rw [keysS_nil]; rfl
theorem get_len {l : List Thing} (h : RightT l) (id : Str) : (attrsL ((mapT l).getD id GMap.nil)).length ≤ 20 := by
  obtain ⟨q, hq, hl⟩ := get_lists h id
  unfold attrsL
  rw [List.length_map, keys_len hq]; exact hl
theorem segL_len (hb : RightT b) (x : GMap Str (GMap Str Str)) (id : Str) : (segL x (mapT b) id).length ≤ 21 := by
  unfold segL
  rw [List.length_append]
  have h1 := setsL_len (e := oldE x (mapT b) id) (id := id) (attrsL ((mapT b).getD id GMap.nil))
  have h2 := get_len hb id
  split <;> simp <;> omega
theorem segs_len (hb : RightT b) (x : GMap Str (GMap Str Str)) : ∀ r : List Str, (r.flatMap (segL x (mapT b))).length ≤ 21 * r.length
  | [] => by simp
  | k :: r => by
    have := segL_len hb x k
    have := segs_len hb x r
    rw [List.flatMap_cons, List.length_append, List.length_cons]; omega
theorem nodup_sub {α : Type} [BEq α] [LawfulBEq α] : ∀ {r s : List α}, r.Nodup → (∀ x ∈ r, x ∈ s) → r.length ≤ s.length
  | [], _, _, _ => by simp
  | x :: r, s, hn, hs => by
    have hx := hs x (by simp)
    obtain ⟨h1, h2⟩ := List.nodup_cons.1 hn
    have := nodup_sub (r := r) (s := s.erase x) h2 (fun y hy => by
      have hne : y ≠ x := fun e => h1 (e ▸ hy)
      exact (List.mem_erase_of_ne hne).2 (hs y (by simp [hy])))
    rw [List.length_erase_of_mem hx] at this
    have := List.length_pos_of_mem hx
    simp only [List.length_cons]; omega
theorem Ids.len {r : List Str} (ha : RightT a) (hb : RightT b) (h : Ids (mapT a) (mapT b) r) : r.length ≤ 4000 := by
  have hn : r.Nodup := by
    rw [List.nodup_iff_pairwise_ne]
    exact h.srt.imp fun {x y} hlt e => by rw [e, cmpB_self] at hlt; omega
  have hs : ∀ k ∈ r, k ∈ a.map (·.Id) ++ b.map (·.Id) := fun k hk => by
    rw [List.mem_append, List.mem_map, List.mem_map]
    rcases (h.mem k).1 hk with h | h
    · exact .inl ((mapT_has ha k).1 h)
    · exact .inr ((mapT_has hb k).1 h)
  have h1 := ha.len
  have h2 := hb.len
  have := nodup_sub hn hs
  simp only [List.length_append, List.length_map] at this
  omega
theorem seg_ref (hb : RightT b) {s : List DOp} {id : Str} {e : GMap Str Str} (hs : s.length ≤ 100000) {v2 : List Str} (hv : v2 = keysS ((mapT b).getD id GMap.nil)) :
    rfor (v2.length : Int) (ref_DiffOf_L5 v2 (mapT b) id (s, e)) s = some (s ++ setsL e id (attrsL ((mapT b).getD id GMap.nil))) := by
  subst hv
  obtain ⟨q, hq, hl⟩ := get_lists hb id
  have hkl := keys_len hq
  rw [rfor_gather (l := keysS ((mapT b).getD id GMap.nil)) (step := ref_DiffOf_L5 (keysS ((mapT b).getD id GMap.nil)) (mapT b) id (s, e)) (fun f => if otherB e ⟨f, ((mapT b).getD id GMap.nil).getD f Str.nil⟩ = true then [setOp id f (((mapT b).getD id GMap.nil).getD f Str.nil)] else []) s (fun f _ => by split <;> simp) (by omega) (fun i s' hi hs' => by
    unfold ref_DiffOf_L5
    rw [need_of hi, bnd_eq]
    show (bif otherB e ⟨gx (keysS ((mapT b).getD id GMap.nil)) i, ((mapT b).getD id GMap.nil).getD (gx (keysS ((mapT b).getD id GMap.nil)) i) Str.nil⟩ then _ else _) = _
    cases otherB e ⟨gx (keysS ((mapT b).getD id GMap.nil)) i, ((mapT b).getD id GMap.nil).getD (gx (keysS ((mapT b).getD id GMap.nil)) i) Str.nil⟩ with
    | true => rw [cond_true, need_of (by rw [room_iff]; simp only [List.length_singleton]; omega)]; rfl
    | false => rw [cond_false]; simp)]
  congr 2
  unfold setsL attrsL
  rw [List.flatMap_map]
theorem DiffOf_eq {r : List Str} (ha : RightT a) (hb : RightT b) (hr : Ids (mapT a) (mapT b) r) : ref_DiffOf a b = some (r.flatMap (segL (mapT a) (mapT b))) := by
  have hrl := hr.len ha hb
  unfold ref_DiffOf
  rw [MapOf_eq ha, Option.bind_some, MapOf_eq hb, Option.bind_some, bnd_eq]
  -- the names
  have fold : ∀ (m : GMap Str (GMap Str Str)) (l0 : List (Str × GMap Str Str)) (h0 : Lists m l0) (step : Str → GMap Str Str → GMap Str Bool → Option (GMap Str Bool)) (hst : ∀ k v s, step k v s = some (s.set k true)) (u : GMap Str Bool),
      mrange m step u = some ⟨fun k => if m.has k = true then some true else u.f k⟩ := fun m l0 h0 step hst u => by
    refine mrange_of h0 fun l hl => ?_
    have key : ∀ (l : List (Str × GMap Str Str)) (u : GMap Str Bool), mfold step l u = some (l.foldl (fun s x => s.set x.1 true) u) := by
      intro l
      induction l with
      | nil => intro u; rfl
      | cons x l ih => intro u; rw [mfold, hst, Option.bind_some, ih]; rfl
    have val : ∀ (l : List (Str × GMap Str Str)) (u : GMap Str Bool) (k : Str), (l.foldl (fun s x => s.set x.1 true) u).f k = if (∃ x ∈ l, x.1 = k) then some true else u.f k := by
      intro l
      induction l with
      | nil => intro u k; simp
      | cons x l ih =>
        intro u k
        rw [List.foldl_cons, ih]
        by_cases c : ∃ x ∈ l, x.1 = k
        · rw [if_pos c, if_pos (by obtain ⟨y, a, b⟩ := c; exact ⟨y, by simp [a], b⟩)]
        · rw [if_neg c]
          show (if k = x.1 then some true else u.f k) = _
          by_cases d : k = x.1
          · rw [if_pos d, if_pos ⟨x, by simp, d.symm⟩]
          · rw [if_neg d, if_neg (fun ⟨y, a, b⟩ => by
              rcases List.mem_cons.1 a with e | e
              · exact d (by rw [← b, e])
              · exact c ⟨y, e, b⟩)]
    rw [key]
    congr 1
    have : ∀ g : GMap Str Bool, g = ⟨g.f⟩ := fun g => rfl
    rw [this (List.foldl _ _ _)]
    congr 1
    funext k
    rw [val]
    have hm : (∃ x ∈ l, x.1 = k) ↔ m.has k = true := by
      unfold GMap.has
      constructor
      · rintro ⟨x, a, rfl⟩
        rw [(hl.mem x.1 x.2).1 a]; rfl
      · intro h
        cases c : m.f k with
        | none => rw [c] at h; cases h
        | some v => exact ⟨(k, v), (hl.mem k v).2 c, rfl⟩
    by_cases c : m.has k = true
    · rw [if_pos (hm.2 c), if_pos c]
    · rw [if_neg (fun h => c (hm.1 h)), if_neg c]
  rw [fold (mapT a) _ (mapT_lists ha.ids) ref_DiffOf_L1 (fun k v s => rfl), Option.bind_some, fold (mapT b) _ (mapT_lists hb.ids) ref_DiffOf_L2 (fun k v s => rfl), Option.bind_some]
  have hU : Lists (⟨fun k => if (mapT b).has k = true then some true else if (mapT a).has k = true then some true else (GMap.nil : GMap Str Bool).f k⟩ : GMap Str Bool) (r.map fun k => (k, true)) := by
    refine ⟨?_, fun k v => ?_⟩
    · rw [List.map_map, List.nodup_iff_pairwise_ne, List.pairwise_map]
      exact hr.srt.imp fun {x y} hlt e => by
        have e : x = y := e
        rw [e, cmpB_self] at hlt; omega
    · simp only [List.mem_map, Prod.mk.injEq]
      constructor
      · rintro ⟨y, hy, rfl, rfl⟩
        rcases (hr.mem y).1 hy with c | c
        · by_cases d : (mapT b).has y = true
          · rw [if_pos d]
          · rw [if_neg d, if_pos c]
        · rw [if_pos c]
      · intro h
        by_cases d : (mapT b).has k = true
        · rw [if_pos d] at h
          exact ⟨k, (hr.mem k).2 (.inr d), rfl, Option.some.inj h⟩
        · rw [if_neg d] at h
          by_cases c : (mapT a).has k = true
          · rw [if_pos c] at h
            exact ⟨k, (hr.mem k).2 (.inl c), rfl, Option.some.inj h⟩
          · rw [if_neg c] at h; cases h
  have hk : keysS (⟨fun k => if (mapT b).has k = true then some true else if (mapT a).has k = true then some true else (GMap.nil : GMap Str Bool).f k⟩ : GMap Str Bool) = r := by
    have := keys_list (kf := fun k : Str => k) (vf := fun _ => true) hU hr.srt
    rwa [List.map_id'] at this
  rw [need_of ⟨by rw [hU.size, List.length_map]; omega, _, hU⟩, bnd_eq, hk]
  obtain ⟨o, e1, e2⟩ := rfor_inv (n := (r.length : Int)) (step := ref_DiffOf_L3 r (mapT a) (mapT b)) (s0 := ([] : List DOp)) (fun t s => s = (r.take t).flatMap (segL (mapT a) (mapT b))) (by omega) rfl (fun i s hi hI => by
    have hi' : i < r.length := by omega
    have hsl : s.length ≤ 100000 - 21 := by
      have := segs_len hb (mapT a) (r.take i)
      rw [hI]
      rw [List.length_take] at this; omega
    unfold ref_DiffOf_L3
    rw [need_of ⟨by omega, by omega⟩, bnd_eq, bnd_eq, gx_nat hi']
    obtain ⟨q, hq, _⟩ := get_lists ha r[i]
    obtain ⟨qb, hqb, hqbl⟩ := get_lists hb r[i]
    obtain ⟨bl, g1, g2⟩ := mrange_any hq (fun k => !((mapT b).getD r[i] GMap.nil).has k) (step := ref_DiffOf_L4 (mapT b) r[i]) (fun k v s => rfl)
    rw [g1, Option.bind_some]
    have hlost : (!((mapT b).has r[i]) || bl) = lostB (mapT a) (mapT b) r[i] := by
      cases c : (mapT b).has r[i] with
      | true => rw [Bool.not_true, Bool.false_or]; exact (lost_of g2 c).symm
      | false => unfold lostB; rw [c]; rfl
    rw [hlost]
    have hfin : r.take (i + 1) = r.take i ++ [r[i]] := List.take_succ_eq_append_getElem hi'
    rw [hfin, List.flatMap_append, ← hI]
    simp only [List.flatMap_cons, List.flatMap_nil, List.append_nil]
    cases c : lostB (mapT a) (mapT b) r[i] with
    | true =>
      rw [cond_true, need_of (by rw [room_iff]; simp only [List.length_singleton]; omega), bnd_eq, bnd_eq, Option.bind_some, need_of ⟨by rw [hqb.size]; omega, qb, hqb⟩, bnd_eq]
      refine ⟨_, seg_ref hb (s := s ++ [dropOp r[i]]) (by simp only [List.length_append, List.length_singleton]; omega) rfl, ?_⟩
      unfold segL oldE
      rw [if_pos c, if_pos c, List.append_assoc]
    | false =>
      rw [cond_false, Option.bind_some, need_of ⟨by rw [hqb.size]; omega, qb, hqb⟩, bnd_eq]
      refine ⟨_, seg_ref hb (by omega) rfl, ?_⟩
      unfold segL oldE
      rw [if_neg (by rw [c]; decide), if_neg (by rw [c]; decide), List.nil_append])
  rw [e1, e2, Option.bind_some, show (r.length : Int).toNat = r.length by omega, List.take_length]
theorem seg_edit {s : List DOp} {id : Str} {e : GMap Str Str} {l : List Attr} (hl : l.length ≤ 20) (hs : s.length ≤ 100000) :
    rfor (l.length : Int) (edit_Diff_L5 l id (s, e)) s = some (s ++ setsL e id l) := by
  rw [rfor_gather (l := l) (step := edit_Diff_L5 l id (s, e)) (fun a => if otherB e a = true then [setOp id a.Field a.Value] else []) s (fun f _ => by split <;> simp) (by omega) (fun i s' hi hs' => by
    unfold edit_Diff_L5
    rw [need_of hi, bnd_eq]
    show (bif otherB e (gx l i) then _ else _) = _
    cases otherB e (gx l i) with
    | true => rw [cond_true, need_of (by rw [room_iff]; simp only [List.length_singleton]; omega)]; rfl
    | false => rw [cond_false]; simp)]
  rfl
theorem search_id (h : RightT b) (id : Str) : ∃ (p : Nat) (f : Bool), slices_BinarySearchFunc_string b id edit_Diff_1 = some ((p : Int), f) ∧ ((f = true ∧ ∃ hp : p < b.length, b[p].Id = id) ∨ (f = false ∧ ∀ t ∈ b, t.Id ≠ id)) := by
  have hl := h.len
  have hlt : ∀ i j : Nat, i < j → j < b.length → cmpB (gx b (i : Int)).Id.b (gx b (j : Int)).Id.b < 0 := fun i j hij hj => by
    rw [gx_nat hj, gx_nat (show i < b.length by omega)]
    exact List.pairwise_iff_getElem.1 h.ids i j (by omega) hj hij
  have hcmp : ∀ k : Nat, edit_Diff_1 (gx b (k : Int)) id = some (cmpB (gx b (k : Int)).Id.b id.b) := fun k => by
    unfold edit_Diff_1 strings_Compare
    rfl
  unfold slices_BinarySearchFunc_string
  rw [bnd_eq]
  obtain ⟨s, s1, s2, s3, s4, s5⟩ := bsearch (body := slices_BinarySearchFunc_string_L1 b edit_Diff_1 id) (fun k => decide (cmpB (gx b (k : Int)).Id.b id.b < 0)) (lo := 0) (hi := b.length) (by omega)
    (fun i j _ hij hj => by
      unfold slices_BinarySearchFunc_string_L1
      have hm : (i + j) / 2 < b.length := by omega
      simp only
      rw [decide_eq_true (show (i : Int) < (j : Int) by omega), cond_true, bnd_eq, half_eq (by omega), need_of ⟨by omega, by omega⟩, hcmp, Option.bind_some]
      cases decide (cmpB (gx b (((i + j) / 2 : Nat) : Int)).Id.b id.b < 0) with
      | true =>
        rw [cond_true, if_pos rfl, bnd_eq, Wk (by omega) (by omega)]
        congr 1
      | false => rw [cond_false, if_neg (by simp)])
    (fun i _ hi => by
      unfold slices_BinarySearchFunc_string_L1
      simp only
      rw [decide_eq_false (by omega), cond_false])
    (fun u v _ huv hv hp => by
      have hp := of_decide_eq_true hp
      rcases Nat.lt_or_eq_of_le huv with c | c
      · have := hlt u v c hv
        exact decide_eq_true ((cmpB_trans (by omega) (by omega)).2 (.inl this))
      · subst c; exact decide_eq_true hp)
  have h5 : loop (slices_BinarySearchFunc_string_L1 b edit_Diff_1 id) (0, (b.length : Int)) = some (s : Int) := s5
  rw [h5, Option.bind_some]
  have hlo : ∀ k : Nat, k < s → cmpB (gx b (k : Int)).Id.b id.b < 0 := fun k hk => of_decide_eq_true (s3 k (by omega) hk)
  have hhi : ∀ k : Nat, s ≤ k → k < b.length → ¬ cmpB (gx b (k : Int)).Id.b id.b < 0 := fun k hk hkl => of_decide_eq_false (s4 k hk hkl)
  by_cases c : s < b.length
  · rw [need_of (fun _ => ⟨by omega, by omega⟩), decide_eq_true (show (s : Int) < (b.length : Int) by omega), gd_true, hcmp, Option.bind_some]
    refine ⟨s, _, rfl, ?_⟩
    by_cases e : cmpB (gx b (s : Int)).Id.b id.b = 0
    · refine .inl ⟨by rw [decide_eq_true e]; rfl, c, ?_⟩
      have := cmpB_zero e
      rw [gx_nat c] at this
      exact site_ext this
    · refine .inr ⟨by rw [decide_eq_false e]; rfl, fun t ht he => ?_⟩
      obtain ⟨k, hk, rfl⟩ := List.getElem_of_mem ht
      have hk0 : cmpB (gx b (k : Int)).Id.b id.b = 0 := by rw [gx_nat hk, he, cmpB_self]
      rcases Nat.lt_trichotomy k s with q | q | q
      · have := hlo k q; omega
      · subst q; exact e hk0
      · have h1 := hhi s (Nat.le_refl _) c
        have h2 := hlt s k q hk
        have := (cmpB_trans (a := (gx b (s : Int)).Id.b) (b := (gx b (k : Int)).Id.b) (c := id.b) (by omega) (by omega)).2 (.inl h2)
        omega
  · rw [decide_eq_false (show ¬ (s : Int) < (b.length : Int) by omega), need_of (fun h => by cases h), gd_false, Option.bind_some]
    refine ⟨s, _, rfl, .inr ⟨rfl, fun t ht he => ?_⟩⟩
    obtain ⟨k, hk, rfl⟩ := List.getElem_of_mem ht
    have := hlo k (by omega)
    rw [gx_nat hk, he, cmpB_self] at this
    omega
end
end Go.DB
