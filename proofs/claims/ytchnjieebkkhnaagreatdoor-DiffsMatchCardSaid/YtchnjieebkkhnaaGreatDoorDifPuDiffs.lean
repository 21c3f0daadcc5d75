/-
  DiffsMatch: things, what differs, and what makes the one of the other: the law.
-/
import Derived.Test.YtchnjieebkkhnaaGreatDoorDifPuApply
import Derived.Test.YtchnjieebkkhnaaGreatDoorDifPuEdits
set_option linter.unusedSimpArgs false
set_option linter.unusedVariables false
namespace Go.DB
open Go Go.RowKit

/-- Operations are done one after the other. -/
def Runs (l : List DOp) (s s' : TM) : Prop := ∀ q, lgoE applyF (fun s => (Res.nx s : ApR)) (l ++ q) s = lgoE applyF (fun s => (Res.nx s : ApR)) q s'
theorem Runs.nil (s : TM) : Runs [] s s := fun q => rfl
theorem Runs.one {x : DOp} {s : TM} (h : applyE s x = 0) : Runs [x] s (doM s x) := fun q => by
  show lgoE applyF _ (x :: q) s = _
  rw [lgoE]
  unfold applyF
  rw [if_pos h]
theorem Runs.app {l m : List DOp} {s t u : TM} (h1 : Runs l s t) (h2 : Runs m t u) : Runs (l ++ m) s u := fun q => by
  rw [List.append_assoc, h1, h2]
theorem has_iff {K V : Type} {m : GMap K V} {k : K} : m.has k = true ↔ ∃ v, m.f k = some v := by
  unfold GMap.has
  cases m.f k with
  | none => simp
  | some v => simp
theorem set_ne {K V : Type} [DecidableEq K] {m : GMap K V} {k j : K} {v : V} (h : j ≠ k) : (m.set k v).f j = m.f j := if_neg h
theorem set_at {K V : Type} [DecidableEq K] {m : GMap K V} {k : K} {v : V} : (m.set k v).f k = some v := if_pos rfl
/-- The fields of a thing are set. -/
theorem sets_run {id : Str} (hid : nameB id = true) {e : GMap Str Str} : ∀ (l : List Attr) (s : TM), (∀ a ∈ l, nameB a.Field = true ∧ textErr a.Value = 0) → l.Pairwise (fun a b => cmpB a.Field.b b.Field.b < 0) →
    (∀ a ∈ l, (s.getD id GMap.nil).f a.Field = e.f a.Field) →
    ∃ s', Runs (setsL e id l) s s' ∧ (∀ k, k ≠ id → s'.f k = s.f k) ∧ (∀ a ∈ l, (s'.getD id GMap.nil).f a.Field = some a.Value) ∧ (∀ f, (∀ a ∈ l, a.Field ≠ f) → (s'.getD id GMap.nil).f f = (s.getD id GMap.nil).f f) ∧
      (s'.has id = true ↔ s.has id = true ∨ ∃ a ∈ l, otherB e a = true)
  | [], s, _, _, _ => ⟨s, Runs.nil s, fun _ _ => rfl, (fun a h => by cases h), fun _ _ => rfl, by simp⟩
  | a :: l, s, hok, hp, he => by
    obtain ⟨hp1, hp2⟩ := List.pairwise_cons.1 hp
    have hne : ∀ b ∈ l, b.Field ≠ a.Field := fun b hb c => by
      have := hp1 b hb
      rw [c, cmpB_self] at this; omega
    have hsplit : setsL e id (a :: l) = (if otherB e a = true then [setOp id a.Field a.Value] else []) ++ setsL e id l := by
      unfold setsL; rw [List.flatMap_cons]
    rw [hsplit]
    by_cases c : otherB e a = true
    · rw [if_pos c]
      have hdo : doM s (setOp id a.Field a.Value) = s.set id ((s.getD id GMap.nil).set a.Field a.Value) := by
        unfold doM; rw [if_neg (by show ¬ (1 : Int) = 2; decide)]; rfl
      have hap : applyE s (setOp id a.Field a.Value) = 0 := by
        obtain ⟨h1, h2⟩ := hok a (by simp)
        unfold applyE setOp
        simp only [hid, h1]
        simp [h2]
      have hg : (s.set id ((s.getD id GMap.nil).set a.Field a.Value)).getD id GMap.nil = (s.getD id GMap.nil).set a.Field a.Value := set_getD
      obtain ⟨s', h1, h2, h3, h4, h5⟩ := sets_run hid (e := e) l (s.set id ((s.getD id GMap.nil).set a.Field a.Value)) (fun b hb => hok b (by simp [hb])) hp2 (fun b hb => by
        rw [hg, set_ne (hne b hb)]
        exact he b (by simp [hb]))
      refine ⟨s', (by rw [← hdo] at h1; exact (Runs.one hap).app h1), fun k hk => (h2 k hk).trans (set_ne hk), fun b hb => ?_, fun f hf => ?_, ?_⟩
      · rcases List.mem_cons.1 hb with rfl | hb
        · rw [h4 _ (fun x hx => hne x hx), hg, set_at]
        · exact h3 b hb
      · rw [h4 f (fun x hx => hf x (by simp [hx])), hg, set_ne (fun q => hf a (by simp) q.symm)]
      · rw [h5]
        exact ⟨fun _ => .inr ⟨a, by simp, c⟩, fun _ => .inl set_has⟩
    · rw [if_neg c, List.nil_append]
      obtain ⟨s', h1, h2, h3, h4, h5⟩ := sets_run hid (e := e) l s (fun b hb => hok b (by simp [hb])) hp2 (fun b hb => he b (by simp [hb]))
      refine ⟨s', h1, h2, fun b hb => ?_, fun f hf => h4 f (fun x hx => hf x (by simp [hx])), ?_⟩
      · rcases List.mem_cons.1 hb with rfl | hb
        · rw [h4 _ (fun x hx => hne x hx), he b (by simp)]
          unfold otherB at c
          simp only [Bool.or_eq_true, Bool.not_eq_true', decide_eq_false_iff_not, not_or] at c
          obtain ⟨c1, c2⟩ := c
          have c1 : e.has b.Field = true := by simpa using c1
          have c2 : e.getD b.Field Str.nil = b.Value := Decidable.byContradiction fun q => c2 q
          obtain ⟨v, hv⟩ := has_iff.1 c1
          rw [hv, ← c2, getD_of hv]
        · exact h3 b hb
      · rw [h5]
        constructor
        · rintro (h | ⟨b, hb, h⟩)
          · exact .inl h
          · exact .inr ⟨b, by simp [hb], h⟩
        · rintro (h | ⟨b, hb, h⟩)
          · exact .inl h
          · rcases List.mem_cons.1 hb with rfl | hb
            · exact absurd h c
            · exact .inr ⟨b, hb, h⟩
variable {a b : List Thing}
theorem map_ext {K V : Type} {m n : GMap K V} (h : ∀ k, m.f k = n.f k) : m = n := by
  cases m; cases n
  congr 1
  funext k; exact h k
theorem get_right (h : RightT b) (id : Str) : (attrsL ((mapT b).getD id GMap.nil)).Pairwise (fun a b => cmpB a.Field.b b.Field.b < 0) ∧ ∀ a ∈ attrsL ((mapT b).getD id GMap.nil), nameB a.Field = true ∧ textErr a.Value = 0 := by
  cases c : (mapT b).has id with
  | true =>
    obtain ⟨t, ht, rfl⟩ := (mapT_has h id).1 c
    rw [get_attrs h ht]
    exact ⟨h.fields t ht, h.field t ht⟩
  | false =>
    rw [getD_no c, attrsL_nil]
    exact ⟨List.Pairwise.nil, fun a h => by cases h⟩
open Classical in
/-- A thing is made of another one. -/
theorem seg_run (ha : RightT a) (hb : RightT b) {r : List Str} (hr : Ids (mapT a) (mapT b) r) {id : Str} (hid : id ∈ r) {s : TM} (hs : s.f id = (mapT a).f id) :
    ∃ s', Runs (segL (mapT a) (mapT b) id) s s' ∧ (∀ k, k ≠ id → s'.f k = s.f k) ∧ s'.f id = (mapT b).f id := by
  have hname : nameB id = true := by
    rcases (hr.mem id).1 hid with h | h
    · obtain ⟨t, ht, rfl⟩ := (mapT_has ha id).1 h
      exact ha.id t ht
    · obtain ⟨t, ht, rfl⟩ := (mapT_has hb id).1 h
      exact hb.id t ht
  obtain ⟨hp, hok⟩ := get_right hb id
  have hsx : s.has id = (mapT a).has id := by unfold GMap.has; rw [hs]
  have hsg : s.getD id GMap.nil = (mapT a).getD id GMap.nil := by unfold GMap.getD; rw [hs]
  -- the end: what the thing is
  have fin : ∀ s' : TM, (∀ x ∈ attrsL ((mapT b).getD id GMap.nil), (s'.getD id GMap.nil).f x.Field = some x.Value) → (∀ f, (∀ x ∈ attrsL ((mapT b).getD id GMap.nil), x.Field ≠ f) → (s'.getD id GMap.nil).f f = none) → (s'.has id = (mapT b).has id) → s'.f id = (mapT b).f id := fun s' h1 h2 h3 => by
    cases c : (mapT b).has id with
    | false =>
      rw [c] at h3
      unfold GMap.has at c h3
      rw [Option.isSome_eq_false_iff, Option.isNone_iff_eq_none] at c h3
      rw [c, h3]
    | true =>
      rw [c] at h3
      obtain ⟨t, ht, rfl⟩ := (mapT_has hb id).1 c
      obtain ⟨v, hv⟩ := has_iff.1 h3
      rw [mapT_at hb ht, hv]
      congr 1
      rw [get_attrs hb ht, getD_of hv] at h1 h2
      refine map_ext fun f => ?_
      by_cases q : ∃ x ∈ t.Attrs, x.Field = f
      · obtain ⟨x, hx, rfl⟩ := q
        rw [h1 x hx, attrM_at (hb.fields t ht) hx]
      · rw [h2 f (fun x hx e => q ⟨x, hx, e⟩)]
        cases w : (attrM t.Attrs).f f with
        | none => rfl
        | some u => exact absurd ((attrM_has (hb.fields t ht) f).1 (has_iff.2 ⟨u, w⟩)) q
  have hother : ∀ (e : GMap Str Str), (∃ x ∈ attrsL ((mapT b).getD id GMap.nil), otherB e x = true) → (mapT b).has id = true := fun e ⟨x, hx, _⟩ => by
    cases c : (mapT b).has id with
    | true => rfl
    | false => rw [getD_no c, attrsL_nil] at hx; cases hx
  have hall : (mapT b).has id = true → ∃ x, x ∈ attrsL ((mapT b).getD id GMap.nil) := fun c => by
    obtain ⟨t, ht, rfl⟩ := (mapT_has hb id).1 c
    rw [get_attrs hb ht]
    exact ⟨_, List.getElem_mem (hb.some t ht).1⟩
  unfold segL
  by_cases c : lostB (mapT a) (mapT b) id = true
  · have ho : oldE (mapT a) (mapT b) id = GMap.nil := by unfold oldE; rw [if_pos c]
    have hx : (mapT a).has id = true := by
      unfold lostB at c
      rw [Bool.or_eq_true, Bool.not_eq_true', decide_eq_true_eq] at c
      rcases c with c | ⟨f, h1, _⟩
      · rcases (hr.mem id).1 hid with h | h
        · exact h
        · rw [c] at h; cases h
      · cases q : (mapT a).has id with
        | true => rfl
        | false => rw [getD_no q] at h1; cases h1
    rw [if_pos c, ho]
    have hap : applyE s (dropOp id) = 0 := by
      unfold applyE dropOp
      simp only [hname, hsx, hx]
      simp
    have hdo : doM s (dropOp id) = s.del id := by unfold doM; rw [if_pos (show (dropOp id).Kind = 2 from rfl)]; rfl
    have hdn : (s.del id).f id = none := if_pos rfl
    have hdg : (s.del id).getD id GMap.nil = GMap.nil := by unfold GMap.getD; rw [hdn]; rfl
    have hdk : ∀ k, k ≠ id → (s.del id).f k = s.f k := fun k hk => if_neg hk
    obtain ⟨s', h1, h2, h3, h4, h5⟩ := sets_run hname (e := GMap.nil) _ (s.del id) hok hp (fun x _ => by rw [hdg])
    refine ⟨s', (by rw [← hdo] at h1; exact (Runs.one hap).app h1), fun k hk => (h2 k hk).trans (hdk k hk), fin s' h3 (fun f hf => by rw [h4 f hf, hdg]; rfl) ?_⟩
    rw [Bool.eq_iff_iff, h5]
    constructor
    · rintro (h | h)
      · unfold GMap.has at h; rw [hdn] at h; cases h
      · exact hother _ h
    · intro h
      obtain ⟨x, hx⟩ := hall h
      exact .inr ⟨x, hx, rfl⟩
  · have ho : oldE (mapT a) (mapT b) id = (mapT a).getD id GMap.nil := by unfold oldE; rw [if_neg c]
    rw [if_neg c, List.nil_append, ho]
    have cf : lostB (mapT a) (mapT b) id = false := by simpa using c
    unfold lostB at cf
    rw [Bool.or_eq_false_iff, Bool.not_eq_false', decide_eq_false_iff_not] at cf
    obtain ⟨c1, c2⟩ := cf
    obtain ⟨s', h1, h2, h3, h4, h5⟩ := sets_run hname (e := (mapT a).getD id GMap.nil) _ s hok hp (fun x _ => by rw [hsg])
    refine ⟨s', h1, h2, fin s' h3 (fun f hf => ?_) ?_⟩
    · rw [h4 f hf, hsg]
      cases w : ((mapT a).getD id GMap.nil).f f with
      | none => rfl
      | some u =>
        exfalso
        have hy : ((mapT b).getD id GMap.nil).has f = true := by
          cases q : ((mapT b).getD id GMap.nil).has f with
          | true => rfl
          | false => exact absurd ⟨f, has_iff.2 ⟨u, w⟩, q⟩ c2
        obtain ⟨t, ht, he⟩ := (mapT_has hb id).1 c1
        subst he
        rw [get_attrs hb ht] at hf
        rw [getD_of (mapT_at hb ht)] at hy
        obtain ⟨x, hx, e⟩ := (attrM_has (hb.fields t ht) f).1 hy
        exact hf x hx e
    · rw [Bool.eq_iff_iff, h5]
      refine ⟨fun _ => c1, fun _ => ?_⟩
      obtain ⟨x, hx⟩ := hall c1
      cases q : s.has id with
      | true => exact .inl rfl
      | false =>
        refine .inr ⟨x, hx, ?_⟩
        rw [hsx] at q
        rw [getD_no q]; rfl
theorem segs_run (ha : RightT a) (hb : RightT b) {r : List Str} (hr : Ids (mapT a) (mapT b) r) : ∀ (p : List Str) (s : TM), p.Nodup → (∀ k ∈ p, k ∈ r) → (∀ k ∈ p, s.f k = (mapT a).f k) →
    ∃ s', Runs (p.flatMap (segL (mapT a) (mapT b))) s s' ∧ (∀ k ∈ p, s'.f k = (mapT b).f k) ∧ ∀ k, k ∉ p → s'.f k = s.f k
  | [], s, _, _, _ => ⟨s, Runs.nil s, (fun k h => by cases h), fun _ _ => rfl⟩
  | id :: p, s, hn, hm, hs => by
    obtain ⟨hn1, hn2⟩ := List.nodup_cons.1 hn
    obtain ⟨t, t1, t2, t3⟩ := seg_run ha hb hr (hm id (by simp)) (hs id (by simp))
    obtain ⟨u, u1, u2, u3⟩ := segs_run ha hb hr p t hn2 (fun k hk => hm k (by simp [hk])) (fun k hk => by rw [t2 k (fun e => hn1 (e ▸ hk))]; exact hs k (by simp [hk]))
    refine ⟨u, by rw [List.flatMap_cons]; exact t1.app u1, fun k hk => ?_, fun k hk => ?_⟩
    · rcases List.mem_cons.1 hk with rfl | hk
      · rw [u3 k hn1, t3]
      · exact u2 k hk
    · rw [List.mem_cons, not_or] at hk
      rw [u3 k hk.2, t2 k hk.1]
theorem diff_run (ha : RightT a) (hb : RightT b) {r : List Str} (hr : Ids (mapT a) (mapT b) r) : Runs (r.flatMap (segL (mapT a) (mapT b))) (mapT a) (mapT b) := by
  have hn : r.Nodup := by
    rw [List.nodup_iff_pairwise_ne]
    exact hr.srt.imp fun {x y} hlt e => by rw [e, cmpB_self] at hlt; omega
  obtain ⟨s, h1, h2, h3⟩ := segs_run ha hb hr r (mapT a) hn (fun k h => h) (fun k _ => rfl)
  have : s = mapT b := map_ext fun k => by
    by_cases c : k ∈ r
    · exact h2 k c
    · rw [h3 k c]
      have h := fun q => c ((hr.mem k).2 q)
      have e1 : (mapT a).f k = none := by
        cases w : (mapT a).f k with
        | none => rfl
        | some v => exact absurd (.inl (has_iff.2 ⟨v, w⟩)) h
      have e2 : (mapT b).f k = none := by
        cases w : (mapT b).f k with
        | none => rfl
        | some v => exact absurd (.inr (has_iff.2 ⟨v, w⟩)) h
      rw [e1, e2]
  rw [this] at h1; exact h1
theorem Apply_diff (ha0 : thErr a = 0) (hb0 : thErr b = 0) {r : List Str} (hr : Ids (mapT a) (mapT b) r) : edit_Apply a (r.flatMap (segL (mapT a) (mapT b))) = some (b, 0) := by
  have ha := thErr_right ha0
  have hb := thErr_right hb0
  have hl := segs_len hb (mapT a) r
  have hrl := hr.len ha hb
  unfold edit_Apply
  rw [CheckThings_eq, ha0, Option.bind_some, decide_eq_true (rfl : (0 : Int) = 0), Bool.not_true, cond_false, thingsOf_eq ha, Option.bind_some, rforE_list applyF (by omega) (fun i s hi => Apply_step _ i s hi)]
  have := diff_run ha hb hr []
  rw [List.append_nil] at this
  have hs : Small (mapT b) 2199023255551 := by
    obtain ⟨⟨q, x, y⟩, z⟩ := mapT_small hb
    exact ⟨⟨q, x, by omega⟩, fun k e hk => by obtain ⟨q, x, y⟩ := z k e hk; exact ⟨q, x, by omega⟩⟩
  rw [this]
  show bindR (σ := TM) (ρ := List Thing × Int) (some (Res.nx (mapT b))) _ = _
  rw [bindR_nx, listed_eq hs, Option.bind_some, thingsL_M hb, CheckThings_eq, hb0]; rfl
theorem lists_Op_badD {got : List DOp} {e want : Int} {r : Option (List DOp)} (hw : want ≠ 0) (he : e = want) (hg : got = []) : law_lists_Op got e want r = some true := by
  unfold law_lists_Op
  rw [decide_eq_false hw, Bool.not_false, cond_true, he, hg]; simp
theorem DiffsMatch_true (a b : List Thing) (ops : List DOp) (fa : fits a) (fb : fits b) (fo : fits ops) (lo : fewL ops) : law_DiffsMatch a b ops = some true := by
  unfold law_DiffsMatch
  rw [ThingsError_eq fa.2, ThingsError_eq fb.2]
  simp only [Option.bind_some]
  rw [First_eq (by simp), Option.bind_some]
  have hsame : ∀ l : List Thing, thErr l = 0 → ref_SameThings l l = some true := fun l h => by
    have hr := thErr_right h
    have := hr.len
    exact SameThings_self (by omega) (fun x hx => by have := (hr.some x hx).2; omega)
  -- what differs
  have hD : ∃ d : List DOp × Int, edit_Diff a b = some d ∧ law_lists_Op d.1 d.2 (firstErr [thErr a, thErr b]) (law_DiffsMatch_1 a b) = some true ∧ (firstErr [thErr a, thErr b] = 0 → edit_Apply a d.1 = some (b, 0) ∧ thErr b = 0) := by
    by_cases z : firstErr [thErr a, thErr b] = 0
    · have za := firstErr_zero.1 z (thErr a) (by simp)
      have zb := firstErr_zero.1 z (thErr b) (by simp)
      obtain ⟨r, hr, he⟩ := Diff_eq za zb
      have ha := thErr_right za
      have hb := thErr_right zb
      have hl := segs_len hb (mapT a) r
      have hrl := hr.len ha hb
      refine ⟨_, he, ?_, fun _ => ⟨Apply_diff za zb hr, zb⟩⟩
      rw [z]
      unfold law_lists_Op law_DiffsMatch_1
      rw [DiffOf_eq ha hb hr]
      simp only [decide_true, Bool.not_true, cond_false, gd_true, Option.bind_some]
      rw [Equal_Op_self _ (by omega)]; rfl
    · exact ⟨_, Diff_bad z, lists_Op_badD z rfl rfl, fun h => absurd h z⟩
  obtain ⟨d, d1, d2, d3⟩ := hD
  rw [d1, Option.bind_some, edits_eq, Option.bind_some, CheckThings_eq]
  simp only [Bool.not_true, Bool.not_false, gd_true, Option.bind_some, decide_true, Bool.or_self]
  rw [d2]
  simp only [Option.bind_some, Bool.not_true, Bool.or_self, cond_false]
  have h1 : (bif decide (firstErr [thErr a, thErr b] = 0) then (
    Option.bind (edit_Apply a d.1) fun r7 =>
    Option.bind (gd (!(!decide (r7.2 = 0))) (ref_SameThings r7.1 b)) fun r8 =>
    bif (!decide (r7.2 = 0)) || (!r8) then (
     some (Res.ab false))
    else (
     some (Res.nx ())))
   else (
    some (Res.nx ()))) = (some (Res.nx ()) : Option (Res Unit Bool)) := by
    by_cases z : firstErr [thErr a, thErr b] = 0
    · obtain ⟨e1, e2⟩ := d3 z
      rw [decide_eq_true z, cond_true, e1, Option.bind_some]
      simp only [decide_true, Bool.not_true, Bool.not_false, gd_true]
      rw [hsame b e2]; rfl
    · rw [decide_eq_false z]; rfl
  rw [h1, bindR_nx]
  by_cases z : thErr a = 0
  · obtain ⟨r, r1, r2, r3, r4⟩ := Apply_both z fa.2 fo.2 lo
    rw [r1, Option.bind_some, decide_eq_true z, cond_true, r2]
    simp only [Option.bind_some]
    unfold law_things law_DiffsMatch_2
    by_cases w : r.2 = 0
    · rw [w]
      simp only [decide_true, Bool.not_true, cond_false, gd_true, Option.bind_some]
      rw [hsame r.1 (r4 w)]; rfl
    · rw [decide_eq_false w, r3 w]; simp
  · have hA : edit_Apply a ops = some ([], thErr a) := by
      unfold edit_Apply
      rw [CheckThings_eq, Option.bind_some, decide_eq_false z]; rfl
    rw [hA, Option.bind_some, decide_eq_false z, cond_false]
    simp only [Option.bind_some, things_bad z]
end Go.DB
