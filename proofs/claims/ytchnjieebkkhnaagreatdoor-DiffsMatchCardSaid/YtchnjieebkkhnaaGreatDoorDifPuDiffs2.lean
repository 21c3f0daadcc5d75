/-
  What differs between things, as the program tells it.
-/
import Derived.Test.YtchnjieebkkhnaaGreatDoorDifPuDiffs1
import Derived.Test.YtchnjieebkkhnaaGreatDoorDifPuCompS
set_option linter.unusedSimpArgs false
set_option linter.unusedVariables false
namespace Go.DB
open Go Go.RowKit

theorem sortS_sorted (l : List Str) : (sortS l).Pairwise (fun a b => Go.leB a.b b.b = true) := by
  have tr : ∀ a b c : List UInt8, Go.leB a b = true → Go.leB b c = true → Go.leB a c = true := fun a b c h1 h2 => by simp only [Go.leB, decide_eq_true_eq] at *; exact List.le_trans h1 h2
  have tt : ∀ a b : List UInt8, (Go.leB a b || Go.leB b a) = true := fun a b => by simp only [Go.leB, Bool.or_eq_true, decide_eq_true_eq]; exact List.le_total a b
  have hp := List.pairwise_mergeSort tr tt (l.map fun x => x.b)
  unfold sortS
  rw [List.pairwise_map]
  exact hp
theorem keepS_lt {s : List Str} (h : s.Pairwise (fun a b => Go.leB a.b b.b = true)) : ∀ {n : Nat}, n ≤ s.length → (keepS s n).Pairwise (fun a b => cmpB a.b b.b < 0)
  | 0, _ => by simp [keepS]
  | n + 1, hn => by
    have ih := keepS_lt h (n := n) (by omega)
    have hle : ∀ i j : Nat, (hij : i < j) → (hj : j < s.length) → cmpB (s[i]'(by omega)).b s[j].b ≤ 0 := fun i j hij hj => by
      have h1 := List.pairwise_iff_getElem.1 h i j (by omega) hj hij
      by_cases e : (s[i]'(by omega)).b = s[j].b
      · rw [e, cmpB_self]; omega
      · have := le_cmp h1 e; omega
    rw [keepS]
    by_cases c : n = 0 ∨ gx s (n : Int) ≠ gx s ((n : Int) - 1)
    · rw [if_pos c]
      refine List.pairwise_append.2 ⟨ih, by simp, fun x hx y hy => ?_⟩
      rw [List.mem_singleton.1 hy, gx_nat (by omega)]
      obtain ⟨i, hi, rfl⟩ := List.mem_take_iff_getElem.1 ((keepS_mem (by omega) x).1 hx)
      have hin : i < n := by omega
      have h1 := hle i n hin (by omega)
      refine Decidable.byContradiction fun hh => ?_
      have h2 : cmpB (s[i]'(by omega)).b (s[n]'(by omega)).b = 0 := by omega
      rcases c with c | c
      · omega
      · apply c
        rw [gx_nat (by omega), show (n : Int) - 1 = ((n - 1 : Nat) : Int) by omega, gx_nat (by omega)]
        by_cases q : i = n - 1
        · subst q; exact (site_ext (cmpB_zero h2)).symm
        · have h3 := hle i (n - 1) (by omega) (by omega)
          have h4 := hle (n - 1) n (by omega) (by omega)
          have h5 := (cmpB_trans h3 h4).2
          refine (site_ext (cmpB_zero ?_)).symm
          by_cases q2 : cmpB (s[n - 1]'(by omega)).b (s[n]'(by omega)).b < 0
          · have := h5 (.inr q2); omega
          · omega
    · rw [if_neg c, List.append_nil]; exact ih
theorem Concat_Thing_eq {a b : List Thing} (ha : a.length ≤ 2000) (hb : b.length ≤ 2000) : slices_Concat_Thing [a, b] = some (a ++ b) := by
  unfold slices_Concat_Thing
  rw [rfor_eq (by simp)]
  have i0 : inR [a, b] 0 := ⟨by omega, by simp⟩
  have i1 : inR [a, b] 1 := ⟨by omega, by simp⟩
  have g0 : gx [a, b] 0 = a := rfl
  have g1 : gx [a, b] 1 = b := rfl
  have s0 : slices_Concat_Thing_L1 [a, b] 0 0 = some (a.length : Int) := by
    unfold slices_Concat_Thing_L1
    rw [need_of i0, bnd_eq, g0, Int.zero_add, Wk (by omega) (by omega), decide_eq_false (by omega), cond_false]
  have s1 : slices_Concat_Thing_L1 [a, b] 1 (a.length : Int) = some ((a.length : Int) + b.length) := by
    unfold slices_Concat_Thing_L1
    rw [need_of i1, bnd_eq, g1, Wk (by omega) (by omega), decide_eq_false (by omega), cond_false]
  have t0 : slices_Concat_Thing_L2 [a, b] 0 [] = some a := by
    unfold slices_Concat_Thing_L2
    rw [need_of i0, g0, need_of (by rw [room_iff]; simp; omega)]; rfl
  have t1 : slices_Concat_Thing_L2 [a, b] 1 a = some (a ++ b) := by
    unfold slices_Concat_Thing_L2
    rw [need_of i1, g1, need_of (by rw [room_iff]; omega)]
  have r1 : rgo (slices_Concat_Thing_L1 [a, b]) (([a, b] : List (List Thing)).length : Int).toNat 0 0 = some ((a.length : Int) + b.length) := by
    show rgo (slices_Concat_Thing_L1 [a, b]) 2 0 0 = _
    simp only [rgo, s0, show (0 + 1 : Int) = 1 from rfl, s1]
  have hg : slices_Grow_Thing ((a.length : Int) + b.length) = some [] := by unfold slices_Grow_Thing; rw [need_of ⟨by omega, by omega⟩]
  rw [r1, Option.bind_some, hg, Option.bind_some]
  have r2 : rgo (slices_Concat_Thing_L2 [a, b]) (([a, b] : List (List Thing)).length : Int).toNat 0 [] = some (a ++ b) := by
    show rgo (slices_Concat_Thing_L2 [a, b]) 2 0 [] = _
    simp only [rgo, t0, show (0 + 1 : Int) = 1 from rfl, t1]
  rw [rfor_eq (by simp), r2, Option.bind_some]
variable {a b : List Thing}
theorem Diff_loop (ha : thErr a = 0) (hb : thErr b = 0) : rforE (([a, b] : List (List Thing)).length : Int) (edit_Diff_L1 [a, b]) (fun s => (Res.nx s : Res Unit (List DOp × Int))) () = some (Res.nx ()) := by
  rw [rforE_eq (by simp)]
  have e0 : edit_Diff_L1 [a, b] 0 () = some (.nx ()) := by
    unfold edit_Diff_L1
    rw [need_of ⟨by omega, by simp⟩]
    show Option.bind (edit_CheckThings a) _ = _
    rw [CheckThings_eq, ha]; rfl
  have e1 : edit_Diff_L1 [a, b] 1 () = some (.nx ()) := by
    unfold edit_Diff_L1
    rw [need_of ⟨by omega, by simp⟩]
    show Option.bind (edit_CheckThings b) _ = _
    rw [CheckThings_eq, hb]; rfl
  show rgoE (edit_Diff_L1 [a, b]) (fun s => Res.nx s) 2 0 () = _
  simp only [rgoE, e0, show (0 + 1 : Int) = 1 from rfl, e1]
theorem Diff_bad (h : firstErr [thErr a, thErr b] ≠ 0) : edit_Diff a b = some ([], firstErr [thErr a, thErr b]) := by
  unfold edit_Diff
  rw [bnd_eq, rforE_eq (by simp)]
  have e0 : edit_Diff_L1 [a, b] 0 () = some (if thErr a = 0 then .nx () else .ab (.ab (([] : List DOp), thErr a))) := by
    unfold edit_Diff_L1
    rw [need_of ⟨by omega, by simp⟩]
    show Option.bind (edit_CheckThings a) _ = _
    rw [CheckThings_eq, Option.bind_some]
    by_cases c : thErr a = 0
    · rw [decide_eq_true c, if_pos c]; rfl
    · rw [decide_eq_false c, if_neg c]; rfl
  have e1 : edit_Diff_L1 [a, b] 1 () = some (if thErr b = 0 then .nx () else .ab (.ab (([] : List DOp), thErr b))) := by
    unfold edit_Diff_L1
    rw [need_of ⟨by omega, by simp⟩]
    show Option.bind (edit_CheckThings b) _ = _
    rw [CheckThings_eq, Option.bind_some]
    by_cases c : thErr b = 0
    · rw [decide_eq_true c, if_pos c]; rfl
    · rw [decide_eq_false c, if_neg c]; rfl
  show bindR (rgoE (edit_Diff_L1 [a, b]) (fun s => Res.nx s) 2 0 ()) _ = _
  by_cases c : thErr a = 0
  · by_cases d : thErr b = 0
    · rw [c, d] at h; exact absurd rfl h
    · rw [if_pos c] at e0
      rw [if_neg d] at e1
      simp only [rgoE, e0, show (0 + 1 : Int) = 1 from rfl, e1, bindR_ab]
      simp [c, d]
  · rw [if_neg c] at e0
    simp only [rgoE, e0, bindR_ab]
    simp [c]
theorem Diff_eq (ha0 : thErr a = 0) (hb0 : thErr b = 0) : ∃ r, Ids (mapT a) (mapT b) r ∧ edit_Diff a b = some (r.flatMap (segL (mapT a) (mapT b)), 0) := by
  have ha := thErr_right ha0
  have hb := thErr_right hb0
  have hal := ha.len
  have hbl := hb.len
  have hsl : (sortS ((a ++ b).map (·.Id))).length = a.length + b.length := by rw [sortS_len, List.length_map, List.length_append]
  have hr : Ids (mapT a) (mapT b) (keepS (sortS ((a ++ b).map (·.Id))) (sortS ((a ++ b).map (·.Id))).length) := by
    refine ⟨keepS_lt (sortS_sorted _) (Nat.le_refl _), fun k => ?_⟩
    rw [keepS_mem (Nat.le_refl _), List.take_length, (sortS_perm _).mem_iff, List.map_append, List.mem_append, mapT_has ha, mapT_has hb, List.mem_map, List.mem_map]
  refine ⟨_, hr, ?_⟩
  generalize hrr : keepS (sortS ((a ++ b).map (·.Id))) (sortS ((a ++ b).map (·.Id))).length = r at hr
  have hrl := hr.len ha hb
  unfold edit_Diff
  rw [bnd_eq, Diff_loop ha0 hb0, bindR_nx, thingsOf_eq ha, Option.bind_some, thingsOf_eq hb, Option.bind_some, Concat_Thing_eq hal hbl, Option.bind_some]
  rw [rfor_gather (l := a ++ b) (step := edit_Diff_L2 (a ++ b)) (fun t => [t.Id]) [] (fun _ _ => by simp) (by simp; omega) (fun i s hi hs => by
    unfold edit_Diff_L2
    rw [need_of hi, bnd_eq, need_of (by rw [room_iff]; simp only [List.length_singleton]; omega)]), Option.bind_some, List.nil_append, ← List.map_eq_flatMap]
  unfold slices_Sort_string
  rw [need_of (by rw [List.length_map, List.length_append]; omega), Option.bind_some, CompactS_eq (s := sortS ((a ++ b).map (·.Id))) (by omega), Option.bind_some, hrr]
  obtain ⟨o, e1, e2⟩ := rfor_inv (n := (r.length : Int)) (step := edit_Diff_L3 b r (mapT b) (mapT a)) (s0 := ([] : List DOp)) (fun t s => s = (r.take t).flatMap (segL (mapT a) (mapT b))) (by omega) rfl (fun i s hi hI => by
    have hi' : i < r.length := by omega
    have hsl : s.length ≤ 100000 - 21 := by
      have := segs_len hb (mapT a) (r.take i)
      rw [hI]
      rw [List.length_take] at this; omega
    unfold edit_Diff_L3
    rw [need_of ⟨by omega, by omega⟩, bnd_eq, bnd_eq, gx_nat hi']
    obtain ⟨q, hq, _⟩ := get_lists ha r[i]
    obtain ⟨bl, g1, g2⟩ := mrange_any hq (fun k => !((mapT b).getD r[i] GMap.nil).has k) (step := edit_Diff_L4 r[i] (mapT b)) (fun k v s => by
      unfold edit_Diff_L4
      cases (!((mapT b).getD r[i] GMap.nil).has k) with
      | true => rw [cond_true, Bool.or_true]
      | false => rw [cond_false, Bool.or_false])
    rw [g1, Option.bind_some]
    have hlost : bl = lostB (mapT a) (mapT b) r[i] := by
      cases c : (mapT b).has r[i] with
      | true => exact (lost_of g2 c).symm
      | false =>
        have hx : (mapT a).has r[i] = true := by
          rcases (hr.mem r[i]).1 (List.getElem_mem hi') with e | e
          · exact e
          · rw [c] at e; cases e
        obtain ⟨t, ht, he⟩ := (mapT_has ha _).1 hx
        have hsome := (ha.some t ht).1
        have : bl = true := g2.2 (by
          refine ⟨(t.Attrs[0]'hsome).Field, ?_, ?_⟩
          · unfold GMap.getD
            rw [← he, mapT_at ha ht]
            exact (attrM_has (ha.fields t ht) _).2 ⟨_, List.getElem_mem hsome, rfl⟩
          · rw [getD_no c]; rfl)
        rw [this]; unfold lostB; rw [c]; rfl
    rw [hlost]
    obtain ⟨p, f, h1, h2⟩ := search_id hb r[i]
    have hfin : r.take (i + 1) = r.take i ++ [r[i]] := List.take_succ_eq_append_getElem hi'
    rw [hfin, List.flatMap_append, ← hI]
    simp only [List.flatMap_cons, List.flatMap_nil, List.append_nil]
    have hbody : ∀ (s' : List DOp) (e : GMap Str Str), s'.length ≤ 100000 → (Option.bind (slices_BinarySearchFunc_string b r[i] edit_Diff_1) fun r4 => bif !r4.2 then (some (s', e).1) else (need (inR b r4.1) <| bnd ((gx b r4.1).Attrs) fun v3 => rfor (v3.length : Int) (edit_Diff_L5 v3 r[i] (s', e)) (s', e).1)) = some (s' ++ setsL e r[i] (attrsL ((mapT b).getD r[i] GMap.nil))) := fun s' e hs' => by
      rw [h1, Option.bind_some]
      rcases h2 with ⟨rfl, hp, he⟩ | ⟨rfl, hno⟩
      · simp only [Bool.not_true, cond_false]
        rw [need_of ⟨by omega, by omega⟩, bnd_eq, gx_nat hp, ← he, get_attrs hb (List.getElem_mem hp)]
        exact seg_edit (hb.some _ (List.getElem_mem hp)).2 hs'
      · have : (mapT b).has r[i] = false := by
          cases c : (mapT b).has r[i] with
          | false => rfl
          | true =>
            obtain ⟨t, ht, he⟩ := (mapT_has hb _).1 c
            exact absurd he (hno t ht)
        rw [getD_no this, attrsL_nil]
        simp [setsL]
    cases c : lostB (mapT a) (mapT b) r[i] with
    | true =>
      rw [cond_true, need_of (by rw [room_iff]; simp only [List.length_singleton]; omega), bnd_eq, bnd_eq, Option.bind_some]
      refine ⟨_, hbody (s ++ [dropOp r[i]]) GMap.nil (by simp only [List.length_append, List.length_singleton]; omega), ?_⟩
      unfold segL oldE
      rw [if_pos c, if_pos c, List.append_assoc]
    | false =>
      rw [cond_false, Option.bind_some]
      refine ⟨_, hbody s _ (by omega), ?_⟩
      unfold segL oldE
      rw [if_neg (by rw [c]; decide), if_neg (by rw [c]; decide), List.nil_append])
  rw [e1, e2, Option.bind_some, show (r.length : Int).toNat = r.length by omega, List.take_length]
end Go.DB
