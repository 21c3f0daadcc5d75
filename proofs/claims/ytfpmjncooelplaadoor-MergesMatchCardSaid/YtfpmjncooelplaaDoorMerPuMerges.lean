/-
  MergesMatch: merging operations, what is seen, and what is since.
-/
import Derived.Test.YtfpmjncooelplaaDoorMerPuMerges2
set_option linter.unusedSimpArgs false
set_option linter.unusedVariables false
namespace Go.DB
open Go Go.RowKit

theorem Equal_Op_self (s : List DOp) (hl : (s.length : Int) ≤ 9223372036854775807) : slices_Equal_Op s s = some true := by
  unfold slices_Equal_Op
  simp only [decide_true, Bool.not_true, cond_false]
  rw [rforE_same rfl hl (fun i hi => by
    unfold slices_Equal_Op_L1
    rw [need_of ⟨by omega, by omega⟩, need_of ⟨by omega, by omega⟩, gx_nat hi]
    simp), if_pos rfl]
  rfl
theorem Equal_Stamp_self (s : List Stamp) (hl : (s.length : Int) ≤ 9223372036854775807) : slices_Equal_Stamp s s = some true := by
  unfold slices_Equal_Stamp
  simp only [decide_true, Bool.not_true, cond_false]
  rw [rforE_same rfl hl (fun i hi => by
    unfold slices_Equal_Stamp_L1
    rw [need_of ⟨by omega, by omega⟩, need_of ⟨by omega, by omega⟩, gx_nat hi]
    simp), if_pos rfl]
  rfl
theorem lists_Op_bad {got : List DOp} {e want : Int} {r : Option (List DOp)} (hw : want ≠ 0) (he : e = want) (hg : got = []) : law_lists_Op got e want r = some true := by
  unfold law_lists_Op
  rw [decide_eq_false hw, Bool.not_false, cond_true, he, hg]; simp
theorem lists_Op_good {got : List DOp} (hl : (got.length : Int) ≤ 9223372036854775807) : law_lists_Op got 0 0 (some got) = some true := by
  unfold law_lists_Op
  simp only [decide_true, Bool.not_true, cond_false, gd_true, Option.bind_some, Equal_Op_self got hl, Bool.and_self]
theorem lists_Stamp_bad {got : List Stamp} {e want : Int} {r : Option (List Stamp)} (hw : want ≠ 0) (he : e = want) (hg : got = []) : law_lists_Stamp got e want r = some true := by
  unfold law_lists_Stamp
  rw [decide_eq_false hw, Bool.not_false, cond_true, he, hg]; simp
theorem lists_Stamp_good {got : List Stamp} (hl : (got.length : Int) ≤ 9223372036854775807) : law_lists_Stamp got 0 0 (some got) = some true := by
  unfold law_lists_Stamp
  simp only [decide_true, Bool.not_true, cond_false, gd_true, Option.bind_some, Equal_Stamp_self got hl, Bool.and_self]
theorem edits_eq : law_edits = some true := by
  unfold law_edits
  rw [Check_eq, Option.bind_some, Check_eq]
  have h0 : opsErr [] = 0 := rfl
  have h5 : opsErr [zeroOp] = 5 := by
    unfold opsErr
    rw [if_neg (by simp)]
    show firstErr [opAt [zeroOp] 0] = 5
    have : opAt [zeroOp] 0 = 5 := by
      unfold opAt
      have : nameB (gx [zeroOp] ((0 : Nat) : Int)).Stamp.Site = false := by
        cases h : nameB (gx [zeroOp] ((0 : Nat) : Int)).Stamp.Site with
        | false => rfl
        | true => exact absurd rfl (nameB_ne h)
      rw [if_pos this]; rfl
    rw [this]; rfl
  rw [h0]
  unfold zeroOp at h5
  rw [h5]; rfl

/-! What is seen. -/

theorem Seen_list {l : List DOp} (hl : l.length ≤ 2000) : ∃ s : List Stamp, rfor (l.length : Int) (edit_Seen_L1 l) [] = some s ∧ ref_SeenOf l = some s ∧ s.length ≤ 2000 := by
  obtain ⟨s, h1, h2⟩ := rfor_inv (n := (l.length : Int)) (step := edit_Seen_L1 l) (s0 := ([] : List Stamp)) (fun i s => s.length ≤ i) (by omega) (by simp) (fun i s hi hI => by
    have hin : inR l (i : Int) := ⟨by omega, by omega⟩
    unfold edit_Seen_L1
    rw [need_of hin, bnd_eq, Wk (by omega) (by omega), need_of (fun h => ⟨by omega, by have := of_decide_eq_false h; omega⟩)]
    cases (decide ((i : Int) + 1 = (l.length : Int)) || !decide ((gx l ((i : Int) + 1)).Stamp.Site = (gx l (i : Int)).Stamp.Site)) with
    | true => rw [cond_true, need_of (by rw [room_iff]; simp; omega)]; exact ⟨_, rfl, by simp; omega⟩
    | false => rw [cond_false]; exact ⟨_, rfl, by omega⟩)
  refine ⟨s, h1, ?_, by rw [Int.toNat_natCast] at h2; omega⟩
  unfold ref_SeenOf
  have : ref_SeenOf_L1 l = edit_Seen_L1 l := rfl
  rw [this, h1]; rfl

/-! What is since. -/

def lateSt (l : List Stamp) (i : Nat) : Bool := decide (0 < (i : Int)) && (Op.bytesLess (gx l (i : Int)).Site.b ((gx l ((i : Int) - 1)).Site).b || (gx l (i : Int)).Site.b == ((gx l ((i : Int) - 1)).Site).b)
def stAt (l : List Stamp) (i : Nat) : Int :=
  firstErr [if nameB (gx l (i : Int)).Site = false then 5 else 0, if lateSt l i = true then 7 else 0, if (gx l (i : Int)).No < 0 then 3 else 0]
def stErr (l : List Stamp) : Int := firstErr ((List.range l.length).map (stAt l))
theorem StampsError_eq {l : List Stamp} (hl : (l.length : Int) ≤ 9223372036854775807) (hf : ∀ x ∈ l, fits x) : ref_StampsError l = some (stErr l) := by
  unfold ref_StampsError stErr
  have := rforE_errS (n := l.length) (step := ref_StampsError_L1 l) (fin := fun s => (Res.nx s : Res Unit Int)) (fun _ => ()) (stAt l) (fun e => Res.ab e) hl (fun i hi _ => by
    have hin : inR l (i : Int) := ⟨by omega, by omega⟩
    obtain ⟨f1, f2, f3⟩ : fits (gx l (i : Int)).Time ∧ fits (gx l (i : Int)).Site ∧ fits (gx l (i : Int)).No := hf _ (gx_mem hin)
    unfold ref_StampsError_L1
    rw [need_of hin, bnd_eq, NameOf_eq f2, Option.bind_some, When_eq, Option.bind_some, Wk (n := max (i : Int) 1 - 1) (by omega) (by omega), need_of (fun h => by have := of_decide_eq_true h; exact ⟨by omega, by omega⟩)]
    have hlate : (decide (0 < (i : Int)) && (Op.bytesLess (gx l (i : Int)).Site.b ((gx l (max (i : Int) 1 - 1)).Site).b || (gx l (i : Int)).Site.b == ((gx l (max (i : Int) 1 - 1)).Site).b)) = lateSt l i := by
      unfold lateSt
      by_cases h0 : 0 < i
      · rw [show max (i : Int) 1 - 1 = (i : Int) - 1 by omega]
      · rw [decide_eq_false (p := 0 < (i : Int)) (by omega), Bool.false_and, Bool.false_and]
    rw [hlate, When_eq, Option.bind_some, When_eq, Option.bind_some, First_eq (by simp), Option.bind_some]
    have hv : firstErr [if (!nameB (gx l (i : Int)).Site) = true then 5 else 0, if lateSt l i = true then 7 else 0, if decide ((gx l (i : Int)).No < 0) = true then 3 else 0] = stAt l i := by
      unfold stAt
      simp only [Bool.not_eq_true', decide_eq_true_eq]
    rw [hv]
    by_cases h0 : stAt l i = 0
    · rw [decide_eq_true h0, if_pos h0]; rfl
    · rw [decide_eq_false h0, if_neg h0]; rfl)
  rw [this]
  by_cases c : firstErr ((List.range l.length).map (stAt l)) = 0
  · rw [if_pos c, c]; rfl
  · rw [if_neg c]; rfl
theorem stErr_zero {l : List Stamp} (h : stErr l = 0) : ∀ i, i < l.length → stAt l i = 0 := fun i hi => firstErr_zero.1 h _ (List.mem_map.2 ⟨i, List.mem_range.2 hi, rfl⟩)
theorem stAt_late {l : List Stamp} {i : Nat} (h : stAt l i = 0) : lateSt l i = false := by
  unfold stAt at h
  have h2 := firstErr_zero.1 h (if lateSt l i = true then 7 else 0) (by simp)
  cases c : lateSt l i with
  | false => rfl
  | true => rw [c] at h2; simp at h2
theorem st_sites {l : List Stamp} (h : ∀ i, i < l.length → stAt l i = 0) : ∀ (i j : Nat) (hij : i < j) (hj : j < l.length), (l[i]'(by omega)).Site ≠ l[j].Site := by
  have hadj : ∀ (j : Nat) (hj : j < l.length) (h0 : 0 < j), cmpB (l[j - 1]'(by omega)).Site.b l[j].Site.b < 0 := fun j hj h0 => by
    have h1 := stAt_late (h j hj)
    unfold lateSt at h1
    rw [decide_eq_true (p := 0 < (j : Int)) (by omega), Bool.true_and, Bool.or_eq_false_iff, bytesLess_cmp, show (j : Int) - 1 = ((j - 1 : Nat) : Int) by omega, gx_nat hj, gx_nat (by omega)] at h1
    obtain ⟨h1, h2⟩ := h1
    have h1 := of_decide_eq_false h1
    have h2 := beq_eq_false_iff_ne.1 h2
    have h3 := cmpB_swap (l[j - 1]'(by omega)).Site.b l[j].Site.b
    have h4 : cmpB l[j].Site.b (l[j - 1]'(by omega)).Site.b ≠ 0 := fun e => h2 (cmpB_zero e)
    omega
  have key : ∀ (d i j : Nat) (hij : j = i + 1 + d) (hj : j < l.length), cmpB (l[i]'(by omega)).Site.b l[j].Site.b < 0 := by
    intro d
    induction d with
    | zero => intro i j hij hj; obtain rfl : j = i + 1 := by omega
              exact hadj (i + 1) hj (by omega)
    | succ d ih =>
      intro i j hij hj
      have h1 := ih i (j - 1) (by omega) (by omega)
      have h2 := hadj j hj (by omega)
      exact (cmpB_trans (by omega) (by omega)).2 (.inl h1)
  intro i j hij hj e
  have := key (j - i - 1) i j (by omega) hj
  rw [e, cmpB_self] at this
  omega
theorem Since_map {seen : List Stamp} (hl : (seen.length : Int) ≤ 9223372036854775807) :
    (stErr seen ≠ 0 ∧ rforE (seen.length : Int) (edit_Since_L1 seen) (fun s => Res.nx s) GMap.nil = some (.ab (([] : List DOp), stErr seen))) ∨
    (stErr seen = 0 ∧ ∃ m : GMap Str Int, rforE (seen.length : Int) (edit_Since_L1 seen) (fun s => Res.nx s) GMap.nil = some (.nx m) ∧
      ∀ t : Str, (∃ (k : Nat) (hk : k < seen.length), seen[k].Site = t ∧ m.getD t 0 = seen[k].No) ∨ ((∀ (k : Nat) (hk : k < seen.length), seen[k].Site ≠ t) ∧ m.getD t 0 = 0)) := by
  obtain ⟨e, e1, e2⟩ := rforE_inv (n := (seen.length : Int)) (step := edit_Since_L1 seen) (fin := fun s => (Res.nx s : Res (GMap Str Int) (List DOp × Int))) (s0 := GMap.nil)
    (fun i m => (∀ j, j < i → stAt seen j = 0) ∧ ∀ t : Str, (∃ (k : Nat) (hk : k < seen.length), k < i ∧ seen[k].Site = t ∧ m.getD t 0 = seen[k].No) ∨ ((∀ (k : Nat) (hk : k < seen.length), k < i → seen[k].Site ≠ t) ∧ m.getD t 0 = 0))
    (fun e => (stErr seen ≠ 0 ∧ e = .ab (([] : List DOp), stErr seen)) ∨ (stErr seen = 0 ∧ ∃ m : GMap Str Int, e = .nx m ∧
      ∀ t : Str, (∃ (k : Nat) (hk : k < seen.length), seen[k].Site = t ∧ m.getD t 0 = seen[k].No) ∨ ((∀ (k : Nat) (hk : k < seen.length), seen[k].Site ≠ t) ∧ m.getD t 0 = 0))) hl
    ⟨fun j h => by omega, fun t => .inr ⟨fun k hk h => by omega, rfl⟩⟩ (fun i m hi hI => by
      obtain ⟨i1, i2⟩ := hI
      have hib : i < seen.length := by omega
      have hin : inR seen (i : Int) := ⟨by omega, by omega⟩
      have hab : stAt seen i ≠ 0 → stErr seen = stAt seen i := fun h => by
        unfold stErr
        have hsp : List.range seen.length = List.range i ++ (i :: (List.range' (i + 1) (seen.length - i - 1))) := by
          rw [List.range_eq_range', List.range_eq_range', show seen.length = i + (1 + (seen.length - i - 1)) by omega, ← List.range'_append_1, ← List.range'_append_1]
          simp
        rw [hsp, List.map_append, List.map_cons]
        have : ∀ (p q : List Int), (∀ x ∈ p, x = 0) → firstErr (p ++ q) = firstErr q := by
          intro p q hp
          induction p with
          | nil => rfl
          | cons x p ih =>
            rw [List.cons_append, firstErr_cons, if_pos (hp x (by simp))]
            exact ih (fun y hy => hp y (by simp [hy]))
        rw [this _ _ (fun x hx => by obtain ⟨j, hj, rfl⟩ := List.mem_map.1 hx; exact i1 j (List.mem_range.1 hj)), firstErr_cons, if_neg h]
      unfold edit_Since_L1
      rw [need_of hin, bnd_eq, isName_eqE, Option.bind_some]
      cases hn : nameB (gx seen (i : Int)).Site with
      | false =>
        right
        have hv : stAt seen i = 5 := by unfold stAt; rw [if_pos hn]; rfl
        rw [Bool.not_false, cond_true]
        exact ⟨_, rfl, .inl ⟨by rw [hab (by omega)]; omega, by rw [hab (by omega), hv]⟩⟩
      | true =>
        have hn' : ¬ nameB (gx seen (i : Int)).Site = false := by rw [hn]; decide
        rw [Bool.not_true, cond_false]
        have hneed : decide (0 < (i : Int)) = true → inR seen (W ((i : Int) - 1)) := fun h => by
          have := of_decide_eq_true h
          rw [Wk (by omega) (by omega)]; exact ⟨by omega, by omega⟩
        rw [need_of hneed, Wk (n := (i : Int) - 1) (by omega) (by omega)]
        show (∃ s', (bif lateSt seen i then _ else _) = _ ∧ _) ∨ ∃ e, (bif lateSt seen i then _ else _) = _ ∧ _
        cases hlt : lateSt seen i with
        | true =>
          right
          have hv : stAt seen i = 7 := by unfold stAt; rw [if_neg hn', if_pos hlt]; rfl
          rw [cond_true]
          exact ⟨_, rfl, .inl ⟨by rw [hab (by omega)]; omega, by rw [hab (by omega), hv]⟩⟩
        | false =>
          have hlt' : ¬ lateSt seen i = true := by rw [hlt]; decide
          rw [cond_false]
          by_cases h3 : (gx seen (i : Int)).No < 0
          · right
            have hv : stAt seen i = 3 := by unfold stAt; rw [if_neg hn', if_neg hlt', if_pos h3]; rfl
            rw [decide_eq_true h3, cond_true]
            exact ⟨_, rfl, .inl ⟨by rw [hab (by omega)]; omega, by rw [hab (by omega), hv]⟩⟩
          · left
            have hv : stAt seen i = 0 := by unfold stAt; rw [if_neg hn', if_neg hlt', if_neg h3]; rfl
            rw [decide_eq_false h3, cond_false]
            refine ⟨_, rfl, fun j hj => ?_, fun t => ?_⟩
            · by_cases hji : j = i
              · rw [hji]; exact hv
              · exact i1 j (by omega)
            · by_cases ht : t = (gx seen (i : Int)).Site
              · left
                refine ⟨i, hib, by omega, by rw [ht, gx_nat hib], ?_⟩
                show (if t = (gx seen (i : Int)).Site then some (gx seen (i : Int)).No else m.f t).getD 0 = _
                rw [if_pos ht, gx_nat hib]; rfl
              · have hg : (m.set (gx seen (i : Int)).Site (gx seen (i : Int)).No).getD t 0 = m.getD t 0 := by
                  show (if t = (gx seen (i : Int)).Site then some (gx seen (i : Int)).No else m.f t).getD 0 = _
                  rw [if_neg ht]; rfl
                rw [hg]
                rcases i2 t with ⟨k, hk, h1, h2, h4⟩ | ⟨h1, h2⟩
                · exact .inl ⟨k, hk, by omega, h2, h4⟩
                · refine .inr ⟨fun k hk h => ?_, h2⟩
                  by_cases hki : k = i
                  · subst hki; intro e; apply ht; rw [← e, gx_nat hib]
                  · exact h1 k hk (by omega))
    (fun m hI => by
      obtain ⟨i1, i2⟩ := hI
      rw [Int.toNat_natCast] at i1 i2
      right
      refine ⟨firstErr_zero.2 fun x hx => ?_, m, rfl, fun t => ?_⟩
      · obtain ⟨j, hj, rfl⟩ := List.mem_map.1 hx
        exact i1 j (List.mem_range.1 hj)
      · rcases i2 t with ⟨k, hk, h1, h2⟩ | ⟨h1, h2⟩
        · exact .inl ⟨k, hk, h2⟩
        · exact .inr ⟨fun k hk => h1 k hk hk, h2⟩)
  rcases e2 with ⟨c, rfl⟩ | ⟨c, m, rfl, h⟩
  · exact .inl ⟨c, e1⟩
  · exact .inr ⟨c, m, e1, h⟩
theorem Since_both {a : List DOp} {seen : List Stamp} (ha : opsErr a = 0) (hl : (seen.length : Int) ≤ 9223372036854775807) :
    ∃ s : List DOp × Int, edit_Since a seen = some s ∧ s.2 = stErr seen ∧ (stErr seen ≠ 0 → s.1 = []) ∧ (stErr seen = 0 → ref_SinceOf a seen = some s.1) ∧ s.1.length ≤ 2000 := by
  obtain ⟨hla, _⟩ := opsErr_len ha
  unfold edit_Since
  rw [Check_eq, Option.bind_some, ha]
  rw [decide_eq_true (rfl : (0 : Int) = 0), Bool.not_true, cond_false, bnd_eq]
  rcases Since_map hl with ⟨c, h1⟩ | ⟨c, m, h1, h2⟩
  · rw [h1]
    exact ⟨([], stErr seen), rfl, rfl, fun _ => rfl, fun e => absurd e c, by simp⟩
  · rw [h1, bindR_nx]
    have hg := rfor_gather (l := a) (step := edit_Since_L2 a m) (fun v => if m.getD v.Stamp.Site 0 < v.Stamp.No then [v] else []) [] (fun v _ => by split <;> simp) (by simp; omega) (fun i s hi hs => by
      unfold edit_Since_L2
      rw [need_of hi, bnd_eq]
      by_cases q : m.getD (gx a i).Stamp.Site 0 < (gx a i).Stamp.No
      · rw [decide_eq_true q, cond_true, if_pos q, need_of (by rw [room_iff]; simp; omega)]
      · rw [decide_eq_false q, cond_false, if_neg q, List.append_nil])
    rw [hg, Option.bind_some, List.nil_append]
    have hfm : ∀ l : List DOp, l.flatMap (fun v => if m.getD v.Stamp.Site 0 < v.Stamp.No then [v] else []) = l.filter (fun v => decide (m.getD v.Stamp.Site 0 < v.Stamp.No)) := by
      intro l
      induction l with
      | nil => rfl
      | cons v l ih =>
        rw [List.flatMap_cons, ih, List.filter_cons]
        by_cases q : m.getD v.Stamp.Site 0 < v.Stamp.No
        · rw [if_pos q, if_pos (by simpa using q)]; rfl
        · rw [if_neg q, if_neg (by simpa using q)]; rfl
    rw [hfm]
    refine ⟨(_, 0), rfl, c.symm, fun e => absurd c e, fun _ => ?_, by simp only; have := List.length_filter_le (fun v : DOp => decide (m.getD v.Stamp.Site 0 < v.Stamp.No)) a; omega⟩
    unfold ref_SinceOf
    rw [Clone_DOp_eq (by omega), Option.bind_some, DeleteFunc_DOp_eq a (fun x0 => ref_SinceOf_1 x0 seen) (fun x => seen.any (fun s => decide (s.Site = x.Stamp.Site) && decide (x.Stamp.No ≤ s.No))) (by omega) (fun x hx => by
      show ref_SinceOf_1 x seen = _
      unfold ref_SinceOf_1 slices_ContainsFunc_Stamp slices_IndexFunc_Stamp
      rw [rforE_index (fun s => decide (s.Site = x.Stamp.Site) && decide (x.Stamp.No ≤ s.No)) hl (fun i h => by
        unfold slices_IndexFunc_Stamp_L1 ref_SinceOf_1_1
        rw [need_of ⟨by omega, by omega⟩, gx_nat h]
        simp only [bind_sm]
        cases (decide (seen[i].Site = x.Stamp.Site) && decide (x.Stamp.No ≤ seen[i].No)) <;> rfl)]
      rw [← idx_any]
      cases seen.findIdx? (fun s => decide (s.Site = x.Stamp.Site) && decide (x.Stamp.No ≤ s.No)) <;> rfl), Option.bind_some]
    congr 1
    refine List.filter_congr fun x hx => ?_
    have hno := opsErr_no ha x hx
    have hst := st_sites (stErr_zero c)
    rcases h2 x.Stamp.Site with ⟨k, hk, h3, h4⟩ | ⟨h3, h4⟩
    · rw [h4, Bool.eq_iff_iff, Bool.not_eq_true', Bool.eq_false_iff, decide_eq_true_eq]
      constructor
      · intro hh
        refine Int.not_le.1 fun h5 => hh ?_
        exact List.any_eq_true.2 ⟨seen[k], List.getElem_mem hk, by simp [h3]; omega⟩
      · intro hh e
        obtain ⟨s, hs, h5⟩ := List.any_eq_true.1 e
        obtain ⟨j, hj, rfl⟩ := List.getElem_of_mem hs
        rw [Bool.and_eq_true, decide_eq_true_eq, decide_eq_true_eq] at h5
        rcases Nat.lt_trichotomy j k with h | h | h
        · exact hst j k h hk (by rw [h5.1, h3])
        · subst h; omega
        · exact hst k j h hj (by rw [h5.1, h3])
    · rw [h4, decide_eq_true (by omega), Bool.not_eq_true', Bool.eq_false_iff]
      intro e
      obtain ⟨s, hs, h5⟩ := List.any_eq_true.1 e
      obtain ⟨j, hj, rfl⟩ := List.getElem_of_mem hs
      rw [Bool.and_eq_true, decide_eq_true_eq, decide_eq_true_eq] at h5
      exact h3 j hj h5.1

theorem MergesMatch_true (a b : List DOp) (seen : List Stamp) (fa : fits a) (fb : fits b) (fs : fits seen) : law_MergesMatch a b seen = some true := by
  have hsl : (seen.length : Int) ≤ 9223372036854775807 := by have := fs.1; omega
  unfold law_MergesMatch
  rw [OpsError_eq fa.2]
  by_cases ha : opsErr a = 0
  · obtain ⟨m, m1, m2, m3, m4⟩ := Merge_both ha fa.2 fb.2
    obtain ⟨hla, _⟩ := opsErr_len ha
    rw [m1, m2, ha, edits_eq]
    simp only [Option.bind_some, decide_true, cond_true, gd_true, Bool.not_true, Bool.not_false, Bool.false_or]
    have hL : law_lists_Op m.1 m.2 m.2 (law_MergesMatch_1 m.1) = some true := by
      by_cases z : m.2 = 0
      · rw [z]; exact lists_Op_good (by omega)
      · exact lists_Op_bad z rfl (m3 z)
    rw [hL]
    simp only [Option.bind_some, Bool.not_true, cond_false]
    obtain ⟨s, s1, s2, s3⟩ := Seen_list hla
    obtain ⟨q, q1, q2, q3, q4, q5⟩ := Since_both (seen := seen) ha hsl
    have hS : edit_Seen a = some (s, 0) := by
      unfold edit_Seen
      rw [Check_eq, Option.bind_some, ha, decide_eq_true (rfl : (0 : Int) = 0), Bool.not_true, cond_false, s1]; rfl
    have hS2 : law_lists_Stamp s 0 0 (law_MergesMatch_2 a) = some true := by
      unfold law_MergesMatch_2
      rw [s2]
      exact lists_Stamp_good (by omega)
    rw [hS, q1]
    simp only [Option.bind_some, hS2, gd_true, StampsError_eq hsl fs.2]
    rw [First_eq (by simp)]
    simp only [Option.bind_some, firstErr_cons, firstErr_nil, if_true, ite_self0]
    by_cases z : stErr seen = 0
    · unfold law_MergesMatch_3
      rw [q4 z, q2, z]
      simp only [Option.bind_some, lists_Op_good (got := q.1) (by omega), Bool.and_self]
    · rw [q2, lists_Op_bad z rfl (q3 z)]
      rfl
  · have hM : edit_Merge a b = some ([], opsErr a) := by
      unfold edit_Merge
      rw [Check_eq, Option.bind_some, decide_eq_false ha]; rfl
    have hS : edit_Seen a = some ([], opsErr a) := by
      unfold edit_Seen
      rw [Check_eq, Option.bind_some, decide_eq_false ha]; rfl
    have hQ : edit_Since a seen = some ([], opsErr a) := by
      unfold edit_Since
      rw [Check_eq, Option.bind_some, decide_eq_false ha]; rfl
    rw [hM, hS, hQ, edits_eq]
    simp only [Option.bind_some, decide_eq_false ha, cond_false, Bool.not_true, gd_true, Bool.not_false, lists_Op_bad ha rfl rfl, Bool.false_or, lists_Stamp_bad ha rfl rfl, StampsError_eq hsl fs.2]
    rw [First_eq (by simp)]
    simp only [Option.bind_some, firstErr_cons, firstErr_nil, if_neg ha, lists_Op_bad ha rfl rfl, Bool.and_self]
end Go.DB
