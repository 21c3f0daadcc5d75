/-
  Signs of a diagram: both give every cell the same sign.
-/
import Derived.Test.YtbogpbomhmabhaaGreatDoorSkePuSke4
set_option linter.unusedSimpArgs false
set_option linter.unusedVariables false
namespace Go.DB
open Go Go.RowKit

def inQ (b : Box) (p : Point) : Bool := decide (b.X ≤ p.X ∧ p.X ≤ b.X + b.W_) && decide (b.Y ≤ p.Y ∧ p.Y ≤ b.Y + b.H)
noncomputable def bxQ (d : Doc) (k : Int) : Box := ((page_view_boxOf (viewD d) k).getD (zeroB, 0)).1
noncomputable def stQ (d : Doc) (p : Point) (s : Str × Str) (k : Int) : Str × Str :=
  if hitB d.Nodes p k = true then ((gx d.Nodes k).Id, s.2) else if (gx d.Nodes k).Kind = 6 ∧ inQ (bxQ d k) p = true then (s.1, (gx d.Nodes k).Id) else s
theorem sk_fold {d : Doc} {p : Point} (ks : List Int) : ∀ n, n ≤ ks.length →
    (match (ks.take n).reverse.find? (hitB d.Nodes p) with | some k => ((ks.take n).foldl (stQ d p) (Str.nil, Str.nil)).1 = (gx d.Nodes k).Id ∧ k ∈ ks | none => ((ks.take n).foldl (stQ d p) (Str.nil, Str.nil)).1 = Str.nil) ∧
    (((ks.take n).foldl (stQ d p) (Str.nil, Str.nil)).2 = Str.nil ∨ ∃ k ∈ ks, ((ks.take n).foldl (stQ d p) (Str.nil, Str.nil)).2 = (gx d.Nodes k).Id ∧ (gx d.Nodes k).Kind = 6)
  | 0, _ => by simp
  | n + 1, hn => by
    obtain ⟨h1, h2⟩ := sk_fold ks n (by omega)
    have hlt : n < ks.length := by omega
    rw [List.take_succ_eq_append_getElem hlt, List.foldl_append, List.reverse_append]
    show (match (([ks[n]] ++ (ks.take n).reverse).find? (hitB d.Nodes p)) with | some k => (stQ d p _ ks[n]).1 = (gx d.Nodes k).Id ∧ k ∈ ks | none => (stQ d p _ ks[n]).1 = Str.nil) ∧ ((stQ d p _ ks[n]).2 = Str.nil ∨ ∃ k ∈ ks, (stQ d p _ ks[n]).2 = (gx d.Nodes k).Id ∧ (gx d.Nodes k).Kind = 6)
    generalize (ks.take n).foldl (stQ d p) (Str.nil, Str.nil) = r at *
    rw [List.singleton_append, List.find?_cons]
    cases hh : hitB d.Nodes p ks[n] with
    | true =>
      have e : stQ d p r ks[n] = ((gx d.Nodes ks[n]).Id, r.2) := if_pos hh
      rw [e]
      exact ⟨⟨rfl, List.getElem_mem hlt⟩, h2⟩
    | false =>
      have e : stQ d p r ks[n] = if (gx d.Nodes ks[n]).Kind = 6 ∧ inQ (bxQ d ks[n]) p = true then (r.1, (gx d.Nodes ks[n]).Id) else r := if_neg (by rw [hh]; simp)
      rw [e]
      by_cases hq : (gx d.Nodes ks[n]).Kind = 6 ∧ inQ (bxQ d ks[n]) p = true
      · rw [if_pos hq]
        exact ⟨h1, .inr ⟨ks[n], List.getElem_mem hlt, rfl, hq.1⟩⟩
      · rw [if_neg hq]
        exact ⟨h1, h2⟩
theorem sk_hitOf {d : Doc} (h : Right d) {p : Point} (hp : ptErr p = 0) : ∃ id, ref_HitOf d p = some id ∧
    (match (ordT d.Nodes).reverse.find? (hitB d.Nodes p) with | some k => id = (gx d.Nodes k).Id ∧ k ∈ ordT d.Nodes | none => nodeAt d.Nodes id < 0 ∨ (gx d.Nodes (nodeAt d.Nodes id)).Kind = 6) := by
  have hpk := ptErr_zero.1 hp
  have hlen := ordT_len h
  have hel := h.el
  have hnl := h.nl
  have hbx : ∀ (j : Nat) (hj : j < d.Nodes.length), ref_BoxOfNode d d.Nodes[j].Id = some (bxQ d (j : Int), 0) ∧ okB (bxQ d (j : Int)) := fun j hj => by
    obtain ⟨b, b1, b2, b3⟩ := h.box j hj
    have e : bxQ d (j : Int) = b := by unfold bxQ; rw [b1]; rfl
    rw [e]; exact ⟨b2, b3⟩
  let st' : Str × Str → Str → Str × Str := fun s id => if nodeAt d.Nodes id < 0 then s else stQ d p s (nodeAt d.Nodes id)
  have hst : ∀ (s : Str × Str) (j : Nat) (hj : j < d.Nodes.length), stQ d p s (j : Int) = if d.Nodes[j].Kind ≠ 6 then (if 0 ≤ (shape_has d.Nodes[j].Kind d.Nodes[j].Box p).getD 0 then (d.Nodes[j].Id, s.2) else s) else (if inQ (bxQ d (j : Int)) p = true then (s.1, d.Nodes[j].Id) else s) := fun s j hj => by
    unfold stQ hitB
    rw [gx_nat hj]
    by_cases hk : d.Nodes[j].Kind = 6
    · simp [hk]
    · simp [hk]
  have href : ref_HitOf d p = some (if (List.foldl (stQ d p) (Str.nil, Str.nil) (ordT d.Nodes)).1 ≠ Str.nil then (List.foldl (stQ d p) (Str.nil, Str.nil) (ordT d.Nodes)).1 else (List.foldl (stQ d p) (Str.nil, Str.nil) (ordT d.Nodes)).2) := by
    unfold ref_HitOf
    rw [OrderOf_eq h, Option.bind_some, rfor_fold (l := idL d.Nodes (ordT d.Nodes) ++ d.Edges.map (·.Id)) st' (by simp [idL]; omega) (fun i s hi => by
      unfold ref_HitOf_L1
      rw [need_of hi, bnd_eq, NodeAt_eq (by omega), Option.bind_some]
      generalize hid : gx (idL d.Nodes (ordT d.Nodes) ++ d.Edges.map (·.Id)) i = id
      show _ = some (if nodeAt d.Nodes id < 0 then s else stQ d p s (nodeAt d.Nodes id))
      by_cases hn : nodeAt d.Nodes id < 0
      · rw [decide_eq_true hn, if_pos hn]; rfl
      · obtain ⟨j, hj, ha, rfl⟩ := nodeAt_nat hn
        obtain ⟨b2, b3⟩ := hbx j hj
        have hat := h.at (List.getElem_mem hj)
        have hin : inR d.Nodes (j : Int) := ⟨by omega, by omega⟩
        rw [decide_eq_false hn, if_neg hn, cond_false, b2, Option.bind_some, ha, need_of hin, need_of (fun _ => hin), gx_nat hj, hst s j hj]
        by_cases hk : d.Nodes[j].Kind = 6
        · obtain ⟨x1, x2, y1, y2, w1, w2, g1, g2⟩ := b3
          rw [if_neg (fun hh => hh hk), decide_eq_true hk]
          simp only [Bool.not_true, gd, cond_false, cond_true, Option.bind_some, Bool.false_and, Bool.true_and]
          rw [need_of hin, In_eq, Option.bind_some, Wk (n := (bxQ d (j : Int)).X + (bxQ d (j : Int)).W_) (by omega) (by omega), Wk (n := (bxQ d (j : Int)).Y + (bxQ d (j : Int)).H) (by omega) (by omega), In_eq]
          have e : inQ (bxQ d (j : Int)) p = (decide ((bxQ d (j : Int)).X ≤ p.X ∧ p.X ≤ (bxQ d (j : Int)).X + (bxQ d (j : Int)).W_) && decide ((bxQ d (j : Int)).Y ≤ p.Y ∧ p.Y ≤ (bxQ d (j : Int)).Y + (bxQ d (j : Int)).H)) := rfl
          rw [e]
          cases decide ((bxQ d (j : Int)).X ≤ p.X ∧ p.X ≤ (bxQ d (j : Int)).X + (bxQ d (j : Int)).W_) with
          | false => rfl
          | true =>
            simp only [cond_true, Option.bind_some, Bool.true_and]
            cases decide ((bxQ d (j : Int)).Y ≤ p.Y ∧ p.Y ≤ (bxQ d (j : Int)).Y + (bxQ d (j : Int)).H) <;> rfl
        · have hb := hat.2.2 hk
          have hbe : bxQ d (j : Int) = d.Nodes[j].Box := by
            have := box_leaf h hj hk
            rw [b2] at this
            simpa using this
          obtain ⟨r, r1, r2⟩ := has_both (k := d.Nodes[j].Kind) (p := p) hb (by have := hpk.1; omega) (by have := hpk.2.1; omega) (by have := hpk.2.2.1; omega) (by have := hpk.2.2.2; omega)
          rw [decide_eq_false hk, if_pos hk, hbe, r2, r1, Option.getD_some]
          simp only [Bool.not_false, gd_true, Option.bind_some, Bool.true_and]
          by_cases h0 : 0 ≤ r
          · rw [decide_eq_true h0, if_pos h0]; rfl
          · rw [decide_eq_false h0, if_neg h0, cond_false, need_of hin]
            simp [gd]), Option.bind_some]
    have hfold : List.foldl st' (Str.nil, Str.nil) (idL d.Nodes (ordT d.Nodes) ++ d.Edges.map (·.Id)) = List.foldl (stQ d p) (Str.nil, Str.nil) (ordT d.Nodes) := by
      rw [List.foldl_append]
      have hedges : ∀ (l : List DEdge) (s : Str × Str), (∀ x ∈ l, nodeAt d.Nodes x.Id < 0) → List.foldl st' s (l.map (·.Id)) = s := by
        intro l
        induction l with
        | nil => intro s _; rfl
        | cons x l ih =>
          intro s hx
          rw [List.map_cons, List.foldl_cons]
          have : st' s x.Id = s := if_pos (hx x (by simp))
          rw [this]
          exact ih s (fun y hy => hx y (by simp [hy]))
      rw [hedges _ _ (fun x hx => by
        obtain ⟨i, hi, rfl⟩ := List.mem_iff_getElem.1 hx
        exact edge_new h hi)]
      have hnodes : ∀ (l : List Int) (s : Str × Str), (∀ x ∈ l, ∃ j : Nat, x = j ∧ j < d.Nodes.length) → List.foldl st' s (idL d.Nodes l) = List.foldl (stQ d p) s l := by
        intro l
        induction l with
        | nil => intro s _; rfl
        | cons x l ih =>
          intro s hx
          obtain ⟨j, rfl, hj⟩ := hx x (by simp)
          show List.foldl st' s ((gx d.Nodes (j : Int)).Id :: idL d.Nodes l) = _
          rw [List.foldl_cons, List.foldl_cons]
          have ha := nodeAt_of h.hd hj
          have : st' s (gx d.Nodes (j : Int)).Id = stQ d p s (j : Int) := by
            show (if nodeAt d.Nodes (gx d.Nodes (j : Int)).Id < 0 then s else stQ d p s (nodeAt d.Nodes (gx d.Nodes (j : Int)).Id)) = _
            rw [gx_nat hj, ha, if_neg (by omega)]
          rw [this]
          exact ih _ (fun y hy => hx y (by simp [hy]))
      exact hnodes _ _ (fun x hx => ordT_mem h hx)
    rw [hfold]
    by_cases h0 : (List.foldl (stQ d p) (Str.nil, Str.nil) (ordT d.Nodes)).1 = Str.nil
    · rw [decide_eq_true h0, if_neg (fun hh => hh h0)]; rfl
    · rw [decide_eq_false h0, if_pos h0]; rfl
  refine ⟨_, href, ?_⟩
  have hf := sk_fold (d := d) (p := p) (ordT d.Nodes) (ordT d.Nodes).length (Nat.le_refl _)
  rw [List.take_length] at hf
  obtain ⟨f1, f2⟩ := hf
  cases hq : (ordT d.Nodes).reverse.find? (hitB d.Nodes p) with
  | some k =>
    rw [hq] at f1
    simp only at f1 ⊢
    obtain ⟨j, rfl, hj⟩ := ordT_mem h f1.2
    have hne : (gx d.Nodes (j : Int)).Id ≠ Str.nil := by rw [gx_nat hj]; exact h.hid (List.getElem_mem hj)
    rw [f1.1, if_pos hne]
    exact ⟨rfl, f1.2⟩
  | none =>
    rw [hq] at f1
    simp only at f1 ⊢
    rw [if_neg (fun hh => hh f1)]
    rcases f2 with e | ⟨k, k1, k2, k3⟩
    · left
      rw [e, nodeAt_neg]
      exact fun n hn => h.hid hn
    · right
      obtain ⟨j, rfl, hj⟩ := ordT_mem h k1
      rw [k2, gx_nat hj, nodeAt_of h.hd hj]; exact k3
/-- The middle of a cell. -/
def midQ (L T w h : Int) (i k : Nat) : Point := ⟨L + k * w + w / 2, T + i * h + h / 2⟩
/-- The sign of a cell. -/
noncomputable def cellB (d : Doc) (L T w h : Int) (i k : Nat) : UInt8 :=
  match (if ptErr (midQ L T w h i k) = 0 then (ordT d.Nodes).reverse.find? (hitB d.Nodes (midQ L T w h i k)) else none) with
  | some j => gx (gx d.Nodes j).Id.b 0
  | none => if ∃ p ∈ lanesD d d.Edges.length, tch L T w h p i k then 42 else 46
theorem hit_kind {l : List DNode} {p : Point} {k : Int} (h : hitB l p k = true) : (gx l k).Kind ≠ 6 := by
  unfold hitB at h
  rw [Bool.and_eq_true] at h
  exact of_decide_eq_true h.1
theorem sk_sign {d : Doc} (hc : page_Check d = some 0) (hr : Right d) {L T w h : Int} (hL : -1000000 ≤ L ∧ L ≤ 1000000) (hT : -1000000 ≤ T ∧ T ≤ 1000000) (hw : 1 ≤ w ∧ w ≤ 20000) (hh : 1 ≤ h ∧ h ≤ 20000) {i k : Nat} (hi : i ≤ 200) (hk : k ≤ 200) :
    law_sign d (⟨L + k * w, T + i * h, w, h⟩ : Box) = some ⟨[cellB d L T w h i k]⟩ := by
  have hnl := hr.nl
  have m1 := mul_bd (w := 0) hk (Nat.le_refl 200) hw.1 hw.2
  have m2 := mul_bd (w := 0) hi (Nat.le_refl 200) hh.1 hh.2
  have hE := sk_signE hc hr hL hT hw hh hi hk
  unfold law_sign
  simp only [bnd_eq]
  rw [Down_eq (by omega) (by omega) (by omega) (by omega), Option.bind_some, Down_eq (by omega) (by omega) (by omega) (by omega), Option.bind_some, Wk (n := L + (k : Int) * w + w / 2) (by omega) (by omega), Wk (n := T + (i : Int) * h + h / 2) (by omega) (by omega), hE, PointError_eq, Option.bind_some]
  have hm : (⟨L + (k : Int) * w + w / 2, T + (i : Int) * h + h / 2⟩ : Point) = midQ L T w h i k := rfl
  rw [hm]
  have hlane : ∀ (o : Option Int), o = none → ((bindR (σ := Unit) (ρ := Str) (some (if ∃ p ∈ lanesD d d.Edges.length, tch L T w h p i k then Res.ab (⟨[42]⟩ : Str) else Res.nx ())) fun j_13 => some (⟨[46]⟩ : Str)) : Option Str) = some ⟨[match o with | some j => gx (gx d.Nodes j).Id.b 0 | none => if ∃ p ∈ lanesD d d.Edges.length, tch L T w h p i k then 42 else 46]⟩ := fun o ho => by
    subst ho
    by_cases hx : ∃ p ∈ lanesD d d.Edges.length, tch L T w h p i k
    · simp only [if_pos hx]; rfl
    · simp only [if_neg hx]; rfl
  unfold cellB
  by_cases hp : ptErr (midQ L T w h i k) = 0
  · rw [if_pos hp, decide_eq_true hp, cond_true]
    obtain ⟨id, h1, h2⟩ := sk_hitOf hr hp
    rw [h1, Option.bind_some, NodeAt_eq (by omega), Option.bind_some]
    cases hq : (ordT d.Nodes).reverse.find? (hitB d.Nodes (midQ L T w h i k)) with
    | some j =>
      rw [hq] at h2
      simp only at h2
      obtain ⟨he, hj⟩ := h2
      obtain ⟨a, rfl, ha⟩ := ordT_mem hr hj
      have hkd := hit_kind (List.find?_some hq)
      have hna : nodeAt d.Nodes id = (a : Int) := by rw [he, gx_nat ha, nodeAt_of hr.hd ha]
      have hin : inR d.Nodes (a : Int) := ⟨by omega, by omega⟩
      have hid : (gx d.Nodes (a : Int)).Id ≠ Str.nil := by rw [gx_nat ha]; exact hr.hid (List.getElem_mem ha)
      rw [hna, need_of (fun _ => hin), decide_eq_true (by omega), decide_eq_false hkd]
      simp only [Bool.not_false, Bool.and_self, cond_true]
      cases hb : (gx d.Nodes (a : Int)).Id with
      | mk b =>
        rw [hb] at hid
        cases b with
        | nil => exact absurd rfl hid
        | cons c b =>
          simp only [hb]
          rw [need_of hin, need_of ⟨by omega, by omega, by simp only [List.length_cons]; omega⟩]
          rfl
    | none =>
      rw [hq] at h2
      simp only at h2
      have : (need ((decide (0 ≤ nodeAt d.Nodes id)) = true → inR d.Nodes (nodeAt d.Nodes id)) <| (bif (decide (0 ≤ nodeAt d.Nodes id)) && (!decide (((gx d.Nodes (nodeAt d.Nodes id)).Kind) = 6)) then (
        need (inR d.Nodes (nodeAt d.Nodes id)) <|
        need (segR ((gx d.Nodes (nodeAt d.Nodes id)).Id).b.length 0 1) <|
        some (Res.ab (⟨seg ((gx d.Nodes (nodeAt d.Nodes id)).Id).b 0 1⟩ : Str)))
      else (
        some (Res.nx ())) : Option (Res Unit Str))) = some (Res.nx ()) := by
        rw [need_of (fun q => by
          have q' := of_decide_eq_true q
          exact (nodeAt_in (by omega)).1)]
        rcases h2 with h2 | h2
        · rw [decide_eq_false (by omega)]; rfl
        · rw [decide_eq_true h2, Bool.not_true, Bool.and_false]; rfl
      rw [this, bindR_nx]
      exact hlane none rfl
  · rw [if_neg hp, decide_eq_false hp, cond_false, bindR_nx]
    exact hlane none rfl
end Go.DB
