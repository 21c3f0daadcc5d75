/-
  The code draws a branch: the walk through draw in plain words.
-/
import Derived.Test.YtakkmmhjohadaaaTdmPuTidy3
set_option linter.unusedSimpArgs false
set_option linter.unusedVariables false
namespace Go.DB
open Go Go.RowKit

theorem floor2_eq {a : Int} (h1 : -1000000000 ≤ a) (h2 : a ≤ 1000000000) : tree_floor a 2 = some (a / 2) := by
  unfold tree_floor
  rw [need_of (by decide)]
  simp only [bnd_eq]
  rw [need_of (by decide)]
  have hd : a.tdiv 2 = if 0 ≤ a then a / 2 else -((-a) / 2) := by
    by_cases h : 0 ≤ a
    · rw [if_pos h, Int.tdiv_eq_ediv_of_nonneg h]
    · rw [if_neg h]
      have : a = -(-a) := by omega
      conv => lhs; rw [this]
      rw [Int.neg_tdiv, Int.tdiv_eq_ediv_of_nonneg (by omega)]
  have hm : a.tmod 2 = a - 2 * a.tdiv 2 := by have := Int.mul_tdiv_add_tmod a 2; omega
  rw [hm, hd]
  by_cases h : 0 ≤ a
  · rw [if_pos h]
    have : decide (a - 2 * (a / 2) < 0) = false := by simp; omega
    simp only [this, cond_false, bind_sm]
  · rw [if_neg h]
    by_cases h3 : a - 2 * (-((-a) / 2)) < 0
    · have : decide (a - 2 * (-((-a) / 2)) < 0) = true := by simpa using h3
      simp only [this, cond_true, bind_sm, bnd_eq]
      rw [Wk (by omega) (by omega)]
      congr 1; omega
    · have : decide (a - 2 * (-((-a) / 2)) < 0) = false := by simpa using h3
      simp only [this, cond_false, bind_sm]
      congr 1; omega

/-- Values that are not far away. -/
def Near (b : List Tst) : Prop := ∀ s ∈ b, -2000000 ≤ s.from_ ∧ s.from_ ≤ 2000000 ∧ -2000000 ≤ s.to_ ∧ s.to_ ≤ 2000000

theorem mvs_take (gap : Int) (b l : List Tst) (j : Nat) (h1 : j < b.length) (h2 : j < l.length) : mvs gap (b.take (j + 1)) (l.take (j + 1)) = mvs gap (b.take j) (l.take j) ++ [b[j].to_ + gap - l[j].from_] := by
  unfold mvs
  rw [List.take_add_one, List.take_add_one, List.getElem?_eq_getElem h1, List.getElem?_eq_getElem h2]
  simp only [Option.toList_some]
  rw [List.zipWith_append (by simp; omega)]
  simp
theorem mvOf_snoc {gap : Int} {b l : List Tst} {ns : List Int} {x : Int} (h : mvs gap b l = ns ++ [x]) {b' l' : List Tst} (h' : mvs gap b' l' = ns) : mvOf gap b l = if ns = [] then x else max (mvOf gap b' l') x := by
  unfold mvOf
  rw [h, h']
  cases ns with
  | nil => simp
  | cons n r => simp [List.foldl_append]

theorem move_loop {b l : List Tst} {dr d0 : Tree_drawer} {q : Int} (hb : Near b) (hl : Near l) (hg : 0 ≤ dr.gap) (hg1 : dr.gap ≤ 1000) (hlen : b.length ≤ 100000) :
    rfor (min (b.length : Int) (l.length : Int)) (tree_drawer_draw_L2 (l, dr) (q, (b, d0))) 0 = some (mvOf dr.gap b l) := by
  obtain ⟨s, h1, h2⟩ := rfor_inv (n := min (b.length : Int) (l.length : Int)) (step := tree_drawer_draw_L2 (l, dr) (q, (b, d0))) (s0 := 0) (fun j s => s = mvOf dr.gap (b.take j) (l.take j)) (by omega) (by simp [mvOf, mvs]) (fun j s hj hI => by
    have j1 : j < b.length := by omega
    have j2 : j < l.length := by omega
    have c1 := hb _ (List.getElem_mem j1)
    have c2 := hl _ (List.getElem_mem j2)
    unfold tree_drawer_draw_L2
    simp only
    rw [need_of ⟨by omega, by omega⟩, need_of ⟨by omega, by omega⟩, gx_nat j1, gx_nat j2]
    simp only [bnd_eq]
    rw [Wk (n := b[j].to_ + dr.gap) (by omega) (by omega), Wk (by omega) (by omega)]
    have hs := mvOf_snoc (mvs_take dr.gap b l j j1 j2) rfl
    rw [hs]
    have hlen2 : (mvs dr.gap (b.take j) (l.take j)).length = j := by unfold mvs; simp; omega
    subst hI
    by_cases hj0 : j = 0
    · have e0 : mvs dr.gap (b.take j) (l.take j) = [] := List.length_eq_zero_iff.1 (by omega)
      have e1 : ((decide ((j : Int) = 0)) || (decide (mvOf dr.gap (b.take j) (l.take j) < b[j].to_ + dr.gap - l[j].from_))) = true := by simp [hj0]
      simp only [e1, cond_true, e0, if_true]
      exact ⟨_, rfl, rfl⟩
    · have e0 : ¬ mvs dr.gap (b.take j) (l.take j) = [] := fun e => by rw [e] at hlen2; simp at hlen2; omega
      rw [if_neg e0]
      by_cases hlt : mvOf dr.gap (b.take j) (l.take j) < b[j].to_ + dr.gap - l[j].from_
      · have e1 : ((decide ((j : Int) = 0)) || (decide (mvOf dr.gap (b.take j) (l.take j) < b[j].to_ + dr.gap - l[j].from_))) = true := by simp [hlt]
        simp only [e1, cond_true]
        exact ⟨_, rfl, by omega⟩
      · have e1 : ((decide ((j : Int) = 0)) || (decide (mvOf dr.gap (b.take j) (l.take j) < b[j].to_ + dr.gap - l[j].from_))) = false := by simp; omega
        simp only [e1, cond_false]
        exact ⟨_, rfl, by omega⟩)
  rw [h1, h2]
  congr 1
  unfold mvOf mvs
  have : List.zipWith (fun x y : Tst => x.to_ + dr.gap - y.from_) (b.take (min (b.length : Int) (l.length : Int)).toNat) (l.take (min (b.length : Int) (l.length : Int)).toNat) = List.zipWith (fun x y : Tst => x.to_ + dr.gap - y.from_) b l := by
    rw [← List.take_zipWith]
    rw [List.take_of_length_le (by simp; omega)]
  rw [this]

theorem merge_loop {b l : List Tst} {dr : Tree_drawer} {m : Int} (hl : Near l) (hm : -10000000 ≤ m) (hm1 : m ≤ 10000000) (hb : b.length ≤ 100000) (hll : l.length ≤ 100000) : rfor (l.length : Int) (tree_drawer_draw_L3 (l, dr) m) b = some (mrg m b l) := by
  obtain ⟨s, h1, h2⟩ := rfor_inv (n := (l.length : Int)) (step := tree_drawer_draw_L3 (l, dr) m) (s0 := b) (fun j s => s = mrg m b (l.take j)) (by omega) (by cases b <;> simp [mrg]) (fun j s hj hI => by
    have j2 : j < l.length := by omega
    have c2 := hl _ (List.getElem_mem j2)
    have hlt : (l.take j).length = j := by simp; omega
    have hsl : s.length = max b.length j := by rw [hI, mrg_len, hlt]
    unfold tree_drawer_draw_L3
    simp only
    rw [need_of ⟨by omega, by omega⟩, gx_nat j2]
    simp only [bnd_eq]
    rw [Wk (n := l[j].from_ + m) (by omega) (by omega), Wk (n := l[j].to_ + m) (by omega) (by omega)]
    have hgoal : ∀ s2 : List Tst, s2.length = max b.length (j + 1) → (∀ (r : Nat) (hr : r < s2.length), r ≠ j → ∃ hr' : r < s.length, s2[r] = s[r]) → (∀ hj2 : j < s2.length, s2[j].from_ = if h1 : j < b.length then b[j].from_ else l[j].from_ + m) →
        ∃ s', (need (inR s2 (j : Int)) (some (s2.set (j : Int).toNat { gx s2 (j : Int) with to_ := l[j].to_ + m }))) = some s' ∧ s' = mrg m b (l.take (j + 1)) := by
      intro s2 e1 e2 e3
      have hj2 : j < s2.length := by omega
      rw [need_of ⟨by omega, by omega⟩]
      refine ⟨_, rfl, List.ext_getElem (by rw [List.length_set, e1, mrg_len]; simp; omega) (fun r r1 r2 => ?_)⟩
      rw [mrg_get]
      simp only [Int.toNat_natCast]
      rw [List.getElem_set]
      by_cases hrj : j = r
      · subst hrj
        rw [if_pos rfl, dif_pos (by simp; omega), gx_nat hj2, List.getElem_take]
        rw [e3 hj2]
      · rw [if_neg hrj]
        obtain ⟨q1, q2⟩ := e2 r (by simpa using r1) (Ne.symm hrj)
        rw [q2]
        subst hI
        rw [mrg_get]
        have hlt2 : (l.take (j + 1)).length = j + 1 := by simp; omega
        by_cases h3 : r < j
        · rw [dif_pos (show r < (l.take j).length by omega), dif_pos (show r < (l.take (j + 1)).length by omega), List.getElem_take, List.getElem_take]
        · rw [dif_neg (show ¬ r < (l.take j).length by omega), dif_neg (show ¬ r < (l.take (j + 1)).length by omega)]
    by_cases hc : b.length ≤ j
    · have e1 : decide ((j : Int) = (s.length : Int)) = true := by simp; omega
      simp only [e1, cond_true]
      rw [need_of (by rw [room_iff]; simp; omega), bind_sm]
      refine hgoal _ (by rw [List.length_append]; simp; omega) (fun r hr hne => ⟨by rw [List.length_append] at hr; simp at hr; omega, by rw [List.getElem_append_left]⟩) (fun hj2 => ?_)
      rw [List.getElem_append_right (by omega), dif_neg (by omega)]
      have e0 : j - s.length = 0 := by omega
      simp only [e0, List.getElem_cons_zero]
    · have e1 : decide ((j : Int) = (s.length : Int)) = false := by simp; omega
      simp only [e1, cond_false, bind_sm]
      refine hgoal s (by omega) (fun r hr _ => ⟨hr, rfl⟩) (fun hj2 => ?_)
      subst hI
      rw [mrg_get, dif_neg (by rw [hlt]; omega), dif_pos (by omega)])
  rw [h1, h2]; simp

end Go.DB
