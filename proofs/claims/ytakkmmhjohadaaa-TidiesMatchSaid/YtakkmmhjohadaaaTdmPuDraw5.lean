/-
  The document's drawing of a tree is the code's.
-/
import Derived.Test.YtakkmmhjohadaaaTdmPuDraw4
import Derived.Test.YtakkmmhjohadaaaTdmPuTree1
set_option linter.unusedSimpArgs false
set_option linter.unusedVariables false
namespace Go.DB
open Go Go.RowKit

section
variable {t : List Branch} {m : Nat} {gap gapy : Int} {p : List Point} {l : Int}

theorem pts_gx {a b : List Point} (h : a.length = b.length) (hg : ∀ j : Int, 0 ≤ j → j < a.length → gx a j = gx b j) : a = b :=
  List.ext_getElem h fun i h1 h2 => by
    have := hg i (by omega) (by omega)
    rwa [gx_nat h1, gx_nat h2] at this

theorem low_loop (h : Drawn t m gap gapy p l) : mrange (gm (fun v => ∃ q, v ∈ lev (kidsOf t) q) (AX t m gap)) ref_TidyTree_L1 (AX t m gap 0) = some l := by
  obtain ⟨l0, hl0⟩ := gm_lists (f := AX t m gap) (X := fun v => ∃ q, v ∈ lev (kidsOf t) q) (n := t.length) fun v ⟨q, hv⟩ => h.dw.ok.fo.lev_in hv
  refine mrange_of hl0 fun L hL => ?_
  have h0 : (0 : Int) ∈ lev (kidsOf t) 0 := by simp [lev]
  obtain ⟨s, h1, h2, h3⟩ := mfold_inv (step := ref_TidyTree_L1) (s0 := AX t m gap 0) (fun q s => l ≤ s ∧ ∀ e ∈ q, s ≤ e.2) ⟨h.low 0 0 h0, by simp⟩ L (fun q e s he hI => by
    obtain ⟨⟨r, e1⟩, e2⟩ := (gm_mem hL).1 he
    have := h.low r e.1 e1
    have e2 : e.2 = AX t m gap e.1 := e2
    unfold ref_TidyTree_L1
    simp only [bnd_eq]
    refine ⟨_, rfl, by have := hI.1; omega, fun e' he' => ?_⟩
    rcases List.mem_append.1 he' with he' | he'
    · have := hI.2 e' he'; omega
    · simp at he'; subst he'; omega)
  obtain ⟨q, v, hv, e⟩ := h.is_
  have := h3 (v, AX t m gap v) ((gm_mem hL).2 ⟨⟨q, hv⟩, rfl⟩)
  rw [h1]
  congr 1
  simp only at this
  omega

theorem draw_level (h : Drawn t m gap gapy p l) (g0 : 0 ≤ gapy) (g1 : gapy ≤ 1000) {q : Nat} (hq : q < m) {r2 : List (List Int)} (hr2 : r2 = (List.range m).map (lev (kidsOf t))) {lm : GMap Int Int} {s : Int × List Point}
    (h1 : s.1 = Yq t gapy q) (h2 : s.2.length = t.length) (h3 : ∀ q', q' < q → ∀ v ∈ lev (kidsOf t) q', gx s.2 v = ⟨AX t m gap v - l, Yq t gapy q'⟩) :
    ∃ s', ref_TidyTree_L2 (⟨gm (fun v => ∃ q, v ∈ lev (kidsOf t) q) (AX t m gap), lm⟩ : Ref_drawn) r2 t l gapy (q : Int) s = some s' ∧ s'.1 = Yq t gapy (q + 1) ∧ s'.2.length = t.length ∧ ∀ q', q' < q + 1 → ∀ v ∈ lev (kidsOf t) q', gx s'.2 v = ⟨AX t m gap v - l, Yq t gapy q'⟩ := by
  have hrl : r2.length = m := by rw [hr2]; simp
  have hgr : gx r2 (q : Int) = lev (kidsOf t) q := by
    rw [gx_nat (by omega)]
    simp [hr2]
  have hfo := h.dw.ok.fo
  have hll := hfo.lev_le q
  have hlen := h.dw.ok.len
  have hm2 := h.dw.ok.m2
  have hY := Yq_bd h.dw.ok g0 g1 q
  have hlb : -2000000 ≤ l ∧ l ≤ 2000000 := by
    obtain ⟨q', v, hv, e⟩ := h.is_
    have := AX_bd h.dw hv; omega
  unfold ref_TidyTree_L2
  rw [need_of ⟨by omega, by omega⟩]
  simp only [bnd_eq, hgr]
  obtain ⟨s', l1, l2, l3, l4, l5⟩ := rfor_inv (n := ((lev (kidsOf t) q).length : Int)) (step := ref_TidyTree_L3 (⟨gm (fun v => ∃ q, v ∈ lev (kidsOf t) q) (AX t m gap), lm⟩ : Ref_drawn) t (lev (kidsOf t) q) l ((q : Int), s)) (s0 := ((0 : Int), s.2))
    (fun a z => z.1 = ((lev (kidsOf t) q).take a).foldl (fun s k => max s (gx t k).H) 0 ∧ z.2.length = t.length ∧ (∀ q', q' < q → ∀ v ∈ lev (kidsOf t) q', gx z.2 v = ⟨AX t m gap v - l, Yq t gapy q'⟩) ∧ ∀ b, b < a → ∀ hb : b < (lev (kidsOf t) q).length, gx z.2 (lev (kidsOf t) q)[b] = ⟨AX t m gap (lev (kidsOf t) q)[b] - l, Yq t gapy q⟩)
    (by omega) ⟨by simp, h2, h3, fun b hb => by omega⟩ (fun a z ha hI => by
      obtain ⟨i1, i2, i3, i4⟩ := hI
      have ha' : a < (lev (kidsOf t) q).length := by omega
      have hn : gx (lev (kidsOf t) q) (a : Int) = (lev (kidsOf t) q)[a] := gx_nat ha'
      have hv : (lev (kidsOf t) q)[a] ∈ lev (kidsOf t) q := List.getElem_mem _
      have hr := hfo.lev_in hv
      have hb := AX_bd h.dw hv
      have hg : (gm (fun v => ∃ q, v ∈ lev (kidsOf t) q) (AX t m gap)).getD (lev (kidsOf t) q)[a] 0 = AX t m gap (lev (kidsOf t) q)[a] := gm_getD ⟨q, hv⟩
      have hin : inR z.2 (lev (kidsOf t) q)[a] := ⟨hr.1, by omega⟩
      unfold ref_TidyTree_L3
      rw [need_of ⟨by omega, ha⟩]
      simp only [bnd_eq, hn, hg]
      rw [need_of hin, need_of ⟨hr.1, hr.2⟩, Wk (by omega) (by omega)]
      refine ⟨_, rfl, ?_, by rw [List.length_set]; exact i2, fun q' hq' v hv' => ?_, fun b hb' hbl => ?_⟩
      · rw [List.take_add_one, List.getElem?_eq_getElem ha', i1]
        simp only [Option.toList_some, List.foldl_append, List.foldl_cons, List.foldl_nil]
      · have hvr := hfo.lev_in hv'
        rw [gx_setB hin hvr.1]
        by_cases e : v = (lev (kidsOf t) q)[a]
        · have := hfo.lev_one hv' (e ▸ hv)
          omega
        · rw [if_neg e]; exact i3 q' hq' v hv'
      · have hvb : (lev (kidsOf t) q)[b] ∈ lev (kidsOf t) q := List.getElem_mem _
        have hvr := hfo.lev_in hvb
        rw [gx_setB hin hvr.1]
        by_cases e : (lev (kidsOf t) q)[b] = (lev (kidsOf t) q)[a]
        · rw [if_pos e, e, h1]
        · rw [if_neg e]
          refine i4 b ?_ hbl
          rcases Nat.lt_or_eq_of_le (Nat.lt_succ_iff.1 hb') with h5 | h5
          · exact h5
          · subst h5; exact absurd rfl e)
  rw [l1]
  simp only [Int.toNat_natCast, List.take_length] at l2 l5
  simp only [bind_sm]
  have hh := hiq_spec t (lev (kidsOf t) q) 0
  have hhb : hiq t (lev (kidsOf t) q) ≤ 1000 ∧ 0 ≤ hiq t (lev (kidsOf t) q) := ⟨hh.2.2 (fun k hk => by have := hfo.lev_in hk; exact (h.dw.ok.h this.1 this.2).2) (by decide), hh.1⟩
  have hs1 : s'.1 = hiq t (lev (kidsOf t) q) := l2
  rw [hs1, h1, Wk (n := hiq t (lev (kidsOf t) q) + gapy) (by omega) (by omega), Wk (by omega) (by omega)]
  refine ⟨_, rfl, rfl, l3, fun q' hq' v hv => ?_⟩
  rcases Nat.lt_or_eq_of_le (Nat.lt_succ_iff.1 hq') with h5 | h5
  · exact l4 q' h5 v hv
  · subst h5
    obtain ⟨b, hb, rfl⟩ := List.mem_iff_getElem.1 hv
    exact l5 b (by omega) hb

theorem TidyTree_eq (h : Drawn t m gap gapy p l) (g0 : 0 ≤ gapy) (g1 : gapy ≤ 1000) : ref_TidyTree t gap gapy = some p := by
  have h0 : (0 : Int) ∈ lev (kidsOf t) 0 := by simp [lev]
  have hlen := h.dw.ok.len
  have hm2 := h.dw.ok.m2
  have hg : (gm (fun v => ∃ q, v ∈ lev (kidsOf t) q) (AX t m gap)).getD 0 0 = AX t m gap 0 := gm_getD ⟨0, h0⟩
  unfold ref_TidyTree
  rw [drawing_root h.dw]
  simp only [bind_sm, bnd_eq, hg, low_loop h]
  rw [need_of (by omega), levelsOf_eq, h.dw.ok.levels]
  simp only [bind_sm, Int.toNat_natCast]
  obtain ⟨s, l1, l2, l3, l4⟩ := rfor_inv (n := ((((List.range m).map (lev (kidsOf t))).length : Nat) : Int)) (step := ref_TidyTree_L2 (⟨gm (fun v => ∃ q, v ∈ lev (kidsOf t) q) (AX t m gap), DLm t 0⟩ : Ref_drawn) ((List.range m).map (lev (kidsOf t))) t l gapy) (s0 := ((0 : Int), List.replicate t.length (⟨0, 0⟩ : Point)))
    (fun q s => s.1 = Yq t gapy q ∧ s.2.length = t.length ∧ ∀ q', q' < q → ∀ v ∈ lev (kidsOf t) q', gx s.2 v = ⟨AX t m gap v - l, Yq t gapy q'⟩) (by simp; omega) ⟨rfl, by simp, fun q hq => by omega⟩ (fun q s hq hI => by
      have hq' : q < m := by simpa using hq
      exact draw_level h g0 g1 hq' rfl hI.1 hI.2.1 hI.2.2)
  rw [l1]
  simp only [bind_sm]
  congr 1
  refine pts_gx (by rw [l3, h.len]) fun j j0 j1 => ?_
  obtain ⟨q, hq, hv⟩ := h.dw.ok.mem (j := j) j0 (by omega)
  rw [h.at_ q j hv]
  exact l4 q (by simpa using hq) j hv
end

theorem TidiesMatch_true (t : List Branch) (gapx gapy : Int) (ht : fits t) : law_TidiesMatch t gapx gapy = some true := by
  obtain ⟨hce, e, he, _⟩ := Check_eq t ht
  have hfirst : ∀ x y : Int, ref_First [x, y] = some (if x = 0 then y else x) := fun x y => by
    rw [First_eq (by simp)]
    simp only [firstErr_cons, firstErr_nil]
    by_cases h1 : x = 0 <;> by_cases h2 : y = 0 <;> simp [h1, h2]
  unfold law_TidiesMatch
  rw [← hce, he, trees_eq]
  simp only [bind_sm, In_eq, When_eq]
  have hgd : ∀ b : Bool, (gd b (some (decide (0 ≤ gapy ∧ gapy ≤ 1000)))) = some (bif b then decide (0 ≤ gapy ∧ gapy ≤ 1000) else default) := fun b => by cases b <;> rfl
  rcases Tidy_eqR t gapx gapy ht with ⟨e', h1, h2, hbad⟩ | ⟨m, p, l, h1, h2, g0, g1, h⟩
  · rw [h2]
    simp only [bind_sm, hgd, hfirst]
    have hw : (if e = 0 then (if ((!decide (0 ≤ gapx ∧ gapx ≤ 1000)) || !(bif !(!decide (0 ≤ gapx ∧ gapx ≤ 1000)) then decide (0 ≤ gapy ∧ gapy ≤ 1000) else default)) = true then (3 : Int) else 0) else e) = e' := by
      unfold tree_Tidy at h2
      rw [he] at h2
      simp only [bind_sm] at h2
      by_cases h0 : e = 0
      · rw [if_pos h0]
        subst h0
        simp only [decide_true, Bool.not_true, cond_false] at h2
        have hg := hbad he
        have e1 : ((((decide (gapx < 0)) || (decide (1000 < gapx))) || (decide (gapy < 0))) || (decide (1000 < gapy))) = true := by simp; omega
        simp only [e1, cond_true] at h2
        injection h2 with h2
        have e3 : (3 : Int) = e' := congrArg Prod.snd h2
        rw [← e3]
        rw [if_pos]
        by_cases hx : 0 ≤ gapx ∧ gapx ≤ 1000
        · have hy : ¬ (0 ≤ gapy ∧ gapy ≤ 1000) := by omega
          simp [hx, hy]
        · simp [hx]
      · rw [if_neg h0]
        have e1 : (!decide (e = 0)) = true := by simp [h0]
        simp only [e1, cond_true] at h2
        injection h2 with h2
        exact congrArg Prod.snd h2
    rw [hw]
    have e1 : (decide (e' = 0) && decide ((60 : Int) < (t.length : Int))) = false := by simp [h1]
    simp only [e1, cond_false, bind_sm, gd_true]
    unfold law_lists_Point
    simp [h1]
  · rw [h1]
    rw [he] at h2
    injection h2 with h2
    subst h2
    have hgx := h.dw.g0
    have hgx1 := h.dw.g1
    simp only [bind_sm, hgd, hfirst]
    have hlen := h.len
    have hpl := h.dw.ok.len
    have ex : decide (0 ≤ gapx ∧ gapx ≤ 1000) = true := by simp; omega
    have ey : decide (0 ≤ gapy ∧ gapy ≤ 1000) = true := by simp; omega
    simp only [ex, ey, Bool.not_true, Bool.not_false, cond_true, Bool.or_self, if_true, Bool.false_eq_true, if_false, decide_true, Bool.true_and]
    by_cases h60 : (60 : Int) < (t.length : Int)
    · simp only [decide_eq_true h60, cond_true]
      rw [hlen]; simp
    · simp only [decide_eq_false h60, cond_false, bind_sm, gd_true]
      have hl : law_lists_Point p 0 0 (law_TidiesMatch_1 t gapx gapy) = some true := by
        unfold law_lists_Point law_TidiesMatch_1
        rw [TidyTree_eq h g0 g1]
        simp only [bind_sm, decide_true, Bool.not_true, cond_false, gd_true]
        rw [Equal_Point_eq p p (by omega)]
        simp
      rw [hl]; rfl
end Go.DB
