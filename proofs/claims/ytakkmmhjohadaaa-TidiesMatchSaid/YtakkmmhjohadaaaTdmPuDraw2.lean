/-
  The document draws a tree: the loop over two drawings finds the move.
-/
import Derived.Test.YtakkmmhjohadaaaTdmPuDraw1
set_option linter.unusedSimpArgs false
set_option linter.unusedVariables false
namespace Go.DB
open Go Go.RowKit

section
variable {t : List Branch} {m : Nat} {gap : Int}

/-- Nodes below the first j branches of a node. -/
def XJ (t : List Branch) (k : Int) (j : Nat) (v : Int) : Prop := ∃ c ∈ (kidsOf t k).take j, sub (kidsOf t) c v

theorem sub_lev (h : Dw t m gap) {i : Nat} {k v : Int} (hk : k ∈ lev (kidsOf t) i) (hv : sub (kidsOf t) k v) : ∃ r, v ∈ levf (kidsOf t) [k] r ∧ v ∈ lev (kidsOf t) (i + r) ∧ LV (kidsOf t) v = i + r := by
  obtain ⟨r, hr⟩ := hv
  have := levf_in hk r v hr
  exact ⟨r, hr, this, h.ok.fo.LV_eq this⟩
theorem XJ_lev (h : Dw t m gap) {i : Nat} {k v : Int} {j : Nat} (hk : k ∈ lev (kidsOf t) i) (hv : XJ t k j v) : ∃ r, v ∈ levf (kidsOf t) ((kidsOf t k).take j) r ∧ v ∈ lev (kidsOf t) (i + 1 + r) ∧ LV (kidsOf t) v = i + 1 + r := by
  obtain ⟨c, hc, hs⟩ := hv
  obtain ⟨r, h1, h2, h3⟩ := sub_lev h (lev_kid hk (List.mem_of_mem_take hc)) hs
  exact ⟨r, (levf_mem _ _ _ _).2 ⟨c, hc, h1⟩, h2, h3⟩

/-- By how much a node of the first branches would have a node of the next one be moved. -/
def Sj (t : List Branch) (m : Nat) (gap : Int) (k : Int) (j : Nat) (x : Int) : Prop :=
  ∃ v, sub (kidsOf t) (gx (kidsOf t k) (j : Int)) v ∧ ∃ u, XJ t k j u ∧ LV (kidsOf t) v = LV (kidsOf t) u ∧ x = AX t m gap u - SH t m gap k + wOf t u + gap - (AX t m gap v - SH t m gap (gx (kidsOf t k) (j : Int)))

theorem shift_eq (h : Dw t m gap) {i : Nat} {k : Int} (hi : i < m) (hk : k ∈ lev (kidsOf t) i) {j : Nat} (hj : j < (kidsOf t k).length) {s : Int × Bool} (hs : Mx (Sj t m gap k j) s) :
    s.1 = gx (mov (kidsOf t) (wOf t) gap m k) (j : Int) := by
  rw [mov_at hj]
  have hc : gx (kidsOf t k) (j : Int) ∈ kidsOf t k := gx_mem ⟨by omega, by omega⟩
  have hcl := kid_lt h hk hc
  generalize hcc : gx (kidsOf t k) (j : Int) = c at hc hcl
  by_cases hj0 : j = 0
  · subst hj0
    have hb : belP (kidsOf t) (wOf t) gap m k 0 = [] := by unfold belP; simp [run]
    rw [hb, mvOf_nil]
    rcases hs with ⟨rfl, _⟩ | ⟨_, ⟨v, _, u, ⟨c', hc', _⟩, _⟩, _⟩
    · rfl
    · simp at hc'
  · obtain ⟨⟨lo, hi', g⟩, gne⟩ := part_dr h hi hk (j := j) (by omega) (by omega)
    obtain ⟨dne, lo2, hi2, d, _⟩ := node_dr h hcl.2 hcl.1
    obtain ⟨u1, r0, hr1, hr2, hm⟩ := mvOf_spec (gap := gap) gne dne
    have hin : Sj t m gap k j (mvOf gap (belP (kidsOf t) (wOf t) gap m k j) (SK t m gap c)) := by
      obtain ⟨⟨n1, hn1, e1⟩, _⟩ := g.to r0 hr1
      obtain ⟨⟨n2, hn2, e2⟩, _⟩ := d.fr r0 hr2
      obtain ⟨c', hc', hs'⟩ := (levf_mem _ _ _ _).1 hn1
      have l1 := levf_in (lev_kid hk (List.mem_of_mem_take hc')) r0 n1 hs'
      have l2 := levf_in hcl.1 r0 n2 hn2
      refine ⟨n2, by rw [hcc]; exact ⟨r0, hn2⟩, n1, ⟨c', hc', r0, hs'⟩, by rw [h.ok.fo.LV_eq l1, h.ok.fo.LV_eq l2], ?_⟩
      rw [hm, hcc]
      unfold AX
      omega
    have hall : ∀ x, Sj t m gap k j x → x ≤ mvOf gap (belP (kidsOf t) (wOf t) gap m k j) (SK t m gap c) := by
      rintro x ⟨v, hv, u, hu, hl, rfl⟩
      rw [hcc] at hv ⊢
      obtain ⟨r, a1, a2, a3⟩ := sub_lev h hcl.1 hv
      obtain ⟨r', b1, b2, b3⟩ := XJ_lev h hk hu
      have hrr : r = r' := by omega
      subst hrr
      have k1 : r < (belP (kidsOf t) (wOf t) gap m k j).length := by
        rcases Nat.lt_or_ge r (belP (kidsOf t) (wOf t) gap m k j).length with h5 | h5
        · exact h5
        · rw [g.nil r h5] at b1; cases b1
      have k2 : r < (SK t m gap c).length := by
        rcases Nat.lt_or_ge r (SK t m gap c).length with h5 | h5
        · exact h5
        · rw [d.nil r h5] at a1; cases a1
      have e1 := (g.to r k1).2 u b1
      have e2 := (d.fr r k2).2 v a1
      have e3 := u1 r k1 k2
      unfold AX
      omega
    rcases hs with ⟨_, hs⟩ | ⟨_, h1, h2⟩
    · exact absurd hin (hs _)
    · have := h2 _ hin
      have := hall _ h1
      show s.1 = mvOf gap (belP (kidsOf t) (wOf t) gap m k j) (SK t m gap c)
      omega

theorem AX_bd (h : Dw t m gap) {q : Nat} {v : Int} (hv : v ∈ lev (kidsOf t) q) : -2000000 ≤ AX t m gap v ∧ AX t m gap v ≤ 2000000 := (AX_dr h).2 q v hv

/-- What the document makes of a node. -/
noncomputable def DXm (t : List Branch) (m : Nat) (gap : Int) (k : Int) : GMap Int Int := gm (sub (kidsOf t) k) (fun v => AX t m gap v - SH t m gap k)
noncomputable def DLm (t : List Branch) (k : Int) : GMap Int Int := gm (sub (kidsOf t) k) (fun v => (LV (kidsOf t) v : Int) - LV (kidsOf t) k)

theorem lev_le_m (h : Dw t m gap) {q : Nat} {v : Int} (hv : v ∈ lev (kidsOf t) q) : q < m ∧ m ≤ 300 := by
  have := h.ok.m2
  have := h.ok.len
  refine ⟨?_, by omega⟩
  rcases Nat.lt_or_ge q m with h5 | h5
  · exact h5
  · have := lev_nil h.ok.nil (q - m)
    rw [show m + (q - m) = q by omega] at this
    rw [this] at hv; cases hv

/-- One node of the next branch against all of the first ones. -/
theorem drawing_L3s (h : Dw t m gap) {i : Nat} {k : Int} (hi : i < m) (hk : k ∈ lev (kidsOf t) i) {j : Nat} (hj : j < (kidsOf t k).length) {x : List Branch × Int × Int} (hx : x = (t, k, gap)) {i0 : Int} {lm : GMap Int Int}
    (hlm : lm = gm (fun v => XJ t k j v ∨ v = k) (fun v => (LV (kidsOf t) v : Int) - LV (kidsOf t) k)) {v : Int} (hv : sub (kidsOf t) (gx (kidsOf t k) (j : Int)) v) {S : Int → Prop} {s : Int × Bool} (hs : Mx S s) :
    ∃ s', mrange (gm (XJ t k j) (fun v => AX t m gap v - SH t m gap k)) (ref_drawing_L3 x (⟨DXm t m gap (gx (kidsOf t k) (j : Int)), DLm t (gx (kidsOf t k) (j : Int))⟩ : Ref_drawn) (i0, (gm (XJ t k j) (fun v => AX t m gap v - SH t m gap k), lm)) (v, AX t m gap v - SH t m gap (gx (kidsOf t k) (j : Int)))) (s.1, s.2) = some s' ∧
      Mx (fun x => S x ∨ ∃ u, XJ t k j u ∧ LV (kidsOf t) v = LV (kidsOf t) u ∧ x = AX t m gap u - SH t m gap k + wOf t u + gap - (AX t m gap v - SH t m gap (gx (kidsOf t k) (j : Int)))) s' := by
  have hc : gx (kidsOf t k) (j : Int) ∈ kidsOf t k := gx_mem ⟨by omega, by omega⟩
  have hcl := kid_lt h hk hc
  generalize gx (kidsOf t k) (j : Int) = c at *
  obtain ⟨r, a1, a2, a3⟩ := sub_lev h hcl.1 hv
  have b1 := AX_bd h a2
  have b2 := SH_bd h hk
  have b3 := SH_bd h hcl.1
  have hLk := h.ok.fo.LV_eq hk
  have hLc := h.ok.fo.LV_eq hcl.1
  have hg0 := h.g0
  have hg1 := h.g1
  have m3 := lev_le_m h a2
  refine mrange_uni (gm_lists (n := t.length) fun u hu => by
    obtain ⟨r, _, h2, _⟩ := XJ_lev h hk hu
    exact h.ok.fo.lev_in h2) _ (fun l hl => ?_) (fun s s' h1 h2 => h1.uni h2)
  obtain ⟨s', h1, h2⟩ := mfold_inv (step := ref_drawing_L3 x (⟨DXm t m gap c, DLm t c⟩ : Ref_drawn) (i0, (gm (XJ t k j) (fun v => AX t m gap v - SH t m gap k), lm)) (v, AX t m gap v - SH t m gap c)) (s0 := (s.1, s.2))
    (fun p s => Mx (fun x => S x ∨ ∃ e ∈ p, LV (kidsOf t) v = LV (kidsOf t) e.1 ∧ x = e.2 + wOf t e.1 + gap - (AX t m gap v - SH t m gap c)) s) (hs.congr fun x => by simp) l (fun p e s he hI => by
      obtain ⟨e1, e2⟩ := (gm_mem hl).1 he
      obtain ⟨r', c1, c2, c3⟩ := XJ_lev h hk e1
      have d1 := AX_bd h c2
      have e2 : e.2 = AX t m gap e.1 - SH t m gap k := e2
      have hr := h.ok.fo.lev_in c2
      have hw := h.ok.w hr.1 hr.2
      have hL1 : (DLm t c).getD v 0 = (LV (kidsOf t) v : Int) - LV (kidsOf t) c := gm_getD hv
      have hL2 : lm.getD e.1 0 = (LV (kidsOf t) e.1 : Int) - LV (kidsOf t) k := by rw [hlm]; exact gm_getD (.inl e1)
      have m4 := lev_le_m h c2
      unfold ref_drawing_L3
      simp only [hL1, hL2]
      rw [Wk (by omega) (by omega)]
      by_cases hl' : LV (kidsOf t) v = LV (kidsOf t) e.1
      · have e3 : decide ((LV (kidsOf t) v : Int) - LV (kidsOf t) c + 1 = (LV (kidsOf t) e.1 : Int) - LV (kidsOf t) k) = true := by
          rw [decide_eq_true_eq]; omega
        rw [e3]
        simp only [cond_true]
        rw [need_of (by rw [hx]; exact ⟨hr.1, hr.2⟩)]
        have hwe : (gx x.1 e.1).W_ = wOf t e.1 := by rw [hx]
        have hge : x.2.2 = gap := by rw [hx]
        rw [hwe, hge, Wk (n := e.2 + wOf t e.1) (by omega) (by omega), Wk (n := e.2 + wOf t e.1 + gap) (by omega) (by omega), Wk (by omega) (by omega)]
        simp only [bnd_eq]
        have ha := hI.add (e.2 + wOf t e.1 + gap - (AX t m gap v - SH t m gap c))
        refine ⟨_, ?_, ha.congr fun y => ?_⟩
        · cases (!s.2 || decide (s.1 < e.2 + wOf t e.1 + gap - (AX t m gap v - SH t m gap c))) <;> rfl
        · constructor
          · rintro ((h1 | ⟨e', he', h2⟩) | h1)
            · exact .inl h1
            · exact .inr ⟨e', List.mem_append_left _ he', h2⟩
            · exact .inr ⟨e, by simp, hl', h1⟩
          · rintro (h1 | ⟨e', he', h2, h3⟩)
            · exact .inl (.inl h1)
            · rcases List.mem_append.1 he' with he' | he'
              · exact .inl (.inr ⟨e', he', h2, h3⟩)
              · simp at he'; subst he'; exact .inr h3
      · have e3 : decide ((LV (kidsOf t) v : Int) - LV (kidsOf t) c + 1 = (LV (kidsOf t) e.1 : Int) - LV (kidsOf t) k) = false := by
          rw [decide_eq_false_iff_not]; omega
        rw [e3]
        simp only [cond_false]
        refine ⟨_, rfl, hI.congr fun y => ?_⟩
        constructor
        · rintro (h1 | ⟨e', he', h2⟩)
          · exact .inl h1
          · exact .inr ⟨e', List.mem_append_left _ he', h2⟩
        · rintro (h1 | ⟨e', he', h2, h3⟩)
          · exact .inl h1
          · rcases List.mem_append.1 he' with he' | he'
            · exact .inr ⟨e', he', h2, h3⟩
            · simp at he'; subst he'; exact absurd h2 hl')
  refine ⟨s', h1, h2.congr fun y => ?_⟩
  constructor
  · rintro (h3 | ⟨e, he, h4, h5⟩)
    · exact .inl h3
    · obtain ⟨e1, e2⟩ := (gm_mem hl).1 he
      exact .inr ⟨e.1, e1, h4, by rw [h5, e2]⟩
  · rintro (h3 | ⟨u, hu, h4, h5⟩)
    · exact .inl h3
    · exact .inr ⟨(u, AX t m gap u - SH t m gap k), (gm_mem hl).2 ⟨hu, rfl⟩, h4, h5⟩
end
end Go.DB
