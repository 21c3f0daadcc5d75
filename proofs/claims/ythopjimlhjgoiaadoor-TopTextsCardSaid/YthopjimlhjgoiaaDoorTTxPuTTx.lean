/-
  A text that fits into a shape lies within it: the law.
-/
import Derived.Test.YthopjimlhjgoiaaDoorTTxPuFit
set_option linter.unusedSimpArgs false
set_option linter.unusedVariables false
namespace Go.DB
open Go Go.RowKit

/-! No way to divide has fewer lines. -/

/-- The greedy way at w' has no more lines than at w, where w's lines all fit into w'. -/
theorem greedy {f : Font} (hf : okF f) {w w' : Int} : ∀ (ws : List (List UInt8)) (a b : List (List UInt8) × List UInt8), (∀ x ∈ ws, mw f x ≤ w) → (∀ x ∈ ws, mw f x ≤ w') → (∀ x ∈ ws, x ≠ []) →
    (∀ l ∈ (ws.foldl (stepW f w) a).1 ++ [(ws.foldl (stepW f w) a).2], mw f l ≤ w') → (a.2 = [] ↔ b.2 = []) →
    (b.1.length < a.1.length ∨ b.1.length = a.1.length ∧ mw f b.2 ≤ mw f a.2) → (ws.foldl (stepW f w') b).1.length ≤ (ws.foldl (stepW f w) a).1.length
  | [], a, b, _, _, _, _, _, h => by
    simp only [List.foldl_nil]; omega
  | x :: ws, a, b, hx, hx', hne, hl, he, h => by
    rw [List.foldl_cons] at hl ⊢
    rw [List.foldl_cons]
    have hN : 1 ≤ f.Normal := by unfold okF at hf; omega
    have hxw := hx x (by simp)
    have hxw' := hx' x (by simp)
    have hxn := hne x (by simp)
    have c1 : cutAll f w x = ([], x) := cutAll_no (fun q => by omega)
    have c2 : cutAll f w' x = ([], x) := cutAll_no (fun q => by omega)
    -- what stands in the line at w is no wider than w'
    have hin : mw f (stepW f w a x).2 ≤ w' := by
      have key : ∀ (vs : List (List UInt8)) (st : List (List UInt8) × List UInt8), (∀ v ∈ vs, mw f v ≤ w) → (∀ l ∈ (vs.foldl (stepW f w) st).1 ++ [(vs.foldl (stepW f w) st).2], mw f l ≤ w') → mw f st.2 ≤ w' := by
        intro vs
        induction vs with
        | nil => intro st _ hs; exact hs st.2 (by simp)
        | cons v vs ih =>
          intro st hv hs
          rw [List.foldl_cons] at hs
          have h2 := ih (stepW f w st v) (fun y hy => hv y (by simp [hy])) hs
          have hvb := mw_bd hf v
          by_cases q : st.2 ≠ [] ∧ mw f st.2 + f.Normal + mw f v ≤ w
          · have : (stepW f w st v).2 = st.2 ++ 32 :: v := by unfold stepW; rw [if_pos q]
            rw [this, mw_space] at h2; omega
          · by_cases e : st.2 = []
            · rw [e, mw_nil]
              have : 0 ≤ w' := by have := mw_bd hf (stepW f w st v).2; omega
              exact this
            · have hm : st.2 ∈ (stepW f w st v).1 := by
                unfold stepW
                rw [if_neg q, if_pos e]; simp
              have keep : ∀ (us : List (List UInt8)) (s : List (List UInt8) × List UInt8) (l : List UInt8), l ∈ s.1 → l ∈ (us.foldl (stepW f w) s).1 := by
                intro us
                induction us with
                | nil => intro s l hl; exact hl
                | cons u us ih2 =>
                  intro s l hl
                  rw [List.foldl_cons]
                  refine ih2 _ _ ?_
                  unfold stepW
                  split
                  · exact hl
                  · refine List.mem_append_left _ ?_
                    split
                    · exact List.mem_append_left _ hl
                    · exact hl
              exact hs st.2 (List.mem_append_left _ (keep vs _ _ hm))
      exact key ws _ (fun y hy => hx y (by simp [hy])) hl
    have sa := (stepW_bd (f := f) (width := w) (st := a) hxn).2.2
    have sb := (stepW_bd (f := f) (width := w') (st := b) hxn).2.2
    refine greedy hf ws _ _ (fun y hy => hx y (by simp [hy])) (fun y hy => hx' y (by simp [hy])) (fun y hy => hne y (by simp [hy])) hl ⟨fun q => absurd q sa, fun q => absurd q sb⟩ ?_
    have hxb := mw_bd hf x
    have hab := mw_bd hf a.2
    have hbb := mw_bd hf b.2
    by_cases qa : a.2 ≠ [] ∧ mw f a.2 + f.Normal + mw f x ≤ w
    · have ea : stepW f w a x = (a.1, a.2 ++ 32 :: x) := by unfold stepW; rw [if_pos qa]
      have hbn : b.2 ≠ [] := fun q => qa.1 (he.2 q)
      rw [ea] at hin ⊢
      rw [mw_space] at hin
      by_cases qb : mw f b.2 + f.Normal + mw f x ≤ w'
      · have eb : stepW f w' b x = (b.1, b.2 ++ 32 :: x) := by unfold stepW; rw [if_pos ⟨hbn, qb⟩]
        rw [eb]
        simp only [mw_space]; omega
      · have eb : stepW f w' b x = (b.1 ++ [b.2], x) := by unfold stepW; rw [if_neg (fun q => qb q.2), if_pos hbn, c2]; simp
        rw [eb]
        simp only [mw_space, List.length_append, List.length_singleton]; omega
    · by_cases ean : a.2 = []
      · have ebn := he.1 ean
        have ea : stepW f w a x = (a.1, x) := by unfold stepW; rw [if_neg qa, if_neg (by simpa using ean), c1]; simp
        have eb : stepW f w' b x = (b.1, x) := by unfold stepW; rw [if_neg (fun q => q.1 ebn), if_neg (by simpa using ebn), c2]; simp
        rw [ea, eb]; simp only; omega
      · have hbn : b.2 ≠ [] := fun q => ean (he.2 q)
        have ea : stepW f w a x = (a.1 ++ [a.2], x) := by unfold stepW; rw [if_neg qa, if_pos ean, c1]; simp
        rw [ea]
        by_cases qb : mw f b.2 + f.Normal + mw f x ≤ w'
        · have eb : stepW f w' b x = (b.1, b.2 ++ 32 :: x) := by unfold stepW; rw [if_pos ⟨hbn, qb⟩]
          rw [eb]
          simp only [List.length_append, List.length_singleton]; omega
        · have eb : stepW f w' b x = (b.1 ++ [b.2], x) := by unfold stepW; rw [if_neg (fun q => qb q.2), if_pos hbn, c2]; simp
          rw [eb]
          simp only [List.length_append, List.length_singleton]; omega
/-- Each word stands in a line. -/
theorem word_line {f : Font} (hf : okF f) {w : Int} : ∀ (ws : List (List UInt8)) (st : List (List UInt8) × List UInt8) (B : Int), (∀ x ∈ ws, mw f x ≤ w) → (∀ l ∈ (ws.foldl (stepW f w) st).1 ++ [(ws.foldl (stepW f w) st).2], mw f l ≤ B) → mw f st.2 ≤ B ∧ ∀ x ∈ ws, mw f x ≤ B
  | [], st, B, _, h => ⟨h st.2 (by simp), by simp⟩
  | x :: ws, st, B, hx, h => by
    rw [List.foldl_cons] at h
    obtain ⟨h1, h2⟩ := word_line hf ws _ B (fun y hy => hx y (by simp [hy])) h
    have hxw := hx x (by simp)
    have c1 : cutAll f w x = ([], x) := cutAll_no (fun q => by omega)
    have hN : 1 ≤ f.Normal := by unfold okF at hf; omega
    have hxb := mw_bd hf x
    have hsb := mw_bd hf st.2
    by_cases q : st.2 ≠ [] ∧ mw f st.2 + f.Normal + mw f x ≤ w
    · have : (stepW f w st x).2 = st.2 ++ 32 :: x := by unfold stepW; rw [if_pos q]
      rw [this, mw_space] at h1
      exact ⟨by omega, fun y hy => by
        rcases List.mem_cons.1 hy with rfl | hy
        · omega
        · exact h2 y hy⟩
    · have e2 : (stepW f w st x).2 = x := by unfold stepW; rw [if_neg q, c1]
      rw [e2] at h1
      refine ⟨?_, fun y hy => by
        rcases List.mem_cons.1 hy with rfl | hy
        · exact h1
        · exact h2 y hy⟩
      by_cases e : st.2 = []
      · rw [e, mw_nil]; omega
      · have hm : st.2 ∈ (stepW f w st x).1 := by
          unfold stepW
          rw [if_neg q, if_pos e]; simp
        have keep : ∀ (us : List (List UInt8)) (s : List (List UInt8) × List UInt8) (l : List UInt8), l ∈ s.1 → l ∈ (us.foldl (stepW f w) s).1 := by
          intro us
          induction us with
          | nil => intro s l hl; exact hl
          | cons u us ih2 =>
            intro s l hl
            rw [List.foldl_cons]
            refine ih2 _ _ ?_
            unfold stepW
            split
            · exact hl
            · refine List.mem_append_left _ ?_
              split
              · exact List.mem_append_left _ hl
              · exact hl
        exact h st.2 (List.mem_append_left _ (keep ws _ _ hm))
/-- At a width that the widest line has, there are no more lines, and none is too wide. -/
theorem wrap_less {f : Font} (hf : okF f) {t : List UInt8} {w w' : Int} (hl : leastB f t ≤ w) (h : fA f t w ≤ w') : (wrapB f w' t).length ≤ (wrapB f w t).length ∧ wmax f (wrapB f w' t) ≤ w' := by
  obtain ⟨h1, h2⟩ := least_le.1 hl
  have hw1 : 1 ≤ w' := by unfold fA at h; omega
  have hlines : ∀ p ∈ pieces 10 t, ∀ l ∈ partB f w p, mw f l ≤ w' := fun p hp l hm => by
    have : mw f l ≤ wmax f (wrapB f w t) := wmax_mem (List.mem_flatMap.2 ⟨p, hp, hm⟩)
    unfold fA at h; omega
  have hwords : ∀ p ∈ pieces 10 t, ∀ x ∈ wordsB p, mw f x ≤ w' := fun p hp => (word_line hf (w := w) (wordsB p) ([], []) w' (h2 p hp) (hlines p hp)).2
  constructor
  · have hp : ∀ p ∈ pieces 10 t, (partB f w' p).length ≤ (partB f w p).length := by
      intro p hp
      have := greedy hf (wordsB p) ([], []) ([], []) (h2 p hp) (hwords p hp) (fun x hx => words_ne hx) (hlines p hp) Iff.rfl (.inr ⟨rfl, Int.le_refl _⟩)
      unfold partB foldW
      simp only [List.length_append, List.length_singleton]; omega
    unfold wrapB
    generalize pieces 10 t = ps at hp
    clear hlines hwords h2
    induction ps with
    | nil => exact Nat.le_refl _
    | cons p ps ih =>
      have a := hp p (by simp)
      have b := ih (fun q hq => hp q (by simp [hq]))
      rw [List.flatMap_cons, List.flatMap_cons, List.length_append, List.length_append]; omega
  · exact (wrap_fit hf (least_le.2 ⟨hw1, hwords⟩)).1

theorem TopTexts_true (f : Font) (t : Str) (kind pad most : Int) : top_TopTexts f t kind pad most = some true := by
  unfold top_TopTexts
  obtain ⟨r, hr1, hr2⟩ := Fit_eq f t kind pad most
  rw [hr1, Option.bind_some]
  by_cases h : firstErr [kindErr kind, fontErr f, textErr t, mostErr pad most] = 0
  · rw [if_pos h] at hr2
    have hz := firstErr_zero.1 h
    have hk := hz (kindErr kind) (by simp)
    have hfe := hz (fontErr f) (by simp)
    have hf := fontErr_zero.1 hfe
    have hte := hz (textErr t) (by simp)
    have ht := (textErr_zero.1 hte).1
    obtain ⟨hp, hm⟩ := mostErr_zero.1 (hz (mostErr pad most) (by simp))
    unfold fitIs at hr2
    by_cases c : most < leastB f t.b
    · rw [if_pos c] at hr2; subst hr2; rfl
    · rw [if_neg c] at hr2
      rcases hr2 with ⟨w, h, ⟨⟨g1, g2⟩, ⟨g3, g4⟩, g5, g6, g7, g8⟩, rfl⟩ | ⟨_, rfl⟩
      · -- the text has its place
        obtain ⟨i, hi, s1, s2⟩ := fitR_spec hf ht (most - leastB f t.b).toNat
        rw [show (most - leastB f t.b).toNat + 1 = (most - leastB f t.b + 1).toNat by omega] at s1
        rw [s1] at g5 g7 g8
        simp only at g5 g7 g8
        have hA := fA_bd hf ht (leastB f t.b + i)
        have hB := fB_bd hf ht (leastB f t.b + i)
        have hH := innerH kind 1 w h pad
        have hb : okB ⟨0, 0, w, h⟩ := by unfold okB; simp only; omega
        have hin : ¬ ((innerB kind w h pad).W_ < 1 ∨ (innerB kind w h pad).H < 1) := by omega
        have hie : innerErr kind ⟨0, 0, w, h⟩ pad = 0 := by
          unfold innerErr
          rw [hk, boxErr_zero.2 hb, padErr_zero.2 hp, if_neg hin]; rfl
        have hbd := innerB_bd (kind := kind) (w := w) (h := h) (pad := pad) (by omega) (by omega) hp
        simp only [decide_true, Bool.not_true, cond_false, bnd_eq]
        rw [Lay_eq, Inner_eq, hk, hfe, hte, hie]
        have hae : acrossErr 2 5 = 0 := by decide
        rw [hae]
        simp only [show firstErr [(0 : Int), 0, 0, 0, 0] = 0 from rfl, if_true, Option.bind_some]
        have hn : (innerAt kind ⟨0, 0, w, h⟩ pad).W_ = (innerB kind w h pad).W_ ∧ (innerAt kind ⟨0, 0, w, h⟩ pad).H = (innerB kind w h pad).H ∧ (innerAt kind ⟨0, 0, w, h⟩ pad).X = (innerB kind w h pad).X ∧ (innerAt kind ⟨0, 0, w, h⟩ pad).Y = (innerB kind w h pad).Y := ⟨rfl, rfl, Int.add_zero _, Int.add_zero _⟩
        generalize innerAt kind ⟨0, 0, w, h⟩ pad = n at hn ⊢
        obtain ⟨n1, n2, n3, n4⟩ := hn
        obtain ⟨q1, q2⟩ := wrap_less hf (t := t.b) (w := leastB f t.b + i) (w' := n.W_) (by omega) (by omega)
        have hF : 1 ≤ f.Line ∧ f.Line ≤ 200 := by unfold okF at hf; omega
        have hlen := wrapB_len f n.W_ t.b
        have hpos := wrapB_pos f n.W_ t.b
        have hmem : ∀ x ∈ wrapB f n.W_ t.b, x.length ≤ 1001 := fun x hx => by have := wrapB_mem hx; omega
        have hq : ((wrapB f n.W_ t.b).length : Int) * f.Line ≤ fB f t.b (leastB f t.b + i) := Int.mul_le_mul_of_nonneg_right (by omega) (by omega)
        generalize wrapB f n.W_ t.b = L at q1 q2 hlen hpos hmem hq ⊢
        have hkl : 0 ≤ (L.length : Int) * f.Line ∧ (L.length : Int) * f.Line ≤ 2002 * 200 := ⟨Int.mul_nonneg (by omega) (by omega), Int.mul_le_mul (by omega) (by omega) (by omega) (by omega)⟩
        rw [if_neg (by omega)]
        simp only [decide_true, Bool.not_true, Bool.false_or]
        have hll : (layB f n 2 5 L).length = L.length := by unfold layB; simp
        rw [hll, decide_eq_false (by omega), cond_false]
        -- each line lies within
        obtain ⟨o, k1, k2⟩ := rforE_inv (n := (L.length : Int)) (step := top_TopTexts_L1 (layB f n 2 5 L, 0) (n, 0)) (fin := fun s => (Res.nx s : Res Int Bool)) (s0 := (1 : Int)) (fun i s => 1 ≤ s ∧ s ≤ n.W_) (fun o => ∃ s, o = Res.nx s ∧ 1 ≤ s ∧ s ≤ n.W_) (by omega) ⟨by omega, by omega⟩
          (fun i s hi hI => by
            have hi' : i < L.length := by omega
            left
            unfold top_TopTexts_L1
            simp only
            rw [need_of ⟨by omega, by rw [hll]; omega⟩, gx_nat (by rw [hll]; exact hi')]
            simp only [bnd_eq]
            have hp : (layB f n 2 5 L)[i]'(by rw [hll]; exact hi') = placeB f n 2 5 L.length i L[i] := by unfold layB; simp
            rw [hp]
            unfold placeB
            simp only
            have hmw := mw_bd hf L[i]
            have hml := wmax_mem (f := f) (List.getElem_mem hi')
            have hil : 0 ≤ (i : Int) * f.Line ∧ (i : Int) * f.Line ≤ 2002 * 200 := ⟨Int.mul_nonneg (by omega) (by omega), Int.mul_le_mul (by omega) (by omega) (by omega) (by omega)⟩
            have hil2 : (i : Int) * f.Line + f.Line ≤ (L.length : Int) * f.Line := by
              have : ((i : Int) + 1) * f.Line ≤ (L.length : Int) * f.Line := Int.mul_le_mul_of_nonneg_right (by omega) (by omega)
              rw [Int.add_mul, Int.one_mul] at this; exact this
            have hr1 := restI_bd (s := n.W_ - max (mw f L[i]) 1) (way := 2) (by omega)
            have hr2 := restI_bd (s := n.H - (L.length : Int) * f.Line) (way := 5) (by omega)
            rw [Wk (n := n.X + n.W_) (by omega) (by omega), Wk (n := n.Y + n.H) (by omega) (by omega), Wk (n := n.X + restI (n.W_ - max (mw f L[i]) 1) 2 + max (mw f L[i]) 1) (by omega) (by omega), Wk (n := n.Y + restI (n.H - (L.length : Int) * f.Line) 5 + (i : Int) * f.Line + f.Line) (by omega) (by omega)]
            rw [decide_eq_false (p := n.X + restI (n.W_ - max (mw f L[i]) 1) 2 < n.X) (by omega), decide_eq_false (p := n.Y + restI (n.H - (L.length : Int) * f.Line) 5 + (i : Int) * f.Line < n.Y) (by omega), decide_eq_false (p := n.X + n.W_ < n.X + restI (n.W_ - max (mw f L[i]) 1) 2 + max (mw f L[i]) 1) (by omega), decide_eq_false (p := n.Y + n.H < n.Y + restI (n.H - (L.length : Int) * f.Line) 5 + (i : Int) * f.Line + f.Line) (by omega)]
            exact ⟨_, rfl, by omega, by omega⟩)
          (fun s hs => ⟨s, rfl, hs⟩)
        rw [k1]
        obtain ⟨s, rfl, s3, s4⟩ := k2
        rw [bindR_nx, Wk (n := w - 1) (by omega) (by omega), Inner_eq, Option.bind_some]
        rw [Wk (n := (L.length : Int) * f.Line) (by omega) (by omega), decide_eq_true (p := (L.length : Int) * f.Line ≤ n.H) (by omega)]
        -- it could not be narrower
        have hno : ((((decide (1 < w)) && (decide ((if innerErr kind ⟨0, 0, max (w - 1) 1, h⟩ pad = 0 then (innerAt kind ⟨0, 0, max (w - 1) 1, h⟩ pad, (0 : Int)) else (⟨0, 0, 0, 0⟩, innerErr kind ⟨0, 0, max (w - 1) 1, h⟩ pad)).2 = 0))) && (decide (s ≤ (if innerErr kind ⟨0, 0, max (w - 1) 1, h⟩ pad = 0 then (innerAt kind ⟨0, 0, max (w - 1) 1, h⟩ pad, (0 : Int)) else (⟨0, 0, 0, 0⟩, innerErr kind ⟨0, 0, max (w - 1) 1, h⟩ pad)).1.W_))) && (decide (n.W_ = s))) = false := by
          by_cases hw : 1 < w
          · have h8 := g8 (w - 1) (by omega) (by omega)
            rw [show max (w - 1) 1 = w - 1 by omega]
            by_cases he : innerErr kind ⟨0, 0, w - 1, h⟩ pad = 0
            · rw [if_pos he]
              by_cases hs : n.W_ = s
              · have : decide (s ≤ (innerAt kind ⟨0, 0, w - 1, h⟩ pad).W_) = false := decide_eq_false (by show ¬ s ≤ (innerB kind (w - 1) h pad).W_; omega)
                simp [this]
              · simp [hs]
            · rw [if_neg he]; simp [he]
          · simp [hw]
        rw [hno]; rfl
      · rfl
  · rw [if_neg h] at hr2
    subst hr2
    generalize firstErr [kindErr kind, fontErr f, textErr t, mostErr pad most] = E at h
    simp [h]
end Go.DB
