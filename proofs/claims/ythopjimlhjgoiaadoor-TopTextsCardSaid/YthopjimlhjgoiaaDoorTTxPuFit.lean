/-
  The size of a shape for a text.
-/
import Derived.Test.YthopjimlhjgoiaaDoorTTxPuLay
import Derived.Test.YthopjimlhjgoiaaDoorExCount
set_option linter.unusedSimpArgs false
set_option linter.unusedVariables false
namespace Go.DB
open Go Go.RowKit

theorem loop_steps {τ ρ : Type} {body : τ → Option (Step τ ρ)} (mk : Nat → τ) (a n : Nat) (han : a ≤ n) (hs : ∀ i, a ≤ i → i < n → body (mk i) = some (.again (mk (i + 1)))) : loop body (mk a) = loop body (mk n) := by
  have key : ∀ (k i : Nat), i + k = n → a ≤ i → loop body (mk i) = loop body (mk n) := by
    intro k
    induction k with
    | zero => intro i hi _; rw [show i = n by omega]
    | succ k ih => intro i hi ha; rw [loop_again (hs i ha (by omega))]; exact ih (i + 1) (by omega) (by omega)
  exact key (n - a) a (by omega) (Nat.le_refl _)

/-! The least width at which no word is cut. -/

def leastB (f : Font) (t : List UInt8) : Int := (pieces 10 t).foldl (fun a p => max a (wmax f (wordsB p))) 1
theorem least_le {f : Font} {t : List UInt8} {w : Int} : leastB f t ≤ w ↔ 1 ≤ w ∧ ∀ p ∈ pieces 10 t, ∀ x ∈ wordsB p, mw f x ≤ w := by
  have key : ∀ (ps : List (List UInt8)) (a : Int), ps.foldl (fun a p => max a (wmax f (wordsB p))) a ≤ w ↔ a ≤ w ∧ ∀ p ∈ ps, wmax f (wordsB p) ≤ w := by
    intro ps
    induction ps with
    | nil => intro a; simp
    | cons p ps ih =>
      intro a
      rw [List.foldl_cons, ih]
      simp only [List.mem_cons, forall_eq_or_imp]
      exact ⟨fun h => ⟨by omega, by omega, h.2⟩, fun h => ⟨by omega, h.2.2⟩⟩
  unfold leastB
  rw [key]
  constructor
  · intro h; exact ⟨h.1, fun p hp x hx => (wmax_le (by omega)).1 (h.2 p hp) x hx⟩
  · intro h; exact ⟨h.1, fun p hp => (wmax_le (by omega)).2 (h.2 p hp)⟩
theorem least_pos (f : Font) (t : List UInt8) : 1 ≤ leastB f t := (least_le.1 (Int.le_refl _)).1
theorem mw_nil (f : Font) : mw f [] = 0 := by rw [mw_cw, chunks_nil]; rfl

/-- Where all words fit, no line is too wide. -/
theorem lines_fit {f : Font} (hf : okF f) {w : Int} (hw : 0 ≤ w) : ∀ (ws : List (List UInt8)) (st : List (List UInt8) × List UInt8), (∀ x ∈ ws, mw f x ≤ w) → (∀ l ∈ st.1, mw f l ≤ w) → mw f st.2 ≤ w →
    (∀ l ∈ (ws.foldl (stepW f w) st).1, mw f l ≤ w) ∧ mw f (ws.foldl (stepW f w) st).2 ≤ w
  | [], st, _, h1, h2 => ⟨h1, h2⟩
  | x :: ws, st, hx, h1, h2 => by
    have hxw := hx x (by simp)
    have hc : cutAll f w x = ([], x) := cutAll_no (fun h => by omega)
    rw [List.foldl_cons]
    refine lines_fit hf hw ws _ (fun y hy => hx y (by simp [hy])) ?_ ?_
    · unfold stepW
      split
      · exact h1
      · rw [hc]
        intro l hl
        simp only [List.append_nil] at hl
        split at hl
        · rcases List.mem_append.1 hl with hl | hl
          · exact h1 l hl
          · simp at hl; subst hl; exact h2
        · exact h1 l hl
    · unfold stepW
      split
      · rename_i h; rw [mw_space]; exact h.2
      · rw [hc]; exact hxw
theorem wrap_fit {f : Font} (hf : okF f) {t : List UInt8} {w : Int} (h : leastB f t ≤ w) : wmax f (wrapB f w t) ≤ w ∧ (pieces 10 t).any (cutB f w) = false := by
  obtain ⟨h1, h2⟩ := least_le.1 h
  constructor
  · refine (wmax_le (by omega)).2 (fun l hl => ?_)
    unfold wrapB at hl
    obtain ⟨p, hp, hx⟩ := List.mem_flatMap.1 hl
    obtain ⟨a, b⟩ := lines_fit hf (w := w) (by omega) (wordsB p) ([], []) (h2 p hp) (by simp) (by rw [mw_nil]; omega)
    unfold partB foldW at hx
    rcases List.mem_append.1 hx with hx | hx
    · exact a l hx
    · simp at hx; subst hx; exact b
  · cases hq : (pieces 10 t).any (cutB f w) with
    | false => rfl
    | true =>
      obtain ⟨p, hp, hc⟩ := List.any_eq_true.1 hq
      unfold cutB at hc
      obtain ⟨x, hx, hxc⟩ := List.any_eq_true.1 hc
      have := h2 p hp x hx
      rw [cutAll_no (fun h => by omega)] at hxc
      simp at hxc
/-- Where some word does not fit, a word is cut or a line is too wide. -/
theorem lines_wide {f : Font} (hf : okF f) {w : Int} (hw : 0 ≤ w) : ∀ (ws : List (List UInt8)) (st : List (List UInt8) × List UInt8), (∀ x ∈ ws, cutAll f w x = ([], x)) → ((∃ l ∈ st.1 ++ [st.2], w < mw f l) ∨ ∃ x ∈ ws, w < mw f x) →
    ∃ l ∈ (ws.foldl (stepW f w) st).1 ++ [(ws.foldl (stepW f w) st).2], w < mw f l
  | [], st, _, h => by
    rcases h with h | ⟨x, hx, _⟩
    · exact h
    · simp at hx
  | x :: ws, st, hc, h => by
    rw [List.foldl_cons]
    refine lines_wide hf hw ws _ (fun y hy => hc y (by simp [hy])) ?_
    have hcx := hc x (by simp)
    have hN : 1 ≤ f.Normal := by unfold okF at hf; omega
    have hxb := mw_bd hf x
    have hlb := mw_bd hf st.2
    rcases h with ⟨l, hl, hlw⟩ | ⟨y, hy, hyw⟩
    · left
      rcases List.mem_append.1 hl with hl | hl
      · refine ⟨l, List.mem_append_left _ ?_, hlw⟩
        unfold stepW
        split
        · exact hl
        · refine List.mem_append_left _ ?_
          split
          · exact List.mem_append_left _ hl
          · exact hl
      · simp at hl; subst hl
        have hne : st.2 ≠ [] := fun e => by rw [e, mw_nil] at hlw; omega
        refine ⟨st.2, List.mem_append_left _ ?_, hlw⟩
        unfold stepW
        rw [if_neg (fun q => by omega), if_pos hne]
        exact List.mem_append_left _ (by simp)
    · rcases List.mem_cons.1 hy with rfl | hy
      · left
        refine ⟨y, List.mem_append_right _ ?_, hyw⟩
        unfold stepW
        rw [if_neg (fun q => by omega), hcx]
        simp
      · right; exact ⟨y, hy, hyw⟩
theorem wrap_wide {f : Font} (hf : okF f) {t : List UInt8} {w : Int} (hw : 1 ≤ w) (h : w < leastB f t) : (pieces 10 t).any (cutB f w) = true ∨ w < wmax f (wrapB f w t) := by
  rcases Bool.eq_false_or_eq_true ((pieces 10 t).any (cutB f w)) with hq | hq
  · exact .inl hq
  · right
    have hno : ∀ p ∈ pieces 10 t, ∀ x ∈ wordsB p, cutAll f w x = ([], x) := by
      intro p hp x hx
      have h1 : ¬ cutB f w p = true := fun e => by
        have := List.any_eq_true.2 ⟨p, hp, e⟩
        rw [hq] at this; cases this
      by_cases c : w < mw f x ∧ 2 ≤ (chunks x).length
      · exfalso
        refine h1 (List.any_eq_true.2 ⟨x, hx, ?_⟩)
        rw [cutAll_yes c]; rfl
      · exact cutAll_no c
    have : ¬ (∀ p ∈ pieces 10 t, ∀ x ∈ wordsB p, mw f x ≤ w) := fun q => by have := least_le.2 ⟨hw, q⟩; omega
    have hex : ∃ p ∈ pieces 10 t, ∃ x ∈ wordsB p, w < mw f x := Classical.byContradiction (fun q => this (fun p hp x hx => by
      rcases Int.lt_or_le w (mw f x) with c | c
      · exact absurd ⟨p, hp, x, hx, c⟩ q
      · exact c))
    obtain ⟨p, hp, x, hx, hxw⟩ := hex
    obtain ⟨l, hl, hlw⟩ := lines_wide hf (w := w) (by omega) (wordsB p) ([], []) (hno p hp) (.inr ⟨x, hx, hxw⟩)
    have : l ∈ wrapB f w t := List.mem_flatMap.2 ⟨p, hp, hl⟩
    have := wmax_mem (f := f) this
    omega

/-! Where each part has one line, a greater width turns nothing. -/

theorem stepW_mono {f : Font} {w : Int} {st : List (List UInt8) × List UInt8} {x : List UInt8} : st.1.length ≤ (stepW f w st x).1.length := by
  unfold stepW
  split
  · exact Nat.le_refl _
  · simp only [List.length_append]; split <;> (try simp only [List.length_append]) <;> omega
theorem fold_mono {f : Font} {w : Int} : ∀ (ws : List (List UInt8)) (st : List (List UInt8) × List UInt8), st.1.length ≤ (ws.foldl (stepW f w) st).1.length
  | [], st => Nat.le_refl _
  | x :: ws, st => by rw [List.foldl_cons]; exact Nat.le_trans stepW_mono (fold_mono ws _)
theorem fold_same {f : Font} {w w' : Int} (hww : w ≤ w') : ∀ (ws : List (List UInt8)) (st : List (List UInt8) × List UInt8), (∀ x ∈ ws, mw f x ≤ w) → (ws.foldl (stepW f w) st).1.length = st.1.length →
    ws.foldl (stepW f w') st = ws.foldl (stepW f w) st
  | [], st, _, _ => rfl
  | x :: ws, st, hx, h => by
    rw [List.foldl_cons] at h
    have hxw := hx x (by simp)
    have hm := fold_mono (f := f) (w := w) ws (stepW f w st x)
    have hm2 := stepW_mono (f := f) (w := w) (st := st) (x := x)
    have he : stepW f w' st x = stepW f w st x := by
      have c1 : cutAll f w x = ([], x) := cutAll_no (fun q => by omega)
      have c2 : cutAll f w' x = ([], x) := cutAll_no (fun q => by omega)
      unfold stepW
      by_cases c : st.2 ≠ [] ∧ mw f st.2 + f.Normal + mw f x ≤ w
      · rw [if_pos c, if_pos ⟨c.1, by omega⟩]
      · by_cases e : st.2 = []
        · rw [if_neg c, if_neg (fun q => q.1 e), c1, c2]
        · exfalso
          have : (stepW f w st x).1.length = st.1.length + 1 := by
            unfold stepW
            rw [if_neg c, if_pos e, c1]; simp
          omega
    rw [List.foldl_cons, List.foldl_cons, he]
    exact fold_same hww ws _ (fun y hy => hx y (by simp [hy])) (by omega)
theorem wrap_same {f : Font} {t : List UInt8} {w w' : Int} (hl : leastB f t ≤ w) (hww : w ≤ w') (h : (wrapB f w t).length = (pieces 10 t).length) : wrapB f w' t = wrapB f w t := by
  obtain ⟨h1, h2⟩ := least_le.1 hl
  have one : ∀ ps : List (List UInt8), (ps.flatMap (partB f w)).length = ps.length → ∀ p ∈ ps, (partB f w p).length = 1 := by
    intro ps
    have ge : ∀ qs : List (List UInt8), qs.length ≤ (qs.flatMap (partB f w)).length := by
      intro qs
      induction qs with
      | nil => exact Nat.le_refl _
      | cons q qs ih =>
        have := partB_pos f w q
        rw [List.flatMap_cons, List.length_append, List.length_cons]; omega
    induction ps with
    | nil => intro _ p hp; simp at hp
    | cons q qs ih =>
      intro hq p hp
      have h3 := partB_pos f w q
      have h4 := ge qs
      rw [List.flatMap_cons, List.length_append, List.length_cons] at hq
      rcases List.mem_cons.1 hp with rfl | hp
      · omega
      · exact ih (by omega) p hp
  unfold wrapB at h ⊢
  have ho := one _ h
  have hp : ∀ p ∈ pieces 10 t, partB f w' p = partB f w p := by
    intro p hp
    have h5 := ho p hp
    unfold partB foldW at h5 ⊢
    rw [List.length_append] at h5
    rw [fold_same hww (wordsB p) ([], []) (h2 p hp) (by simp at h5 ⊢; exact h5)]
  generalize pieces 10 t = ps at hp
  clear h ho h2 one hl
  induction ps with
  | nil => rfl
  | cons p ps ih => rw [List.flatMap_cons, List.flatMap_cons, hp p (by simp), ih (fun q hq => hp q (by simp [hq]))]

/-! The best width. -/

def fA (f : Font) (t : List UInt8) (w : Int) : Int := max (wmax f (wrapB f w t)) 1
def fB (f : Font) (t : List UInt8) (w : Int) : Int := (wrapB f w t).length * f.Line
def fitU (f : Font) (t : List UInt8) (w : Int) (st : Int × Int × Int) : Int × Int × Int := if st.2.2 < 0 ∨ fA f t w + fB f t w < st.2.2 then (fA f t w, fB f t w, fA f t w + fB f t w) else st
def fitR (f : Font) (t : List UInt8) : Nat → Int × Int × Int
  | 0 => (0, 0, -1)
  | n + 1 => fitU f t (leastB f t + n) (fitR f t n)
theorem fA_bd {f : Font} (hf : okF f) {t : List UInt8} (ht : t.length ≤ 1000) (w : Int) : 1 ≤ fA f t w ∧ fA f t w ≤ 300000 := by
  have : wmax f (wrapB f w t) ≤ 300000 := (wmax_le (by decide)).2 (fun l hl => by have h1 := wrapB_mem hl; have h2 := mw_bd hf l; omega)
  unfold fA; omega
theorem fB_bd {f : Font} (hf : okF f) {t : List UInt8} (ht : t.length ≤ 1000) (w : Int) : 1 ≤ fB f t w ∧ fB f t w ≤ 2002 * 200 := by
  have h1 := wrapB_len f w t
  have h2 := wrapB_pos f w t
  have hF : 1 ≤ f.Line ∧ f.Line ≤ 200 := by unfold okF at hf; omega
  unfold fB
  refine ⟨?_, Int.mul_le_mul (by omega) (by omega) (by omega) (by omega)⟩
  have : (1 : Int) * 1 ≤ ((wrapB f w t).length : Int) * f.Line := Int.mul_le_mul (by omega) (by omega) (by omega) (by omega)
  omega
theorem fitR_spec {f : Font} (hf : okF f) {t : List UInt8} (ht : t.length ≤ 1000) : ∀ n, ∃ i, i ≤ n ∧ fitR f t (n + 1) = (fA f t (leastB f t + i), fB f t (leastB f t + i), fA f t (leastB f t + i) + fB f t (leastB f t + i)) ∧ (fitR f t (n + 1)).2.2 ≤ fA f t (leastB f t + n) + fB f t (leastB f t + n)
  | 0 => ⟨0, Nat.le_refl _, by simp [fitR, fitU], by simp [fitR, fitU]⟩
  | n + 1 => by
    obtain ⟨i, hi, h1, h2⟩ := fitR_spec hf ht n
    have hA := fA_bd hf ht (leastB f t + i)
    have hB := fB_bd hf ht (leastB f t + i)
    rw [show fitR f t (n + 1 + 1) = fitU f t (leastB f t + ((n + 1 : Nat) : Int)) (fitR f t (n + 1)) from rfl]
    unfold fitU
    by_cases c : (fitR f t (n + 1)).2.2 < 0 ∨ fA f t (leastB f t + ((n + 1 : Nat) : Int)) + fB f t (leastB f t + ((n + 1 : Nat) : Int)) < (fitR f t (n + 1)).2.2
    · rw [if_pos c]
      exact ⟨n + 1, Nat.le_refl _, rfl, Int.le_refl _⟩
    · rw [if_neg c]
      exact ⟨i, by omega, h1, by omega⟩
theorem fitR_stays {f : Font} (hf : okF f) {t : List UInt8} (ht : t.length ≤ 1000) {n : Nat} (h : (wrapB f (leastB f t + n) t).length = (pieces 10 t).length) : ∀ k, fitR f t (n + 1 + k) = fitR f t (n + 1)
  | 0 => rfl
  | k + 1 => by
    have ih := fitR_stays hf ht h k
    obtain ⟨i, hi, h1, h2⟩ := fitR_spec hf ht n
    have hA := fA_bd hf ht (leastB f t + i)
    have hB := fB_bd hf ht (leastB f t + i)
    have hs : wrapB f (leastB f t + ((n + 1 + k : Nat) : Int)) t = wrapB f (leastB f t + n) t := wrap_same (by omega) (by omega) h
    rw [show fitR f t (n + 1 + (k + 1)) = fitU f t (leastB f t + ((n + 1 + k : Nat) : Int)) (fitR f t (n + 1 + k)) from rfl, ih]
    unfold fitU
    have eA : fA f t (leastB f t + ((n + 1 + k : Nat) : Int)) = fA f t (leastB f t + n) := by unfold fA; rw [hs]
    have eB : fB f t (leastB f t + ((n + 1 + k : Nat) : Int)) = fB f t (leastB f t + n) := by unfold fB; rw [hs]
    rw [eA, eB, if_neg]
    have : 0 ≤ (fitR f t (n + 1)).2.2 := by rw [h1]; simp only; omega
    omega

/-! The size. -/

def goodWH (kind pad wide high w h : Int) : Prop := (1 ≤ w ∧ w ≤ 20000) ∧ (1 ≤ h ∧ h ≤ 20000) ∧ high ≤ (innerB kind 1 h pad).H ∧ (∀ j, 1 ≤ j → j < h → (innerB kind 1 j pad).H < high) ∧ wide ≤ (innerB kind w h pad).W_ ∧ ∀ j, 1 ≤ j → j < w → (innerB kind j h pad).W_ < wide
theorem good_one {kind pad wide high w h w' h' : Int} (a : goodWH kind pad wide high w h) (b : goodWH kind pad wide high w' h') : w = w' ∧ h = h' := by
  obtain ⟨⟨a1, a2⟩, ⟨a3, a4⟩, a5, a6, a7, a8⟩ := a
  obtain ⟨⟨b1, b2⟩, ⟨b3, b4⟩, b5, b6, b7, b8⟩ := b
  have hh : h = h' := by
    rcases Int.lt_trichotomy h h' with c | c | c
    · have := b6 h a3 c; omega
    · exact c
    · have := a6 h' b3 c; omega
  subst hh
  refine ⟨?_, rfl⟩
  rcases Int.lt_trichotomy w w' with c | c | c
  · have := b8 w a1 c; omega
  · exact c
  · have := a8 w' b1 c; omega
def sizeIs (kind pad wide high : Int) (r : Int × Int × Int) : Prop := (∃ w h, goodWH kind pad wide high w h ∧ r = (w, h, 0)) ∨ ((¬ ∃ w h, goodWH kind pad wide high w h) ∧ r = (0, 0, 4))
theorem size_one {kind pad wide high : Int} {r r' : Int × Int × Int} (a : sizeIs kind pad wide high r) (b : sizeIs kind pad wide high r') : r = r' := by
  rcases a with ⟨w, h, a1, rfl⟩ | ⟨a1, rfl⟩ <;> rcases b with ⟨w', h', b1, rfl⟩ | ⟨b1, rfl⟩
  · obtain ⟨rfl, rfl⟩ := good_one a1 b1; rfl
  · exact absurd ⟨w, h, a1⟩ b1
  · exact absurd ⟨w', h', b1⟩ a1
  · rfl
theorem innerH (kind w w' h pad : Int) : (innerB kind w h pad).H = (innerB kind w' h pad).H := by
  unfold innerB
  repeat' split
  all_goals rfl
def fitIs (f : Font) (t : List UInt8) (kind pad most : Int) (r : Int × Int × Int) : Prop :=
  if most < leastB f t then r = (0, 0, 14) else sizeIs kind pad (fitR f t (most - leastB f t + 1).toNat).1 (fitR f t (most - leastB f t + 1).toNat).2.1 r
theorem fitIs_one {f : Font} {t : List UInt8} {kind pad most : Int} {r r' : Int × Int × Int} (a : fitIs f t kind pad most r) (b : fitIs f t kind pad most r') : r = r' := by
  unfold fitIs at a b
  by_cases c : most < leastB f t
  · rw [if_pos c] at a b; rw [a, b]
  · rw [if_neg c] at a b; exact size_one a b
def mostErr (pad most : Int) : Int := if (0 ≤ pad ∧ pad ≤ 100) ∧ 1 ≤ most ∧ most ≤ 20000 then 0 else 3
theorem mostErr_zero {pad most : Int} : mostErr pad most = 0 ↔ (0 ≤ pad ∧ pad ≤ 100) ∧ 1 ≤ most ∧ most ≤ 20000 := by unfold mostErr; split <;> simp_all
theorem fitLeast {f : Font} (hf : okF f) {t : List UInt8} (ht : t.length ≤ 1000) : rfor (((pieces 10 t).map Str.mk).length : Int) (shape_Fit_L1 f ((pieces 10 t).map Str.mk)) 1 = some (leastB f t) := by
  have htot := tot_pieces 10 t
  have hlen := tot_len (pieces 10 t)
  rw [rfor_fold (l := (pieces 10 t).map Str.mk) (fun a (x : Str) => max a (wmax f (wordsB x.b))) (by simp; omega) (fun i s hi => by
    unfold shape_Fit_L1
    obtain ⟨p, hp, he⟩ := List.mem_map.1 (gx_mem hi)
    have h1 := tot_mem hp
    have h2 := tot_words p
    have h3 := tot_len (wordsB p)
    rw [need_of hi, ← he, wordsOf_eq (by omega), Option.bind_some, widest_eq hf (by omega) (fun x hx => by have := tot_mem hx; omega)]
    rfl)]
  unfold leastB
  rw [List.foldl_map]
theorem fitLoop {f : Font} (hf : okF f) {t : List UInt8} (ht : t.length ≤ 1000) {most : Int} (hm : most ≤ 20000) (hlm : leastB f t ≤ most) :
    loop (shape_Fit_L2 f most ⟨t⟩) (0, 0, (-1), leastB f t) = some ((fitR f t (most - leastB f t + 1).toNat).1, (fitR f t (most - leastB f t + 1).toNat).2.1) := by
  have hlp := least_pos f t
  have hN : ((most - leastB f t + 1).toNat : Int) = most - leastB f t + 1 := by omega
  obtain ⟨e, h1, h2⟩ := loop_nat (body := shape_Fit_L2 f most ⟨t⟩) (fun n => ((fitR f t n).1, (fitR f t n).2.1, (fitR f t n).2.2, leastB f t + n)) (fun e => e = ((fitR f t (most - leastB f t + 1).toNat).1, (fitR f t (most - leastB f t + 1).toNat).2.1)) 0 (most - leastB f t + 1).toNat (Nat.zero_le _)
    (fun i _ hi => by
      unfold shape_Fit_L2
      simp only
      have hw : leastB f t + i ≤ most := by omega
      have hA := fA_bd hf ht (leastB f t + i)
      have hB := fB_bd hf ht (leastB f t + i)
      have hlen := wrapB_len f (leastB f t + i) t
      rw [decide_eq_true hw, cond_true, wrap_eq hf (by omega) (t := t) (by omega), Option.bind_some, widest_eq hf (by omega) (fun x hx => by have := wrapB_mem hx; omega), Option.bind_some]
      simp only [bnd_eq, List.length_map]
      have eB : ((wrapB f (leastB f t + i) t).length : Int) * f.Line = fB f t (leastB f t + i) := rfl
      have eA : max (wmax f (wrapB f (leastB f t + i) t)) 1 = fA f t (leastB f t + i) := rfl
      rw [eB, eA, Wk (n := fB f t (leastB f t + i)) (by omega) (by omega), Wk (n := fA f t (leastB f t + i) + fB f t (leastB f t + i)) (by omega) (by omega)]
      have hstep : ∀ {β : Type} (k : Int × Int × Int → Option β), Option.bind (α := (Int × Int × Int)) (bif (decide ((fitR f t i).2.2 < 0)) || (decide (fA f t (leastB f t + i) + fB f t (leastB f t + i) < (fitR f t i).2.2)) then some (fA f t (leastB f t + i), fB f t (leastB f t + i), fA f t (leastB f t + i) + fB f t (leastB f t + i)) else some ((fitR f t i).1, (fitR f t i).2.1, (fitR f t i).2.2)) k = k (fitR f t (i + 1)) := by
        intro β k
        rw [show fitR f t (i + 1) = fitU f t (leastB f t + i) (fitR f t i) from rfl]
        unfold fitU
        by_cases c : (fitR f t i).2.2 < 0 ∨ fA f t (leastB f t + i) + fB f t (leastB f t + i) < (fitR f t i).2.2
        · rw [if_pos c, show ((decide ((fitR f t i).2.2 < 0)) || (decide (fA f t (leastB f t + i) + fB f t (leastB f t + i) < (fitR f t i).2.2))) = true by simpa using c]; rfl
        · rw [if_neg c, show ((decide ((fitR f t i).2.2 < 0)) || (decide (fA f t (leastB f t + i) + fB f t (leastB f t + i) < (fitR f t i).2.2))) = false by simpa using c]; rfl
      rw [hstep]
      unfold strings_Count
      rw [need_of (show (⟨[10]⟩ : Str).b.length = 1 from rfl), Option.bind_some]
      have hc : countByteS ⟨t⟩ ((⟨[10]⟩ : Str).b.headD 0) = (t.count 10 : Int) := rfl
      have hcl := List.count_le_length (a := (10 : UInt8)) (l := t)
      have hpc := pieces_count 10 t
      rw [hc, Wk (n := (t.count 10 : Int) + 1) (by omega) (by omega)]
      by_cases c : (wrapB f (leastB f t + i) t).length = (pieces 10 t).length
      · right
        rw [decide_eq_true (by omega), cond_true]
        refine ⟨_, rfl, ?_⟩
        have := fitR_stays hf ht c ((most - leastB f t + 1).toNat - (i + 1))
        rw [show i + 1 + ((most - leastB f t + 1).toNat - (i + 1)) = (most - leastB f t + 1).toNat by omega] at this
        rw [this]
      · left
        rw [decide_eq_false (by omega), cond_false, Wk (by omega) (by omega)]
        rw [show leastB f t + (i : Int) + 1 = leastB f t + ((i + 1 : Nat) : Int) by omega])
    (by
      refine ⟨_, ?_, rfl⟩
      unfold shape_Fit_L2
      simp only
      rw [decide_eq_false (by omega)]; rfl)
  have e0 : ((0 : Int), (0 : Int), (-1 : Int), leastB f t) = ((fitR f t 0).1, (fitR f t 0).2.1, (fitR f t 0).2.2, leastB f t + ((0 : Nat) : Int)) := by simp [fitR]
  rw [e0, h1, h2]
theorem fitH {kind pad wide high : Int} (hp : 0 ≤ pad ∧ pad ≤ 100) : ∃ h, loop (shape_Fit_L3 (wide, high) pad kind) 1 = some h ∧ 1 ≤ h ∧ h ≤ 20001 ∧ (h ≤ 20000 → high ≤ (innerB kind 1 h pad).H) ∧ ∀ j, 1 ≤ j → j < h → (innerB kind 1 j pad).H < high := by
  refine loop_inv (fun s => 1 ≤ s ∧ s ≤ 20001 ∧ ∀ j, 1 ≤ j → j < s → (innerB kind 1 j pad).H < high) (fun s => (20001 - s).toNat) _ ⟨by omega, by omega, fun j h1 h2 => by omega⟩ (fun s ⟨h1, h2, h3⟩ => ?_)
  unfold shape_Fit_L3
  simp only [bnd_eq]
  by_cases c : s ≤ 20000
  · rw [decide_eq_true c, gd_true, inner_eq (by omega) (by omega) hp, Option.bind_some, Bool.true_and]
    by_cases q : (innerB kind 1 s pad).H < high
    · left
      rw [decide_eq_true q, cond_true, Wk (by omega) (by omega)]
      refine ⟨_, rfl, ⟨by omega, by omega, fun j a b => ?_⟩, by omega⟩
      rcases Int.lt_or_le j s with d | d
      · exact h3 j a d
      · rw [show j = s by omega]; exact q
    · right
      rw [decide_eq_false q]
      exact ⟨_, rfl, h1, h2, fun _ => by omega, h3⟩
  · right
    rw [decide_eq_false c]
    exact ⟨_, rfl, h1, h2, fun x => absurd x c, h3⟩
theorem fitW {kind pad wide high h : Int} (hp : 0 ≤ pad ∧ pad ≤ 100) (hh : 1 ≤ h ∧ h ≤ 20001) : ∃ w, loop (shape_Fit_L4 (wide, high) h pad kind) 1 = some w ∧ 1 ≤ w ∧ w ≤ 20001 ∧ (w ≤ 20000 → wide ≤ (innerB kind w h pad).W_) ∧ ∀ j, 1 ≤ j → j < w → (innerB kind j h pad).W_ < wide := by
  refine loop_inv (fun s => 1 ≤ s ∧ s ≤ 20001 ∧ ∀ j, 1 ≤ j → j < s → (innerB kind j h pad).W_ < wide) (fun s => (20001 - s).toNat) _ ⟨by omega, by omega, fun j h1 h2 => by omega⟩ (fun s ⟨h1, h2, h3⟩ => ?_)
  unfold shape_Fit_L4
  simp only [bnd_eq]
  by_cases c : s ≤ 20000
  · rw [decide_eq_true c, gd_true, inner_eq (by omega) (by omega) hp, Option.bind_some, Bool.true_and]
    by_cases q : (innerB kind s h pad).W_ < wide
    · left
      rw [decide_eq_true q, cond_true, Wk (by omega) (by omega)]
      refine ⟨_, rfl, ⟨by omega, by omega, fun j a b => ?_⟩, by omega⟩
      rcases Int.lt_or_le j s with d | d
      · exact h3 j a d
      · rw [show j = s by omega]; exact q
    · right
      rw [decide_eq_false q]
      exact ⟨_, rfl, h1, h2, fun _ => by omega, h3⟩
  · right
    rw [decide_eq_false c]
    exact ⟨_, rfl, h1, h2, fun x => absurd x c, h3⟩
theorem Fit_eq (f : Font) (t : Str) (kind pad most : Int) : ∃ r, shape_Fit f t kind pad most = some r ∧ if firstErr [kindErr kind, fontErr f, textErr t, mostErr pad most] = 0 then fitIs f t.b kind pad most r else r = (0, 0, firstErr [kindErr kind, fontErr f, textErr t, mostErr pad most]) := by
  unfold shape_Fit
  rw [isKind_eq, Option.bind_some]
  by_cases h1 : kindErr kind = 0
  · rw [checkBoth_eq, Option.bind_some]
    by_cases h2 : fontErr f = 0
    · by_cases h3 : textErr t = 0
      · simp only [h1, h2, h3, decide_true, Bool.not_true, cond_false, firstErr_cons, if_true]
        rw [show decide (firstErr [] = 0) = true from rfl]
        simp only [Bool.not_true, cond_false]
        have hf := fontErr_zero.1 h2
        have ht := (textErr_zero.1 h3).1
        by_cases h4 : mostErr pad most = 0
        · obtain ⟨hp, hm⟩ := mostErr_zero.1 h4
          have e4 : (((decide (pad < 0)) || (decide (100 < pad))) || (decide (most < 1)) || (decide (20000 < most))) = false := by simp; omega
          rw [e4, cond_false]
          unfold strings_Split
          rw [need_of ⟨by omega, by simp⟩, Option.bind_some, splitS_one, fitLeast hf ht, Option.bind_some]
          simp only [h4, if_true]
          simp only [show firstErr [] = 0 from rfl, if_true]
          unfold fitIs
          by_cases c : most < leastB f t.b
          · simp only [if_pos c]
            rw [decide_eq_true c, cond_true]
            exact ⟨_, rfl, rfl⟩
          · simp only [if_neg c]
            rw [decide_eq_false c, cond_false]
            show ∃ r, (Option.bind (loop (shape_Fit_L2 f most ⟨t.b⟩) (0, 0, (-1), leastB f t.b)) _) = some r ∧ _
            rw [fitLoop hf ht (by omega) (by omega), Option.bind_some]
            generalize (fitR f t.b (most - leastB f t.b + 1).toNat).1 = wide
            generalize (fitR f t.b (most - leastB f t.b + 1).toNat).2.1 = high
            obtain ⟨h, a1, a2, a3, a4, a5⟩ := fitH (kind := kind) (wide := wide) (high := high) hp
            obtain ⟨w, b1, b2, b3, b4, b5⟩ := fitW (kind := kind) (wide := wide) (high := high) (h := h) hp ⟨a2, a3⟩
            rw [a1, Option.bind_some, b1, Option.bind_some]
            by_cases q : w ≤ 20000 ∧ h ≤ 20000
            · have : ((decide (20000 < w)) || (decide (20000 < h))) = false := by simp; omega
              rw [this]
              exact ⟨_, rfl, .inl ⟨w, h, ⟨⟨b2, q.1⟩, ⟨a2, q.2⟩, a4 q.2, a5, b4 q.1, b5⟩, rfl⟩⟩
            · have : ((decide (20000 < w)) || (decide (20000 < h))) = true := by simp; omega
              rw [this]
              refine ⟨_, rfl, .inr ⟨?_, rfl⟩⟩
              rintro ⟨w', h', ⟨c1, c2⟩, ⟨c3, c4⟩, c5, c6, c7, c8⟩
              have hh : h = h' := by
                rcases Int.lt_trichotomy h h' with d | d | d
                · have := c6 h a2 d; have := a4 (by omega); omega
                · exact d
                · have := a5 h' c3 d; omega
              subst hh
              rcases Int.lt_trichotomy w w' with d | d | d
              · have := c8 w b2 d; have := b4 (by omega); omega
              · omega
              · have := b5 w' c1 d; omega
        · have hn : ¬ ((0 ≤ pad ∧ pad ≤ 100) ∧ 1 ≤ most ∧ most ≤ 20000) := fun x => h4 (mostErr_zero.2 x)
          have e4 : (((decide (pad < 0)) || (decide (100 < pad))) || (decide (most < 1)) || (decide (20000 < most))) = true := by simp; omega
          have e5 : mostErr pad most = 3 := by unfold mostErr; rw [if_neg hn]
          rw [e4, cond_true]
          exact ⟨_, rfl, by simp [e5]⟩
      · exact ⟨(0, 0, textErr t), by simp [h1, h2, h3], by simp [h1, h2, h3]⟩
    · exact ⟨(0, 0, fontErr f), by simp [h1, h2], by simp [h1, h2]⟩
  · have e : kindErr kind = 1 := by unfold kindErr at h1 ⊢; split <;> simp_all
    exact ⟨(0, 0, 1), by simp [h1, e], by simp [e]⟩

end Go.DB
