/-
  Lines in their places.
-/
import Derived.Test.YthopjimlhjgoiaaDoorTTxPuInner
import Derived.Test.YthopjimlhjgoiaaDoorTTxPuErrs
import Derived.Test.YthopjimlhjgoiaaDoorTTxPuWrap3
set_option linter.unusedSimpArgs false
set_option linter.unusedVariables false
namespace Go.DB
open Go Go.RowKit

/-! Lines are no longer than their text. -/

theorem cutAll_mem {f : Font} {width : Int} (l : List UInt8) : l ≠ [] → ∀ h ∈ (cutAll f width l).1, h.length ≤ l.length := by
  refine cut_ind (f := f) (width := width) (p := fun l => l ≠ [] → ∀ h ∈ (cutAll f width l).1, h.length ≤ l.length) ?_ ?_ l
  · intro l h _ x hx; rw [cutAll_no h] at hx; simp at hx
  · intro l h1 h2 ih hne x hx
    rw [cutAll_yes ⟨h1, h2⟩] at hx
    have hl := congrArg List.length (head_rest f width l)
    rw [List.length_append] at hl
    rcases List.mem_cons.1 hx with rfl | hx
    · omega
    · have := ih (rest_ne h1 h2) x hx; omega
theorem fold_mem {f : Font} {width : Int} {K : Nat} : ∀ (ws : List (List UInt8)) (st : List (List UInt8) × List UInt8), (∀ w ∈ ws, w ≠ []) → (∀ x ∈ st.1, x.length ≤ K) → st.2.length + tot ws ≤ K →
    (∀ x ∈ (ws.foldl (stepW f width) st).1, x.length ≤ K) ∧ (ws.foldl (stepW f width) st).2.length ≤ K
  | [], st, _, h, h2 => ⟨h, by simpa [tot] using h2⟩
  | w :: ws, st, hw, h, h2 => by
    rw [tot_cons] at h2
    have hne := hw w (by simp)
    obtain ⟨b1, b2, b3⟩ := stepW_bd (f := f) (width := width) (st := st) hne
    rw [List.foldl_cons]
    refine fold_mem ws _ (fun x hx => hw x (by simp [hx])) (fun x hx => ?_) (by omega)
    unfold stepW at hx
    split at hx
    · exact h x hx
    · simp only at hx
      rcases List.mem_append.1 hx with hx | hx
      · split at hx
        · rcases List.mem_append.1 hx with hx | hx
          · exact h x hx
          · simp at hx; subst hx; omega
        · exact h x hx
      · have := cutAll_mem w hne x hx; omega
theorem wrapB_mem {f : Font} {width : Int} {t x : List UInt8} (h : x ∈ wrapB f width t) : x.length ≤ t.length + 1 := by
  unfold wrapB at h
  obtain ⟨p, hp, hx⟩ := List.mem_flatMap.1 h
  have h1 := tot_mem hp
  rw [tot_pieces] at h1
  have h2 := tot_words p
  obtain ⟨a, b⟩ := fold_mem (f := f) (width := width) (K := p.length + 1) (wordsB p) ([], []) (fun w hw => words_ne hw) (by simp) (by simp; omega)
  unfold partB foldW at hx
  rcases List.mem_append.1 hx with hx | hx
  · have := a x hx; omega
  · simp at hx; subst hx; omega
theorem partB_pos (f : Font) (width : Int) (p : List UInt8) : 1 ≤ (partB f width p).length := by unfold partB; simp
theorem wrapB_pos (f : Font) (width : Int) (t : List UInt8) : 1 ≤ (wrapB f width t).length := by
  unfold wrapB
  cases h : pieces 10 t with
  | nil => exact absurd h (pieces_ne 10 t)
  | cons p ps =>
    have := partB_pos f width p
    rw [List.flatMap_cons, List.length_append]; omega

/-! The widest line. -/

def wmax (f : Font) (L : List (List UInt8)) : Int := L.foldl (fun a l => max a (mw f l)) 0
theorem foldmax_le {f : Font} : ∀ (L : List (List UInt8)) (a b : Int), (a ≤ b ∧ ∀ l ∈ L, mw f l ≤ b) ↔ L.foldl (fun a l => max a (mw f l)) a ≤ b
  | [], a, b => by simp
  | l :: L, a, b => by
    rw [List.foldl_cons, ← foldmax_le L]
    simp only [List.mem_cons, forall_eq_or_imp]
    exact ⟨fun h => ⟨by omega, h.2.2⟩, fun h => ⟨by omega, by omega, h.2⟩⟩
theorem wmax_le {f : Font} {L : List (List UInt8)} {b : Int} (hb : 0 ≤ b) : wmax f L ≤ b ↔ ∀ l ∈ L, mw f l ≤ b := by
  unfold wmax
  rw [← foldmax_le]
  exact ⟨fun h => h.2, fun h => ⟨hb, h⟩⟩
theorem wmax_nonneg (f : Font) (L : List (List UInt8)) : 0 ≤ wmax f L := ((foldmax_le L 0 (wmax f L)).2 (Int.le_refl _)).1
theorem wmax_mem {f : Font} {L : List (List UInt8)} {l : List UInt8} (h : l ∈ L) : mw f l ≤ wmax f L := (wmax_le (wmax_nonneg f L)).1 (Int.le_refl _) l h
theorem foldmax_map (f : Font) (L : List (List UInt8)) (a : Int) : (L.map Str.mk).foldl (fun a x => max a (mw f x.b)) a = L.foldl (fun a l => max a (mw f l)) a := by rw [List.foldl_map]
theorem widest_eq {f : Font} (hf : okF f) {L : List (List UInt8)} (hL : (L.length : Int) ≤ 9223372036854775807) (hl : ∀ x ∈ L, x.length ≤ 1000000) : shape_widest f (L.map Str.mk) = some (wmax f L) := by
  unfold shape_widest
  rw [rfor_fold (l := L.map Str.mk) (fun a (x : Str) => max a (mw f x.b)) (by simpa using hL) (fun i s hi => by
    unfold shape_widest_L1
    have hm := gx_mem hi
    obtain ⟨y, hy, he⟩ := List.mem_map.1 hm
    rw [need_of hi, measure_eq hf (by rw [← he]; exact hl y hy)]; rfl), foldmax_map, Option.bind_some]
  rfl

/-- A loop that adds an element each round. -/
theorem rfor_mapIdx {α β : Type} [Inhabited α] {l : List α} {step : Int → List β → Option (List β)} (g : Nat → α → β) (hl : (l.length : Int) ≤ 9223372036854775807)
    (hf : ∀ (i : Nat) (s : List β) (h : i < l.length), s.length = i → step i s = some (s ++ [g i l[i]])) : rfor (l.length : Int) step [] = some (l.mapIdx g) := by
  obtain ⟨s', h1, h2⟩ := rfor_inv (n := (l.length : Int)) (step := step) (s0 := ([] : List β)) (fun i s => s = (l.take i).mapIdx g) hl (by simp) (fun i s hi hs => by
    have hi' : i < l.length := by omega
    subst hs
    have hmin : (l.take i).length = i := by rw [List.length_take]; omega
    refine ⟨_, hf i _ hi' (by rw [List.length_mapIdx, hmin]), ?_⟩
    rw [List.take_add_one, List.getElem?_eq_getElem hi', Option.toList_some]
    simp only [List.mapIdx_append, hmin, List.mapIdx_cons, List.mapIdx_nil, Nat.zero_add])
  rw [h1, h2]
  simp

def restI (space way : Int) : Int := if way = 2 ∨ way = 5 then space / 2 else if way = 3 ∨ way = 6 then space else 0
theorem restI_bd {s way : Int} (h : 0 ≤ s) : 0 ≤ restI s way ∧ restI s way ≤ s := by
  unfold restI
  repeat' split
  all_goals omega
def acrossErr (a d : Int) : Int := if (1 ≤ a ∧ a ≤ 3) ∧ 4 ≤ d ∧ d ≤ 6 then 0 else 1
theorem acrossErr_zero {a d : Int} : acrossErr a d = 0 ↔ (1 ≤ a ∧ a ≤ 3) ∧ 4 ≤ d ∧ d ≤ 6 := by unfold acrossErr; split <;> simp_all
theorem rest_eq {s way : Int} (h : 0 ≤ s) : shape_rest s way = some (restI s way) := by
  unfold shape_rest restI
  simp only [bnd_eq]
  by_cases h2 : way = 2
  · subst h2; simp [td h]
  · by_cases h5 : way = 5
    · subst h5; simp [td h]
    · by_cases h3 : way = 3
      · subst h3; simp
      · by_cases h6 : way = 6
        · subst h6; simp
        · simp [h2, h5, h3, h6]
def placeB (f : Font) (n : Box) (a d : Int) (k : Nat) (i : Nat) (l : List UInt8) : Placed :=
  ⟨⟨l⟩, ⟨n.X + restI (n.W_ - max (mw f l) 1) a, n.Y + restI (n.H - k * f.Line) d + i * f.Line, max (mw f l) 1, f.Line⟩⟩
def layB (f : Font) (n : Box) (a d : Int) (L : List (List UInt8)) : List Placed := L.mapIdx (placeB f n a d L.length)
theorem Lay_eq (f : Font) (t : Str) (kind : Int) (b : Box) (pad a d : Int) : shape_Lay f t kind b pad a d =
    some (if firstErr [kindErr kind, fontErr f, textErr t, innerErr kind b pad, acrossErr a d] = 0 then
      (if (innerAt kind b pad).H < (wrapB f (innerAt kind b pad).W_ t.b).length * f.Line ∨ (innerAt kind b pad).W_ < wmax f (wrapB f (innerAt kind b pad).W_ t.b) then ([], 14) else (layB f (innerAt kind b pad) a d (wrapB f (innerAt kind b pad).W_ t.b), 0))
      else ([], firstErr [kindErr kind, fontErr f, textErr t, innerErr kind b pad, acrossErr a d])) := by
  unfold shape_Lay
  rw [isKind_eq, Option.bind_some]
  by_cases h1 : kindErr kind = 0
  · rw [checkBoth_eq, Option.bind_some]
    by_cases h2 : fontErr f = 0
    · by_cases h3 : textErr t = 0
      · rw [Inner_eq, Option.bind_some]
        simp only [h1, h2, h3, decide_true, Bool.not_true, cond_false, firstErr_cons, if_true]
        by_cases h4 : innerErr kind b pad = 0
        · simp only [h4, if_true]
          have hf := fontErr_zero.1 h2
          have ht := (textErr_zero.1 h3).1
          have hz := firstErr_zero.1 h4
          have hb := boxErr_zero.1 (hz (boxErr b) (by simp))
          have hp := padErr_zero.1 (hz (padErr pad) (by simp))
          unfold okB at hb
          have hbd := innerB_bd (kind := kind) (w := b.W_) (h := b.H) (pad := pad) (by omega) (by omega) hp
          have hin : ¬ ((innerB kind b.W_ b.H pad).W_ < 1 ∨ (innerB kind b.W_ b.H pad).H < 1) := fun x => by
            have := hz (if (innerB kind b.W_ b.H pad).W_ < 1 ∨ (innerB kind b.W_ b.H pad).H < 1 then 9 else 0) (by simp)
            rw [if_pos x] at this; cases this
          by_cases h5 : acrossErr a d = 0
          · have ha := acrossErr_zero.1 h5
            have e5 : (((decide (a < 1)) || (decide (3 < a))) || (decide (d < 4)) || (decide (6 < d))) = false := by simp; omega
            have hn : (innerAt kind b pad).W_ = (innerB kind b.W_ b.H pad).W_ ∧ (innerAt kind b pad).H = (innerB kind b.W_ b.H pad).H ∧ (innerAt kind b pad).X = (innerB kind b.W_ b.H pad).X + b.X ∧ (innerAt kind b pad).Y = (innerB kind b.W_ b.H pad).Y + b.Y := ⟨rfl, rfl, rfl, rfl⟩
            generalize innerAt kind b pad = n at hn ⊢
            obtain ⟨n1, n2, n3, n4⟩ := hn
            have hF : 1 ≤ f.Line ∧ f.Line ≤ 200 := by unfold okF at hf; omega
            simp only [decide_true, Bool.not_true, cond_false]
            rw [e5, cond_false, wrap_eq hf (width := n.W_) (by omega) (t := t.b) (by omega), Option.bind_some]
            simp only [bnd_eq, List.length_map, h5, if_true]
            rw [if_pos (show firstErr [] = 0 from rfl)]
            have hlen := wrapB_len f n.W_ t.b
            have hmem : ∀ x ∈ wrapB f n.W_ t.b, x.length ≤ 1001 := fun x hx => by have := wrapB_mem hx; omega
            generalize wrapB f n.W_ t.b = L at hlen hmem ⊢
            have hkl : 0 ≤ (L.length : Int) * f.Line ∧ (L.length : Int) * f.Line ≤ 2002 * 200 := ⟨Int.mul_nonneg (by omega) (by omega), Int.mul_le_mul (by omega) (by omega) (by omega) (by omega)⟩
            rw [Wk (n := (L.length : Int) * f.Line) (by omega) (by omega), Wk (n := n.H - (L.length : Int) * f.Line) (by omega) (by omega), widest_eq hf (by omega) (fun x hx => by have := hmem x hx; omega)]
            have hwn := wmax_nonneg f L
            by_cases c1 : n.H < L.length * f.Line
            · have : decide (n.H - (L.length : Int) * f.Line < 0) = true := by simp; omega
              rw [this, if_pos (.inl c1)]
              simp [firstErr]
            · have : decide (n.H - (L.length : Int) * f.Line < 0) = false := by simp; omega
              rw [this]
              simp only [Bool.not_false, gd_true, Option.bind_some, Bool.false_or]
              by_cases c2 : n.W_ < wmax f L
              · rw [decide_eq_true c2, if_pos (.inr c2)]
                simp [firstErr]
              · rw [decide_eq_false c2, if_neg (by omega), cond_false]
                have hloop : rfor (L.length : Int) (shape_Lay_L1 f (n, 0) d (n.H - (L.length : Int) * f.Line) (L.map Str.mk) a) [] = some (layB f n a d L) := by
                  have h0 : ((L.map Str.mk).length : Int) = (L.length : Int) := by simp
                  rw [← h0, rfor_mapIdx (l := L.map Str.mk) (fun i (x : Str) => placeB f n a d L.length i x.b) (by rw [h0]; omega) (fun i s hi hs => by
                    have hi' : i < L.length := by simpa using hi
                    unfold shape_Lay_L1
                    rw [need_of ⟨by omega, by simp; omega⟩, gx_nat hi]
                    simp only [bnd_eq, List.getElem_map, List.length_map]
                    have hmw := mw_bd hf L[i]
                    have hml := wmax_mem (f := f) (List.getElem_mem hi')
                    have hll := hmem _ (List.getElem_mem hi')
                    have hil : 0 ≤ (i : Int) * f.Line ∧ (i : Int) * f.Line ≤ 2002 * 200 := ⟨Int.mul_nonneg (by omega) (by omega), Int.mul_le_mul (by omega) (by omega) (by omega) (by omega)⟩
                    rw [measure_eq hf (s := ⟨L[i]⟩) (by show L[i].length ≤ _; omega), Option.bind_some]
                    simp only
                    have hr1 := restI_bd (s := n.W_ - max (mw f L[i]) 1) (way := a) (by omega)
                    have hr2 := restI_bd (s := n.H - (L.length : Int) * f.Line) (way := d) (by omega)
                    rw [Wk (n := n.W_ - max (mw f L[i]) 1) (by omega) (by omega), rest_eq (s := n.W_ - max (mw f L[i]) 1) (by omega), Option.bind_some, rest_eq (s := n.H - (L.length : Int) * f.Line) (by omega), Option.bind_some]
                    rw [need_of (by rw [room_iff]; simp; omega), Wk (n := n.X + restI (n.W_ - max (mw f L[i]) 1) a) (by omega) (by omega), Wk (n := n.Y + restI (n.H - (L.length : Int) * f.Line) d) (by omega) (by omega), Wk (n := (i : Int) * f.Line) (by omega) (by omega), Wk (by omega) (by omega)]
                    rfl)]
                  unfold layB
                  congr 1
                  exact List.ext_getElem (by simp) (fun i h1 h2 => by simp)
                rw [hloop]
                simp [firstErr]
          · have ha : ¬ ((1 ≤ a ∧ a ≤ 3) ∧ 4 ≤ d ∧ d ≤ 6) := fun x => h5 (acrossErr_zero.2 x)
            have e5 : (((decide (a < 1)) || (decide (3 < a))) || (decide (d < 4)) || (decide (6 < d))) = true := by simp; omega
            have e6 : acrossErr a d = 1 := by unfold acrossErr; rw [if_neg ha]
            simp only [decide_true, Bool.not_true, cond_false]
            rw [e5, cond_true]; simp [e6]
        · simp [h4]
      · simp [h1, h2, h3]
    · simp [h1, h2]
  · have e : kindErr kind = 1 := by unfold kindErr at h1 ⊢; split <;> simp_all
    simp [h1, e]

end Go.DB
