/-
  Lines in their places.
-/
import Derived.Test.YthopjimlhjgoiaaDoorFitPuInner
import Derived.Test.YthopjimlhjgoiaaDoorFitPuErrs
import Derived.Test.YthopjimlhjgoiaaDoorFitPuWrap3
set_option linter.unusedSimpArgs false
set_option linter.unusedVariables false
namespace Go.DB
open Go Go.RowKit

/-! Lines are no longer than their text. -/

theorem cutAll_mem {f : Font} {width : Int} (l : List UInt8) : l ≠ [] → ∀ h ∈ (cutAll f width l).1, h.length ≤ l.length := by
  refine cut_ind (f := f) (width := width) (p := fun l => l ≠ [] → ∀ h ∈ (cutAll f width l).1, h.length ≤ l.length) ?_ ?_ l
  · intro l h _ x hx; rw [cutAll_no h] at hx; simp at hx
  · intro l h1 h2 ih hne x hx
    rw [cutAll_yes ⟨h1, h2⟩] at hx
    have hl := congrArg List.length (head_rest f width l)
    rw [List.length_append] at hl
    rcases List.mem_cons.1 hx with rfl | hx
    · omega
    · have := ih (rest_ne h1 h2) x hx; omega
theorem fold_mem {f : Font} {width : Int} {K : Nat} : ∀ (ws : List (List UInt8)) (st : List (List UInt8) × List UInt8), (∀ w ∈ ws, w ≠ []) → (∀ x ∈ st.1, x.length ≤ K) → st.2.length + tot ws ≤ K →
    (∀ x ∈ (ws.foldl (stepW f width) st).1, x.length ≤ K) ∧ (ws.foldl (stepW f width) st).2.length ≤ K
  | [], st, _, h, h2 => ⟨h, by simpa [tot] using h2⟩
  | w :: ws, st, hw, h, h2 => by
    rw [tot_cons] at h2
    have hne := hw w (by simp)
    obtain ⟨b1, b2, b3⟩ := stepW_bd (f := f) (width := width) (st := st) hne
    rw [List.foldl_cons]
    refine fold_mem ws _ (fun x hx => hw x (by simp [hx])) (fun x hx => ?_) (by omega)
    unfold stepW at hx
    split at hx
    · exact h x hx
    · simp only at hx
      rcases List.mem_append.1 hx with hx | hx
      · split at hx
        · rcases List.mem_append.1 hx with hx | hx
          · exact h x hx
          · simp at hx; subst hx; omega
        · exact h x hx
      · have := cutAll_mem w hne x hx; omega
theorem wrapB_mem {f : Font} {width : Int} {t x : List UInt8} (h : x ∈ wrapB f width t) : x.length ≤ t.length + 1 := by
  unfold wrapB at h
  obtain ⟨p, hp, hx⟩ := List.mem_flatMap.1 h
  have h1 := tot_mem hp
  rw [tot_pieces] at h1
  have h2 := tot_words p
  obtain ⟨a, b⟩ := fold_mem (f := f) (width := width) (K := p.length + 1) (wordsB p) ([], []) (fun w hw => words_ne hw) (by simp) (by simp; omega)
  unfold partB foldW at hx
  rcases List.mem_append.1 hx with hx | hx
  · have := a x hx; omega
  · simp at hx; subst hx; omega
theorem partB_pos (f : Font) (width : Int) (p : List UInt8) : 1 ≤ (partB f width p).length := by unfold partB; simp
theorem wrapB_pos (f : Font) (width : Int) (t : List UInt8) : 1 ≤ (wrapB f width t).length := by
  unfold wrapB
  cases h : pieces 10 t with
  | nil => exact absurd h (pieces_ne 10 t)
  | cons p ps =>
    have := partB_pos f width p
    rw [List.flatMap_cons, List.length_append]; omega

/-! The widest line. -/

def wmax (f : Font) (L : List (List UInt8)) : Int := L.foldl (fun a l => max a (mw f l)) 0
theorem foldmax_le {f : Font} : ∀ (L : List (List UInt8)) (a b : Int), (a ≤ b ∧ ∀ l ∈ L, mw f l ≤ b) ↔ L.foldl (fun a l => max a (mw f l)) a ≤ b
  | [], a, b => by simp
  | l :: L, a, b => by
    rw [List.foldl_cons, ← foldmax_le L]
    simp only [List.mem_cons, forall_eq_or_imp]
    exact ⟨fun h => ⟨by omega, h.2.2⟩, fun h => ⟨by omega, by omega, h.2⟩⟩
theorem wmax_le {f : Font} {L : List (List UInt8)} {b : Int} (hb : 0 ≤ b) : wmax f L ≤ b ↔ ∀ l ∈ L, mw f l ≤ b := by
  unfold wmax
  rw [← foldmax_le]
  exact ⟨fun h => h.2, fun h => ⟨hb, h⟩⟩
theorem wmax_nonneg (f : Font) (L : List (List UInt8)) : 0 ≤ wmax f L := ((foldmax_le L 0 (wmax f L)).2 (Int.le_refl _)).1
theorem wmax_mem {f : Font} {L : List (List UInt8)} {l : List UInt8} (h : l ∈ L) : mw f l ≤ wmax f L := (wmax_le (wmax_nonneg f L)).1 (Int.le_refl _) l h
theorem foldmax_map (f : Font) (L : List (List UInt8)) (a : Int) : (L.map Str.mk).foldl (fun a x => max a (mw f x.b)) a = L.foldl (fun a l => max a (mw f l)) a := by rw [List.foldl_map]
theorem widest_eq {f : Font} (hf : okF f) {L : List (List UInt8)} (hL : (L.length : Int) ≤ 9223372036854775807) (hl : ∀ x ∈ L, x.length ≤ 1000000) : shape_widest f (L.map Str.mk) = some (wmax f L) := by
  unfold shape_widest
  rw [rfor_fold (l := L.map Str.mk) (fun a (x : Str) => max a (mw f x.b)) (by simpa using hL) (fun i s hi => by
    unfold shape_widest_L1
    have hm := gx_mem hi
    obtain ⟨y, hy, he⟩ := List.mem_map.1 hm
    rw [need_of hi, measure_eq hf (by rw [← he]; exact hl y hy)]; rfl), foldmax_map, Option.bind_some]
  rfl
theorem Widest_eq {f : Font} (hf : okF f) {L : List (List UInt8)} (hL : (L.length : Int) ≤ 9223372036854775807) (hl : ∀ x ∈ L, x.length ≤ 1000000) : ref_Widest f (L.map Str.mk) = some (wmax f L) := by
  unfold ref_Widest
  rw [rfor_fold (l := L.map Str.mk) (fun a (x : Str) => max a (mw f x.b)) (by simpa using hL) (fun i s hi => by
    unfold ref_Widest_L1
    have hm := gx_mem hi
    obtain ⟨y, hy, he⟩ := List.mem_map.1 hm
    rw [need_of hi, WidthOf_eq hf (by rw [← he]; exact hl y hy)]; rfl), foldmax_map, Option.bind_some]
  rfl

/-- A loop that adds an element each round. -/
theorem rfor_mapIdx {α β : Type} [Inhabited α] {l : List α} {step : Int → List β → Option (List β)} (g : Nat → α → β) (hl : (l.length : Int) ≤ 9223372036854775807)
    (hf : ∀ (i : Nat) (s : List β) (h : i < l.length), s.length = i → step i s = some (s ++ [g i l[i]])) : rfor (l.length : Int) step [] = some (l.mapIdx g) := by
  obtain ⟨s', h1, h2⟩ := rfor_inv (n := (l.length : Int)) (step := step) (s0 := ([] : List β)) (fun i s => s = (l.take i).mapIdx g) hl (by simp) (fun i s hi hs => by
    have hi' : i < l.length := by omega
    subst hs
    have hmin : (l.take i).length = i := by rw [List.length_take]; omega
    refine ⟨_, hf i _ hi' (by rw [List.length_mapIdx, hmin]), ?_⟩
    rw [List.take_add_one, List.getElem?_eq_getElem hi', Option.toList_some]
    simp only [List.mapIdx_append, hmin, List.mapIdx_cons, List.mapIdx_nil, Nat.zero_add])
  rw [h1, h2]
  simp

def restI (space way : Int) : Int := if way = 2 ∨ way = 5 then space / 2 else if way = 3 ∨ way = 6 then space else 0
theorem restI_bd {s way : Int} (h : 0 ≤ s) : 0 ≤ restI s way ∧ restI s way ≤ s := by
  unfold restI
  repeat' split
  all_goals omega
def acrossErr (a d : Int) : Int := if (1 ≤ a ∧ a ≤ 3) ∧ 4 ≤ d ∧ d ≤ 6 then 0 else 1
theorem acrossErr_zero {a d : Int} : acrossErr a d = 0 ↔ (1 ≤ a ∧ a ≤ 3) ∧ 4 ≤ d ∧ d ≤ 6 := by unfold acrossErr; split <;> simp_all

end Go.DB
