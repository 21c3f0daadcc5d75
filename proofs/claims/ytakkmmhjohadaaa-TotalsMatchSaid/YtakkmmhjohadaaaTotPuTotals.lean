/-
  Totals of ranks: the law in plain words.
-/
import Derived.Test.YtakkmmhjohadaaaTotPuGraph
set_option linter.unusedSimpArgs false
set_option linter.unusedVariables false
namespace Go.DB
open Go Go.RowKit

theorem graphErr_zero {n : Int} {l : List Link} (h : graphErr n l = 0) : 1 ≤ n ∧ n ≤ 60 ∧ l.length ≤ 200 ∧ ∀ x ∈ l, 0 ≤ x.From ∧ x.From < n ∧ 0 ≤ x.To ∧ x.To < n ∧ x.From ≠ x.To := by
  unfold graphErr at h
  by_cases h1 : n < 1 ∨ 60 < n
  · simp [h1] at h
  · rw [if_neg h1] at h
    by_cases h2 : 200 < l.length
    · simp [h2] at h
    · rw [if_neg h2] at h
      refine ⟨by omega, by omega, by omega, fun x hx => ?_⟩
      have := firstErr_zero.1 h (linkErr n x) (List.mem_map_of_mem hx)
      unfold linkErr at this
      by_cases a : ¬ (0 ≤ x.From ∧ x.From < n) ∨ ¬ (0 ≤ x.To ∧ x.To < n)
      · rw [if_pos a] at this; omega
      · rw [if_neg a] at this
        by_cases c : x.From = x.To
        · simp [c] at this
        · omega

def rankOut (k : Int) : Bool := !decide (0 ≤ k ∧ k ≤ 1000)
def stepD (ranks : List Int) (x : Link) : Int := gx ranks x.To - gx ranks x.From
def sumD (ranks : List Int) (l : List Link) (s : Int) : Int := l.foldl (fun s x => W (s + stepD ranks x)) s

theorem IndexFunc_int_eq (s : List Int) (f : Int → Option Bool) (p : Int → Bool) (hl : (s.length : Int) ≤ 9223372036854775807) (hf : ∀ x ∈ s, f x = some (p x)) :
    slices_IndexFunc_int s f = some (match s.findIdx? p with | some i => (i : Int) | none => -1) := by
  unfold slices_IndexFunc_int
  obtain ⟨e, he, hp⟩ := rforE_inv (n := (s.length : Int)) (step := slices_IndexFunc_int_L1 f s) (fin := fun s => (Res.nx s : Res Unit Int)) (s0 := ()) (fun i _ => ∀ j (h : j < s.length), j < i → p s[j] = false)
    (fun e => e = match s.findIdx? p with | some i => Res.ab (i : Int) | none => Res.nx ()) hl (fun j h hj => by omega) (fun i u hi hI => by
      have hi' : i < s.length := by omega
      unfold slices_IndexFunc_int_L1
      rw [need_of ⟨by omega, hi⟩, gx_nat hi', hf _ (List.getElem_mem hi')]
      simp only [bind_sm]
      cases hb : p s[i] with
      | false =>
        refine .inl ⟨(), rfl, fun j h hj => ?_⟩
        rcases Nat.lt_or_eq_of_le (Nat.lt_succ_iff.1 hj) with h1 | h1
        · exact hI j h h1
        · subst h1; exact hb
      | true =>
        refine .inr ⟨_, rfl, ?_⟩
        have : s.findIdx? p = some i := by
          rw [List.findIdx?_eq_some_iff_getElem]
          exact ⟨hi', hb, fun j hj => by simpa using hI j (by omega) hj⟩
        rw [this]) (fun u hI => by
      have : s.findIdx? p = none := by
        rw [List.findIdx?_eq_none_iff]
        intro x hx
        obtain ⟨j, hj, rfl⟩ := List.mem_iff_getElem.1 hx
        exact hI j hj (by simpa using hj)
      rw [this])
  rw [he, hp]
  cases s.findIdx? p <;> rfl
theorem ContainsFunc_int_eq (s : List Int) (f : Int → Option Bool) (p : Int → Bool) (hl : (s.length : Int) ≤ 9223372036854775807) (hf : ∀ x ∈ s, f x = some (p x)) :
    slices_ContainsFunc_int s f = some (s.any p) := by
  unfold slices_ContainsFunc_int
  rw [IndexFunc_int_eq s f p hl hf]
  simp only [bind_sm, Option.some.injEq]
  cases h : s.findIdx? p with
  | none =>
    rw [List.findIdx?_eq_none_iff] at h
    simp; exact h
  | some i =>
    obtain ⟨hi, hp, _⟩ := List.findIdx?_eq_some_iff_getElem.1 h
    have : s.any p = true := List.any_eq_true.2 ⟨_, List.getElem_mem hi, hp⟩
    rw [this]; simp

/-- What the program's total comes to. -/
def totalOf (n : Int) (l : List Link) (ranks : List Int) : Int × Int :=
  if graphErr n l ≠ 0 then (0, graphErr n l) else if (ranks.length : Int) ≠ n then (0, 2) else if ranks.any rankOut = true then (0, 3) else
  if l.any (fun x => decide (gx ranks x.To ≤ gx ranks x.From)) = true then (0, 7) else (sumD ranks l 0, 0)

theorem stepD_bd {n : Int} {l : List Link} {ranks : List Int} (hg : graphErr n l = 0) (hn : (ranks.length : Int) = n) (hr : ranks.any rankOut = false) {x : Link} (hx : x ∈ l) :
    inR ranks x.To ∧ inR ranks x.From ∧ (0 ≤ gx ranks x.To ∧ gx ranks x.To ≤ 1000) ∧ (0 ≤ gx ranks x.From ∧ gx ranks x.From ≤ 1000) ∧ W (gx ranks x.To - gx ranks x.From) = stepD ranks x := by
  obtain ⟨_, _, _, h⟩ := graphErr_zero hg
  obtain ⟨a, b, c, d, _⟩ := h x hx
  have h1 : inR ranks x.To := ⟨c, by omega⟩
  have h2 : inR ranks x.From := ⟨a, by omega⟩
  have hb : ∀ k, inR ranks k → 0 ≤ gx ranks k ∧ gx ranks k ≤ 1000 := by
    intro k hk
    have hm := gx_mem hk
    rw [List.any_eq_false] at hr
    have := hr _ hm
    simpa [rankOut] using this
  have g1 := hb _ h1
  have g2 := hb _ h2
  exact ⟨h1, h2, g1, g2, Wk (by omega) (by omega)⟩

theorem Total_eq (n : Int) (l : List Link) (ranks : List Int) : layer_Total n l ranks = some (totalOf n l ranks) := by
  unfold layer_Total totalOf
  rw [layer_Check_eq]
  simp only [bind_sm]
  by_cases hg : graphErr n l = 0
  · obtain ⟨hn1, hn2, hl, hall⟩ := graphErr_zero hg
    simp only [hg, decide_true, Bool.not_true, cond_false, ne_eq, not_true_eq_false, if_false]
    by_cases hn : (ranks.length : Int) = n
    · simp only [hn, decide_true, Bool.not_true, cond_false, not_true_eq_false, if_false]
      rw [← hn, rforE_any rankOut (Res.ab ((0, 3) : Int × Int)) (by omega) (fun i hi => ?_)]
      · by_cases hr : ranks.any rankOut = true
        · simp only [hr, if_true, bindR_ab]
        · have hr' : ranks.any rankOut = false := by simpa using hr
          simp only [hr, if_false, bindR_nx]
          have key : ∀ (m : List Link), (∀ x ∈ m, x ∈ l) → ∀ s, lgoE (fun x s => if gx ranks x.To ≤ gx ranks x.From then some (Res.ab (Res.ab ((0, 7) : Int × Int))) else some (Res.nx (W (s + stepD ranks x)))) (fun s => (Res.nx s : Res Int (Int × Int))) m s =
              some (if m.any (fun x => decide (gx ranks x.To ≤ gx ranks x.From)) = true then Res.ab (0, 7) else Res.nx (sumD ranks m s)) := by
            intro m
            induction m with
            | nil => intro _ s; rfl
            | cons x m ih =>
              intro hm s
              rw [lgoE]
              by_cases hle : gx ranks x.To ≤ gx ranks x.From
              · simp [hle]
              · simp only [hle, if_false, List.any_cons, decide_false, Bool.false_or]
                rw [ih (fun y hy => hm y (by simp [hy]))]
                rfl
          rw [rforE_list (fun x s => if gx ranks x.To ≤ gx ranks x.From then some (Res.ab (Res.ab ((0, 7) : Int × Int))) else some (Res.nx (W (s + stepD ranks x)))) (by omega) (fun i s hi => ?_), key l (fun _ h => h) 0]
          · cases hb : l.any (fun x => decide (gx ranks x.To ≤ gx ranks x.From)) with
            | true => simp
            | false => simp
          · unfold layer_Total_L2
            obtain ⟨h1, h2, g1, g2, g3⟩ := stepD_bd hg hn hr' (gx_mem hi)
            rw [need_of hi]
            simp only [bnd_eq]
            rw [need_of h1, need_of h2, g3]
            by_cases hle : gx ranks (gx l i).To ≤ gx ranks (gx l i).From
            · have : stepD ranks (gx l i) < 1 := by unfold stepD; omega
              simp [this, hle]
            · have : ¬ stepD ranks (gx l i) < 1 := by unfold stepD; omega
              simp [this, hle]
      · unfold layer_Total_L1 rankOut
        rw [need_of hi]
        simp only [bnd_eq]
        generalize gx ranks i = r
        by_cases h : 0 ≤ r ∧ r ≤ 1000
        · have h1 : ¬ r < 0 := by omega
          have h2 : ¬ 1000 < r := by omega
          simp [h, h1, h2]
        · by_cases h1 : r < 0
          · simp [h1, h]
          · have h2 : 1000 < r := by omega
            simp [h1, h2, h]
    · simp [hn]
  · simp [hg]

theorem TotalsMatch_true (n : Int) (l : List Link) (ranks : List Int) (hr : fits ranks) : law_TotalsMatch n l ranks = some true := by
  have hrl : (ranks.length : Int) ≤ 9223372036854775807 := by have := hr.1; omega
  unfold law_TotalsMatch
  rw [Total_eq, GraphError_eq]
  simp only [bind_sm, When_eq]
  rw [ContainsFunc_int_eq ranks law_TotalsMatch_1 rankOut hrl (fun x _ => by unfold law_TotalsMatch_1 rankOut; simp [In_eq])]
  simp only [bind_sm]
  rw [First_eq (by simp)]
  simp only [bind_sm, layers_eq, gd_true]
  unfold totalOf
  by_cases hg : graphErr n l = 0
  · by_cases hn : (ranks.length : Int) = n
    · cases hra : ranks.any rankOut with
      | true => simp [hg, hn, law_is_int]
      | false =>
        obtain ⟨_, _, hl, hall⟩ := graphErr_zero hg
        have key : ∀ (m : List Link), (∀ x ∈ m, x ∈ l) → ∀ (s : Int × Int), (s.1 = 0 ∨ s.1 = 7) → lgo (fun (x : Link) (s : Int × Int) => some (firstErr [s.1, if gx ranks x.To ≤ gx ranks x.From then 7 else 0], W (s.2 + stepD ranks x))) m s =
            some (if s.1 = 7 ∨ m.any (fun x => decide (gx ranks x.To ≤ gx ranks x.From)) = true then 7 else 0, sumD ranks m s.2) := by
          intro m
          induction m with
          | nil => rintro _ ⟨a, b⟩ (h | h) <;> simp at h <;> subst h <;> rfl
          | cons x m ih =>
            rintro hm ⟨a, b⟩ hab
            rw [lgo]
            simp only
            rw [ih (fun y hy => hm y (by simp [hy]))]
            · rcases hab with h | h <;> simp at h <;> subst h
              · by_cases hle : gx ranks x.To ≤ gx ranks x.From <;> simp [hle, sumD]
              · simp [sumD]
            · rcases hab with h | h <;> simp at h <;> subst h
              · by_cases hle : gx ranks x.To ≤ gx ranks x.From <;> simp [hle]
              · simp
        simp only [hg, hn, ne_eq, not_true_eq_false, if_false, decide_true, Bool.not_true, Bool.false_eq_true, firstErr_cons, firstErr_nil, if_true, cond_true]
        rw [rfor_list (fun (x : Link) (s : Int × Int) => some (firstErr [s.1, if gx ranks x.To ≤ gx ranks x.From then 7 else 0], W (s.2 + stepD ranks x))) (by omega) (fun i s hi => ?_), key l (fun _ h => h) (0, 0) (.inl rfl)]
        · simp only [bind_sm]
          cases hb : l.any (fun x => decide (gx ranks x.To ≤ gx ranks x.From)) with
          | true => simp [law_is_int]
          | false => simp [law_is_int, law_TotalsMatch_2]
        · unfold law_TotalsMatch_L1
          obtain ⟨h1, h2, g1, g2, g3⟩ := stepD_bd hg hn hra (gx_mem hi)
          rw [need_of hi]
          simp only [bnd_eq]
          rw [need_of h1, need_of h2, need_of h1, need_of h2, g3]
          simp only [When_eq, bind_sm, decide_eq_true_eq]
          rw [First_eq (by simp)]
          rfl
    · simp [hg, hn, law_is_int]
  · simp [hg, law_is_int]

end Go.DB
