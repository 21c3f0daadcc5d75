/-
  The document draws a tree: levels, and how far a branch is moved beside its elder siblings.
-/
import Derived.Test.YtakkmmhjohadaaaTdmPuTidyA
import Derived.Test.YtakkmmhjohadaaaTdmPuMap
set_option linter.unusedSimpArgs false
set_option linter.unusedVariables false
namespace Go.DB
open Go Go.RowKit

/-- The level of a node. -/
noncomputable def LV (kd : Int → List Int) (v : Int) : Nat := open Classical in if h : ∃ q, v ∈ lev kd q then h.choose else 0
theorem Fo.LV_eq {n : Nat} {kd : Int → List Int} (h : Fo n kd) {q : Nat} {v : Int} (hv : v ∈ lev kd q) : LV kd v = q := by
  have hx : ∃ q, v ∈ lev kd q := ⟨q, hv⟩
  unfold LV
  rw [dif_pos hx]
  exact h.lev_one hx.choose_spec hv

section
variable {t : List Branch} {m : Nat} {gap : Int}

theorem kid_lt (h : Dw t m gap) {i : Nat} {k c : Int} (hk : k ∈ lev (kidsOf t) i) (hc : c ∈ kidsOf t k) : c ∈ lev (kidsOf t) (i + 1) ∧ i + 1 < m := by
  have h1 := lev_kid hk hc
  refine ⟨h1, ?_⟩
  rcases Nat.lt_or_ge (i + 1) m with h5 | h5
  · exact h5
  · have := lev_nil h.ok.nil (i + 1 - m)
    rw [show m + (i + 1 - m) = i + 1 by omega] at this
    rw [this] at h1; cases h1

theorem node_dr (h : Dw t m gap) {i : Nat} {k : Int} (hi : i < m) (hk : k ∈ lev (kidsOf t) i) :
    SK t m gap k ≠ [] ∧ ∃ lo hi, Dr (wOf t) gap (levf (kidsOf t) [k]) (fun v => PX t m gap v + SH t m gap v - SH t m gap k) (SK t m gap k) lo hi ∧ hi - lo ≤ 2001 * (cn (kidsOf t) m k : Int) - 1000 :=
  ⟨by rw [show SK t m gap k = _ from h.ok.fo.sk_eq (wOf t) gap h.ok.nil hi hk]; simp, h.ok.fo.dr h.ok.nil h.ok.w' h.g0 h.g1 (SH_sh h) hi hk⟩

/-- The first j branches below a node, drawn beside each other. -/
theorem part_dr (h : Dw t m gap) {i : Nat} {k : Int} (hi : i < m) (hk : k ∈ lev (kidsOf t) i) {j : Nat} (j1 : 1 ≤ j) (j2 : j ≤ (kidsOf t k).length) :
    (∃ lo hi, Dr (wOf t) gap (levf (kidsOf t) ((kidsOf t k).take j)) (fun v => PX t m gap v + SH t m gap v - SH t m gap k) (belP (kidsOf t) (wOf t) gap m k j) lo hi) ∧ belP (kidsOf t) (wOf t) gap m k j ≠ [] := by
  have hsh := (SH_sh h).kid i k hk
  have hmt := mov_take (kd := kidsOf t) (w := wOf t) (gap := gap) (m := m) (k := k) j j2
  have hml : (mov (kidsOf t) (wOf t) gap m k).length = (kidsOf t k).length := by unfold mov; rw [run_len]; simp
  have hc : ∀ x ∈ kidsOf t k, _ := fun x hx => node_dr h (kid_lt h hk hx).2 (kid_lt h hk hx).1
  cases hkd : kidsOf t k with
  | nil => rw [hkd] at j2; simp at j2; omega
  | cons c cs' =>
    obtain ⟨j', rfl⟩ : ∃ j', j = j' + 1 := ⟨j - 1, by omega⟩
    have htk : (kidsOf t k).take (j' + 1) = c :: cs'.take j' := by rw [hkd]; rfl
    have htk' : (c :: cs').take (j' + 1) = c :: cs'.take j' := rfl
    generalize hcs : cs'.take j' = cs at htk htk'
    have hcl : cs.length ≤ cs'.length ∧ cs.length = min j' cs'.length := by rw [← hcs, List.length_take]; omega
    have hcm : ∀ x ∈ cs, x ∈ kidsOf t k := fun x hx => by
      rw [hkd]; exact List.mem_cons_of_mem _ (List.mem_of_mem_take (by rw [hcs]; exact hx))
    have hrun : run gap [] ((c :: cs).map (sk (kidsOf t) (wOf t) gap m)) = ((run gap (SK t m gap c) (cs.map (sk (kidsOf t) (wOf t) gap m))).1, 0 :: (run gap (SK t m gap c) (cs.map (sk (kidsOf t) (wOf t) gap m))).2) := by
      simp only [List.map_cons, run, mvOf_nil, mrg_zero]
    have hbel : belP (kidsOf t) (wOf t) gap m k (j' + 1) = (run gap (SK t m gap c) (cs.map (sk (kidsOf t) (wOf t) gap m))).1 := by unfold belP; rw [htk, hrun]
    rw [htk, hrun] at hmt
    simp only at hmt
    have hmov : ∀ q, q < j' + 1 → (mov (kidsOf t) (wOf t) gap m k)[q]? = (0 :: (run gap (SK t m gap c) (cs.map (sk (kidsOf t) (wOf t) gap m))).2)[q]? := fun q hq => by
      rw [hmt, List.getElem?_take, if_pos hq]
    have hmv : ∀ (q : Nat) (hq : q < (mov (kidsOf t) (wOf t) gap m k).length) (hq' : q < j' + 1) {y : Int}, (0 :: (run gap (SK t m gap c) (cs.map (sk (kidsOf t) (wOf t) gap m))).2)[q]? = some y → (mov (kidsOf t) (wOf t) gap m k)[q] = y := fun q hq hq' y hy => by
      have := hmov q hq'
      rw [hy, List.getElem?_eq_getElem hq] at this
      exact Option.some.inj this
    have hlen : (kidsOf t k).length = cs'.length + 1 := by rw [hkd]; rfl
    obtain ⟨hs0, lo0, hi0, d0, bd0⟩ := hc c (by rw [hkd]; simp)
    have hsc : SH t m gap c = SH t m gap k := by
      have h1 := hsh 0 (by omega)
      rw [hmv 0 (by omega) (by omega) (y := 0) rfl] at h1
      have h2 : (kidsOf t k)[0]'(by omega) = c := by
        have : (kidsOf t k)[0]? = some c := by rw [hkd]; rfl
        rw [List.getElem?_eq_getElem (by omega)] at this
        exact Option.some.inj this
      rw [h2] at h1; omega
    have hscs : ∀ (q : Nat) (hq : q < cs.length), SH t m gap cs[q] = SH t m gap k + ((run gap (SK t m gap c) (cs.map (sk (kidsOf t) (wOf t) gap m))).2[q]'(by rw [run_len]; simpa using hq)) := fun q hq => by
      have h1 := hsh (q + 1) (by omega)
      have hql : q < (run gap (SK t m gap c) (cs.map (sk (kidsOf t) (wOf t) gap m))).2.length := by rw [run_len]; simpa using hq
      rw [hmv (q + 1) (by omega) (by omega) (y := (run gap (SK t m gap c) (cs.map (sk (kidsOf t) (wOf t) gap m))).2[q]) (by rw [List.getElem?_cons_succ, List.getElem?_eq_getElem hql])] at h1
      have h2 : (kidsOf t k)[q + 1]'(by omega) = cs[q] := by
        have e1 : (kidsOf t k)[q + 1]? = some cs[q] := by
          rw [hkd, List.getElem?_cons_succ]
          have : cs[q]? = cs'[q]? := by rw [← hcs, List.getElem?_take, if_pos (by omega)]
          rw [← this, List.getElem?_eq_getElem hq]
        rw [List.getElem?_eq_getElem (by omega)] at e1
        exact Option.some.inj e1
      rw [h2] at h1; exact h1
    rw [hsc] at d0
    obtain ⟨lo, hi', g1, g2, g3⟩ := Dr.all (w := wOf t) (gap := gap) (N := cn (kidsOf t) m) (P := PX t m gap) (S := sk (kidsOf t) (wOf t) gap m) (sh := SH t m gap) (o := SH t m gap k) h.g0 h.g1 (fun x => (h.ok.w' x).1) cs [c] (SK t m gap c) lo0 hi0 hs0 d0 (by simpa using bd0)
      (fun x hx => hc x (hcm x hx)) hscs
    rw [← hbel] at g1 g3
    rw [htk']
    exact ⟨⟨lo, hi', g1⟩, g3⟩
end
end Go.DB
