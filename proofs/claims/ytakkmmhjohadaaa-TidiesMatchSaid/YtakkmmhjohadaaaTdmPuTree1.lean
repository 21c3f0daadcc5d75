/-
  Trees are checked: the code and the reference agree.
-/
import Derived.Test.YtakkmmhjohadaaaTdmPuTree0
set_option linter.unusedSimpArgs false
set_option linter.unusedVariables false
namespace Go.DB
open Go Go.RowKit

/-- Two loops over the same numbers do the same. -/
theorem rforE_both {σ O : Type} {n : Int} {step step' : Int → σ → Option (Res σ O)} {fin : σ → O} {s0 : σ} (I : Nat → σ → Prop) (post : O → Prop) (hn : n ≤ 9223372036854775807) (h0 : I 0 s0)
    (hs : ∀ (i : Nat) s, (i : Int) < n → I i s → step i s = step' i s ∧ ((∃ s', step i s = some (.nx s') ∧ I (i + 1) s') ∨ ∃ e, step i s = some (.ab e) ∧ post e))
    (hf : ∀ s, I n.toNat s → post (fin s)) : rforE n step fin s0 = rforE n step' fin s0 ∧ ∃ e, rforE n step fin s0 = some e ∧ post e := by
  refine ⟨?_, rforE_inv I post hn h0 (fun i s hi hI => (hs i s hi hI).2) hf⟩
  rw [rforE_eq hn, rforE_eq hn]
  have key : ∀ (k i : Nat) (s : σ), i + k = n.toNat → I i s → rgoE step fin k (i : Int) s = rgoE step' fin k (i : Int) s := by
    intro k
    induction k with
    | zero => intro i s hk hI; rfl
    | succ k ih =>
      intro i s hk hI
      simp only [rgoE]
      obtain ⟨h1, h2⟩ := hs i s (by omega) hI
      rw [← h1]
      rcases h2 with ⟨s', h2, h3⟩ | ⟨e, h2, h3⟩
      · rw [h2]
        have := ih (i + 1) s' (by omega) h3
        simpa using this
      · rw [h2]
  exact key n.toNat 0 s0 (by omega) h0

theorem first2 (a b : Int) : ref_First [a, b] = some (firstErr [a, b]) := First_eq (by simp)
theorem first3 (a b c : Int) : ref_First [a, b, c] = some (firstErr [a, b, c]) := First_eq (by simp)

theorem check_kids {t : List Branch} {v : Branch} {s : List Bool} {D : List Int} (hn : t.length ≤ 300) (hv : v.Kids.length ≤ 9223372036854775807) (h : Mk t.length s D) :
    rforE (v.Kids.length : Int) (tree_Check_L2 t v) (fun s => (Res.nx s : Res (List Bool) (Res (List Bool) Int))) s = rforE (v.Kids.length : Int) (ref_TreeError_L2 t v) (fun s => Res.nx s) s ∧
    ∃ e, rforE (v.Kids.length : Int) (tree_Check_L2 t v) (fun s => (Res.nx s : Res (List Bool) (Res (List Bool) Int))) s = some e ∧ ((∃ c, e = .ab (.ab c) ∧ c ≠ 0) ∨ ∃ s', e = .nx s' ∧ Mk t.length s' (D ++ v.Kids)) := by
  refine rforE_both (fun i s => Mk t.length s (D ++ v.Kids.take i)) _ (by omega) (by simpa using h) (fun i s hi hI => ?_) (fun s hI => .inr ⟨s, rfl, by simpa using hI⟩)
  have hi' : i < v.Kids.length := by omega
  have hin : inR v.Kids (i : Int) := ⟨by omega, hi⟩
  unfold tree_Check_L2 ref_TreeError_L2
  rw [need_of hin, need_of hin]
  simp only [bnd_eq, In_eq, bind_sm, When_eq, first2]
  have hk : v.Kids.take (i + 1) = v.Kids.take i ++ [gx v.Kids (i : Int)] := by rw [List.take_add_one, gx_nat hi', List.getElem?_eq_getElem hi']; rfl
  generalize gx v.Kids (i : Int) = k at hk ⊢
  rw [Wk (by omega) (by omega)]
  by_cases h1 : k < 0 ∨ (t.length : Int) ≤ k
  · have e1 : ((decide (k < 0)) || (decide ((t.length : Int) ≤ k))) = true := by simpa using h1
    have e2 : (decide (0 ≤ k ∧ k ≤ (t.length : Int) - 1)) = false := by simp; omega
    simp only [e1, e2, cond_true, Bool.not_false, true_and]
    exact .inr ⟨_, rfl, .inl ⟨_, rfl, by decide⟩⟩
  · have e1 : ((decide (k < 0)) || (decide ((t.length : Int) ≤ k))) = false := by simp; omega
    have e2 : (decide (0 ≤ k ∧ k ≤ (t.length : Int) - 1)) = true := by simp; omega
    have hr : inR s k := ⟨by omega, by rw [hI.len]; omega⟩
    simp only [e1, e2, cond_false, Bool.not_true]
    rw [need_of hr, need_of hr, need_of hr]
    by_cases h2 : k = 0
    · subst h2
      simp only [decide_true, cond_true, if_true, firstErr_cons, firstErr_nil, show ¬ ((13 : Int) = 0) by decide, if_false, decide_false, Bool.not_false, true_and]
      exact .inr ⟨_, rfl, .inl ⟨_, rfl, by decide⟩⟩
    · simp only [h2, decide_false, cond_false, Bool.false_eq_true, if_false, firstErr_cons, firstErr_nil, if_true]
      have hm := hI.mem k (by omega) (by omega)
      cases hg : gx s k with
      | true =>
        simp only [cond_true, if_true, show ¬ ((6 : Int) = 0) by decide, if_false, decide_false, Bool.not_false, true_and]
        exact .inr ⟨_, rfl, .inl ⟨_, rfl, by decide⟩⟩
      | false =>
        simp only [cond_false, Bool.false_eq_true, if_false, if_true, decide_true, Bool.not_true, need_of hr, true_and]
        refine .inl ⟨_, rfl, ?_⟩
        have := hI.add (k := k) (by omega) (by omega) (fun hx => by rw [hm.2 hx] at hg; cases hg)
        rw [hk, ← List.append_assoc]; exact this

theorem check_loop {t : List Branch} (h0 : 0 < t.length) (hn : t.length ≤ 300) (ht : fits t) :
    rforE (t.length : Int) (tree_Check_L1 t) (fun s => (Res.nx s : Res (List Bool) Int)) (List.replicate t.length false) = rforE (t.length : Int) (ref_TreeError_L1 t) (fun s => Res.nx s) (List.replicate t.length false) ∧
    ∃ e, rforE (t.length : Int) (tree_Check_L1 t) (fun s => (Res.nx s : Res (List Bool) Int)) (List.replicate t.length false) = some e ∧ ((∃ c, e = .ab c ∧ c ≠ 0) ∨ ∃ s', e = .nx s' ∧ Mk t.length s' (t.flatMap (·.Kids)) ∧ ∀ b ∈ t, sideOK b) := by
  refine rforE_both (fun i s => Mk t.length s ((t.take i).flatMap (·.Kids)) ∧ ∀ b ∈ t.take i, sideOK b) _ (by omega) ⟨⟨by simp, fun j h0 hj => ?_, by simp, by simp⟩, by simp⟩ (fun i s hi hI => ?_) (fun s hI => .inr ⟨s, rfl, by simpa using hI⟩)
  · have hj' : j.toNat < t.length := by omega
    simp [gx, List.getElem?_replicate, hj']
  have hi' : i < t.length := by omega
  have hin : inR t (i : Int) := ⟨by omega, hi⟩
  unfold tree_Check_L1 ref_TreeError_L1 tree_Check_1
  rw [need_of hin, need_of hin]
  simp only [bnd_eq, In_eq, bind_sm]
  have hk : t.take (i + 1) = t.take i ++ [gx t (i : Int)] := by rw [List.take_add_one, gx_nat hi', List.getElem?_eq_getElem hi']; rfl
  have hf := (fits_list.1 ht).2 _ (gx_mem hin)
  generalize gx t (i : Int) = v at hk hf ⊢
  have hv : v.Kids.length ≤ 9223372036854775807 := (fits_list.1 hf.2.2).1
  obtain ⟨k1, e, k2, k3⟩ := check_kids (v := v) hn hv hI.1
  by_cases hw : 1 ≤ v.W_ ∧ v.W_ ≤ 1000
  · by_cases hh : 1 ≤ v.H ∧ v.H ≤ 1000
    · have e1 : (decide (1 ≤ v.W_) && decide (v.W_ ≤ 1000)) = true := by simpa using hw
      have e2 : (decide (1 ≤ v.H) && decide (v.H ≤ 1000)) = true := by simpa using hh
      simp only [e1, e2, hw, hh, and_self, decide_true, Bool.not_true, Bool.not_false, gd_true, bind_sm, Bool.or_self, cond_false]
      refine ⟨k1, ?_⟩
      rcases k3 with ⟨c, rfl, hc⟩ | ⟨s', rfl, hs'⟩
      · exact .inr ⟨_, k2, .inl ⟨c, rfl, hc⟩⟩
      · refine .inl ⟨_, k2, ?_, ?_⟩
        · rw [hk, List.flatMap_append]; simpa using hs'
        · rw [hk]
          intro b hb
          rcases List.mem_append.1 hb with hb | hb
          · exact hI.2 b hb
          · simp at hb; subst hb; exact ⟨hw.1, hw.2, hh.1, hh.2⟩
    · have e1 : (decide (1 ≤ v.W_) && decide (v.W_ ≤ 1000)) = true := by simpa using hw
      have e2 : (decide (1 ≤ v.H) && decide (v.H ≤ 1000)) = false := by simp; omega
      have e3 : decide (1 ≤ v.H ∧ v.H ≤ 1000) = false := by simp; omega
      refine ⟨?_, .inr ⟨.ab 3, ?_, .inl ⟨_, rfl, by decide⟩⟩⟩ <;> simp [e1, e2, e3, hw]
  · have e1 : (decide (1 ≤ v.W_) && decide (v.W_ ≤ 1000)) = false := by simp; omega
    have e3 : decide (1 ≤ v.W_ ∧ v.W_ ≤ 1000) = false := by simp; omega
    refine ⟨?_, .inr ⟨.ab 3, ?_, .inl ⟨_, rfl, by decide⟩⟩⟩ <;> simp [e1, e3]

theorem levelsOf_eq (t : List Branch) : ref_LevelsOf t = tree_levels t := rfl

theorem Check_eq (t : List Branch) (ht : fits t) : tree_Check t = ref_TreeError t ∧ ∃ e, tree_Check t = some e ∧ (e = 0 → ∃ m, TreeOK t m) := by
  unfold tree_Check ref_TreeError
  simp only [When_eq, bind_sm, first2, firstErr_cons, firstErr_nil]
  by_cases h0 : t.length = 0
  · have e0 : decide ((t.length : Int) = 0) = true := by simp [h0]
    simp only [e0, cond_true, if_true, show ¬ ((9 : Int) = 0) by decide, if_false, decide_false, Bool.not_false, true_and]
    exact ⟨_, rfl, fun h => absurd h (by decide)⟩
  have e0 : decide ((t.length : Int) = 0) = false := by simp; exact List.length_pos_iff.1 (by omega)
  by_cases h1 : 300 < t.length
  · have e1 : decide ((300 : Int) < (t.length : Int)) = true := by simp; omega
    simp only [e0, e1, cond_false, cond_true, Bool.false_eq_true, if_false, if_true, show ¬ ((4 : Int) = 0) by decide, decide_false, Bool.not_false, true_and]
    exact ⟨_, rfl, fun h => absurd h (by decide)⟩
  have e1 : decide ((300 : Int) < (t.length : Int)) = false := by simp; omega
  simp only [e0, e1, cond_false, Bool.false_eq_true, if_false, if_true, decide_true, Bool.not_true, bnd_eq]
  rw [need_of (by omega), need_of (by omega)]
  simp only [Int.toNat_natCast]
  obtain ⟨k1, e, k2, k3⟩ := check_loop (by omega) (by omega) ht
  rw [← k1, k2]
  rcases k3 with ⟨c, rfl, hc⟩ | ⟨s, rfl, hs, hside⟩
  · simp only [bindR_ab, true_and]
    exact ⟨_, rfl, fun h => absurd h hc⟩
  simp only [bindR_nx]
  rw [need_of (by rw [segR_iff, hs.len]; omega), need_of (by rw [segR_iff, hs.len]; omega), Contains_bool_eq _ _ (by unfold seg; simp; rw [hs.len]; omega)]
  simp only [bind_sm]
  cases hx : decide (false ∈ seg s 1 (s.length : Int)) with
  | true => simp only [cond_true, true_and]; exact ⟨_, rfl, fun h => absurd h (by decide)⟩
  | false =>
    simp only [cond_false]
    have hfo := hs.fo (by omega)
    obtain ⟨m, m1, m2, m3, m4⟩ := hfo.ends
    have hl := levels_eq (by omega) hfo m3 m2 m4
    have hle := hfo.sn_le m
    rw [levelsOf_eq, hl]
    simp only [bind_sm]
    rw [levels_sum (step := tree_Check_L3 _) hfo (by omega) m2 (fun i s => rfl), levels_sum (step := ref_TreeError_L3 _) hfo (by omega) m2 (fun i s => rfl)]
    simp only [bind_sm]
    by_cases h2 : (sn (kidsOf t) m).length < t.length
    · have a1 : decide (((sn (kidsOf t) m).length : Int) < (t.length : Int)) = true := by simp; omega
      have a2 : decide (((sn (kidsOf t) m).length : Int) = (t.length : Int)) = false := by simp; omega
      simp only [a1, a2, cond_true, Bool.not_false, if_true, true_and]
      exact ⟨_, rfl, fun h => absurd h (by decide)⟩
    · have a1 : decide (((sn (kidsOf t) m).length : Int) < (t.length : Int)) = false := by simp; omega
      have a2 : decide (((sn (kidsOf t) m).length : Int) = (t.length : Int)) = true := by simp; omega
      simp only [a1, a2, cond_false, Bool.not_true, Bool.false_eq_true, if_false, true_and]
      exact ⟨_, rfl, fun _ => ⟨m, by omega, by omega, hfo, hside, m1, m2, m3, m4, by omega⟩⟩

end Go.DB
