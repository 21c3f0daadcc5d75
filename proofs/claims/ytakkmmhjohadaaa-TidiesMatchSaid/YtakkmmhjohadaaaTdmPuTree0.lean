/-
  Trees are checked: what is right is a tree.
-/
import Derived.Test.YtakkmmhjohadaaaTdmPuTrees
import Derived.Test.YtakkmmhjohadaaaTdmPuForest
set_option linter.unusedSimpArgs false
set_option linter.unusedVariables false
namespace Go.DB
open Go Go.RowKit

def kidsOf (t : List Branch) (k : Int) : List Int := (gx t k).Kids

/-- The marks s tell which numbers below n are in D. -/
structure Mk (n : Nat) (s : List Bool) (D : List Int) : Prop where
  len : s.length = n
  mem : ∀ j : Int, 0 ≤ j → j < n → (gx s j = true ↔ j ∈ D)
  rng : ∀ x ∈ D, 1 ≤ x ∧ x < n
  nd : D.Nodup

theorem gx_setB {α : Type} [Inhabited α] {l : List α} {i j : Int} {v : α} (hi : inR l i) (hj : 0 ≤ j) : gx (l.set i.toNat v) j = if j = i then v else gx l j := by
  obtain ⟨h0, h1⟩ := hi
  unfold gx
  rw [List.getElem?_set]
  by_cases h : j = i
  · subst h
    have : j.toNat < l.length := by omega
    simp [this]
  · have : ¬ i.toNat = j.toNat := by omega
    simp [this, h]

theorem Mk.add {n : Nat} {s : List Bool} {D : List Int} {k : Int} (h : Mk n s D) (h1 : 1 ≤ k) (h2 : k < n) (h3 : k ∉ D) : Mk n (s.set k.toNat true) (D ++ [k]) where
  len := by rw [List.length_set]; exact h.len
  mem j h0 hj := by
    rw [gx_setB ⟨by omega, by rw [h.len]; exact h2⟩ h0]
    by_cases e : j = k
    · subst e; simp
    · simp only [e, if_false, List.mem_append, List.mem_singleton, or_false]; exact h.mem j h0 hj
  rng x hx := by
    rcases List.mem_append.1 hx with hx | hx
    · exact h.rng x hx
    · simp at hx; subst hx; exact ⟨h1, h2⟩
  nd := by
    rw [List.nodup_append]
    refine ⟨h.nd, by simp, fun a ha b hb => ?_⟩
    simp at hb; subst hb
    exact fun e => h3 (e ▸ ha)

/-- What a node that is right looks like. -/
def sideOK (b : Branch) : Prop := 1 ≤ b.W_ ∧ b.W_ ≤ 1000 ∧ 1 ≤ b.H ∧ b.H ≤ 1000

theorem check_kidsA {t : List Branch} {v : Branch} {s : List Bool} {D : List Int} (hn : t.length ≤ 300) (hv : v.Kids.length ≤ 9223372036854775807) (h : Mk t.length s D) :
    ∃ e, rforE (v.Kids.length : Int) (tree_Check_L2 t v) (fun s => (Res.nx s : Res (List Bool) (Res (List Bool) Int))) s = some e ∧ ((∃ c, e = .ab (.ab c) ∧ c ≠ 0) ∨ ∃ s', e = .nx s' ∧ Mk t.length s' (D ++ v.Kids)) := by
  refine rforE_inv (fun i s => Mk t.length s (D ++ v.Kids.take i)) _ (by omega) (by simpa using h) (fun i s hi hI => ?_) (fun s hI => .inr ⟨s, rfl, by simpa using hI⟩)
  have hi' : i < v.Kids.length := by omega
  have hin : inR v.Kids (i : Int) := ⟨by omega, hi⟩
  unfold tree_Check_L2
  rw [need_of hin]
  simp only [bnd_eq]
  have hk : v.Kids.take (i + 1) = v.Kids.take i ++ [gx v.Kids (i : Int)] := by rw [List.take_add_one, gx_nat hi', List.getElem?_eq_getElem hi']; rfl
  generalize gx v.Kids (i : Int) = k at hk ⊢
  by_cases h1 : k < 0 ∨ (t.length : Int) ≤ k
  · have e1 : ((decide (k < 0)) || (decide ((t.length : Int) ≤ k))) = true := by simpa using h1
    simp only [e1, cond_true]
    exact .inr ⟨_, rfl, .inl ⟨_, rfl, by decide⟩⟩
  · have e1 : ((decide (k < 0)) || (decide ((t.length : Int) ≤ k))) = false := by simp; omega
    have hr : inR s k := ⟨by omega, by rw [hI.len]; omega⟩
    simp only [e1, cond_false]
    rw [need_of hr, need_of hr]
    by_cases h2 : k = 0
    · subst h2
      simp only [decide_true, cond_true]
      exact .inr ⟨_, rfl, .inl ⟨_, rfl, by decide⟩⟩
    · simp only [h2, decide_false, cond_false]
      have hm := hI.mem k (by omega) (by omega)
      cases hg : gx s k with
      | true => exact .inr ⟨_, rfl, .inl ⟨_, rfl, by decide⟩⟩
      | false =>
        refine .inl ⟨_, rfl, ?_⟩
        have := hI.add (k := k) (by omega) (by omega) (fun hx => by rw [hm.2 hx] at hg; cases hg)
        rw [hk, ← List.append_assoc]; exact this

theorem check_loopA {t : List Branch} (h0 : 0 < t.length) (hn : t.length ≤ 300) (ht : fits t) :
    ∃ e, rforE (t.length : Int) (tree_Check_L1 t) (fun s => (Res.nx s : Res (List Bool) Int)) (List.replicate t.length false) = some e ∧ ((∃ c, e = .ab c ∧ c ≠ 0) ∨ ∃ s', e = .nx s' ∧ Mk t.length s' (t.flatMap (·.Kids)) ∧ ∀ b ∈ t, sideOK b) := by
  refine rforE_inv (fun i s => Mk t.length s ((t.take i).flatMap (·.Kids)) ∧ ∀ b ∈ t.take i, sideOK b) _ (by omega) ⟨⟨by simp, fun j h0 hj => ?_, by simp, by simp⟩, by simp⟩ (fun i s hi hI => ?_) (fun s hI => .inr ⟨s, rfl, by simpa using hI⟩)
  · have hj' : j.toNat < t.length := by omega
    simp [gx, List.getElem?_replicate, hj']
  have hi' : i < t.length := by omega
  have hin : inR t (i : Int) := ⟨by omega, hi⟩
  unfold tree_Check_L1 tree_Check_1
  rw [need_of hin]
  simp only [bnd_eq, bind_sm]
  have hk : t.take (i + 1) = t.take i ++ [gx t (i : Int)] := by rw [List.take_add_one, gx_nat hi', List.getElem?_eq_getElem hi']; rfl
  have hf := (fits_list.1 ht).2 _ (gx_mem hin)
  generalize gx t (i : Int) = v at hk hf ⊢
  have hv : v.Kids.length ≤ 9223372036854775807 := (fits_list.1 hf.2.2).1
  obtain ⟨e, k2, k3⟩ := check_kidsA (v := v) hn hv hI.1
  by_cases hw : 1 ≤ v.W_ ∧ v.W_ ≤ 1000
  · by_cases hh : 1 ≤ v.H ∧ v.H ≤ 1000
    · have e1 : (decide (1 ≤ v.W_) && decide (v.W_ ≤ 1000)) = true := by simpa using hw
      have e2 : (decide (1 ≤ v.H) && decide (v.H ≤ 1000)) = true := by simpa using hh
      simp only [e1, e2, Bool.not_true, Bool.not_false, gd_true, bind_sm, Bool.or_self, cond_false]
      rcases k3 with ⟨c, rfl, hc⟩ | ⟨s', rfl, hs'⟩
      · exact .inr ⟨_, k2, .inl ⟨c, rfl, hc⟩⟩
      · refine .inl ⟨_, k2, ?_, ?_⟩
        · rw [hk, List.flatMap_append]; simpa using hs'
        · rw [hk]
          intro b hb
          rcases List.mem_append.1 hb with hb | hb
          · exact hI.2 b hb
          · simp at hb; subst hb; exact ⟨hw.1, hw.2, hh.1, hh.2⟩
    · have e1 : (decide (1 ≤ v.W_) && decide (v.W_ ≤ 1000)) = true := by simpa using hw
      have e2 : (decide (1 ≤ v.H) && decide (v.H ≤ 1000)) = false := by simp; omega
      refine .inr ⟨.ab 3, ?_, .inl ⟨_, rfl, by decide⟩⟩; simp [e1, e2]
  · have e1 : (decide (1 ≤ v.W_) && decide (v.W_ ≤ 1000)) = false := by simp; omega
    refine .inr ⟨.ab 3, ?_, .inl ⟨_, rfl, by decide⟩⟩; simp [e1]

theorem Mk.fo {t : List Branch} {s : List Bool} (h0 : 0 < t.length) (h : Mk t.length s (t.flatMap (·.Kids))) : Fo t.length (kidsOf t) := by
  have hnd := h.nd
  unfold List.Nodup at hnd
  rw [List.pairwise_flatMap] at hnd
  obtain ⟨h1, h2⟩ := hnd
  have hk : ∀ k : Int, (hk0 : 0 ≤ k) → (hk1 : k < t.length) → kidsOf t k = (t[k.toNat]'(by omega)).Kids := fun k hk0 hk1 => by unfold kidsOf; rw [gx_get ⟨hk0, hk1⟩]
  refine ⟨h0, fun k hk0 hk1 x hx => ?_, fun k hk0 hk1 => ?_, fun k j hk0 hk1 hj0 hj1 hne x hx hx2 => ?_⟩
  · rw [hk k hk0 hk1] at hx
    exact h.rng x (List.mem_flatMap.2 ⟨_, List.getElem_mem _, hx⟩)
  · rw [hk k hk0 hk1]; exact h1 _ (List.getElem_mem _)
  · rw [hk k hk0 hk1] at hx
    rw [hk j hj0 hj1] at hx2
    rw [List.pairwise_iff_getElem] at h2
    rcases Nat.lt_or_gt_of_ne (show k.toNat ≠ j.toNat by omega) with hlt | hlt
    · exact h2 k.toNat j.toNat (by omega) (by omega) hlt x hx x hx2 rfl
    · exact h2 j.toNat k.toNat (by omega) (by omega) hlt x hx2 x hx rfl

/-- A loop that gathers rows. -/
theorem rfor_flat {l : List Int} {step : Int → List Int → Option (List Int)} (f : Int → List Int) (hl : (l.length : Int) ≤ 9223372036854775807) (hb : (l.flatMap f).length ≤ 1073741824)
    (hs : ∀ (i : Nat) s, i < l.length → s.length + (f (gx l (i : Int))).length ≤ 1073741824 → step i s = some (s ++ f (gx l (i : Int)))) : rfor (l.length : Int) step [] = some (l.flatMap f) := by
  obtain ⟨s, h1, h2⟩ := rfor_inv (n := (l.length : Int)) (step := step) (s0 := []) (fun i s => s = (l.take i).flatMap f) hl (by simp) (fun i s hi hI => by
    have hi' : i < l.length := by omega
    have hk : l.take (i + 1) = l.take i ++ [gx l (i : Int)] := by rw [List.take_add_one, gx_nat hi', List.getElem?_eq_getElem hi']; rfl
    have e : (l.take (i + 1)).flatMap f = s ++ f (gx l (i : Int)) := by rw [hk, List.flatMap_append, hI]; simp
    refine ⟨_, hs i s hi' ?_, e.symm⟩
    rw [← List.length_append, ← e]
    have : (l.flatMap f).length = ((l.take (i + 1)).flatMap f).length + ((l.drop (i + 1)).flatMap f).length := by rw [← List.length_append, ← List.flatMap_append, List.take_append_drop]
    omega)
  rw [h1, h2]; simp

/-- The levels that are found. -/
theorem levels_eq {t : List Branch} (hn : t.length ≤ 300) (h : Fo t.length (kidsOf t)) {m : Nat} (hm : lev (kidsOf t) m = []) (hm1 : m ≤ t.length) (hne : ∀ i, i < m → lev (kidsOf t) i ≠ []) :
    tree_levels t = some ((List.range m).map (lev (kidsOf t))) := by
  unfold tree_levels
  simp only [bnd_eq]
  obtain ⟨e, he, hp⟩ := loop_nat (body := tree_levels_L1 t) (fun i => ((List.range i).map (lev (kidsOf t)), lev (kidsOf t) i)) (fun e => e = (List.range m).map (lev (kidsOf t))) 0 m (by omega) (fun i _ hi => by
    left
    unfold tree_levels_L1
    have h1 := List.length_pos_iff.2 (hne i hi)
    have e1 : decide (0 < ((lev (kidsOf t) i).length : Int)) = true := by simp; omega
    have h2 := h.lev_le i
    have h3 := h.lev_le (i + 1)
    simp only [e1, cond_true, bnd_eq]
    have h4 : lev (kidsOf t) (i + 1) = (lev (kidsOf t) i).flatMap (kidsOf t) := rfl
    rw [need_of (by rw [room_iff]; simp; omega), rfor_flat (kidsOf t) (by omega) (by rw [← h4]; omega) (fun j s hj hb => by
      unfold tree_levels_L2
      have hin : inR (lev (kidsOf t) i) (j : Int) := ⟨by omega, by omega⟩
      have hr := h.lev_in (gx_mem hin)
      rw [need_of hin, need_of ⟨hr.1, hr.2⟩]
      exact need_of (show room _ from hb))]
    rw [bind_sm, List.range_succ, List.map_append]; rfl) (by
    refine ⟨_, ?_, rfl⟩
    unfold tree_levels_L1
    simp [hm])
  have e0 : loop (tree_levels_L1 t) ([], [0]) = some e := he
  rw [e0, hp]; rfl

/-- A tree that is right; m is how many levels there are. -/
structure TreeOK (t : List Branch) (m : Nat) : Prop where
  pos : 0 < t.length
  len : t.length ≤ 300
  fo : Fo t.length (kidsOf t)
  side : ∀ b ∈ t, sideOK b
  m1 : 1 ≤ m
  m2 : m ≤ t.length
  nil : lev (kidsOf t) m = []
  ne : ∀ i, i < m → lev (kidsOf t) i ≠ []
  all : (sn (kidsOf t) m).length = t.length

theorem TreeOK.levels {t : List Branch} {m : Nat} (h : TreeOK t m) : tree_levels t = some ((List.range m).map (lev (kidsOf t))) := levels_eq h.len h.fo h.nil h.m2 h.ne
theorem TreeOK.mem {t : List Branch} {m : Nat} (h : TreeOK t m) {j : Int} (h0 : 0 ≤ j) (h1 : j < t.length) : ∃ i, i < m ∧ j ∈ lev (kidsOf t) i :=
  mem_sn.1 (nodup_all (h.fo.sn m).1 (h.fo.sn m).2 (by rw [h.all]; exact Nat.le_refl _) j h0 h1)

theorem levels_sum {kd : Int → List Int} {n m : Nat} (h : Fo n kd) (hn : n ≤ 300) (hm : m ≤ n) {step : Int → Int → Option Int}
    (hs : ∀ i s, step i s = need (inR ((List.range m).map (lev kd)) i) (some (W (s + ((gx ((List.range m).map (lev kd)) i).length : Int))))) : rfor (((List.range m).map (lev kd)).length : Int) step 0 = some ((sn kd m).length : Int) := by
  obtain ⟨s, h1, h2⟩ := rfor_inv (n := (((List.range m).map (lev kd)).length : Int)) (step := step) (s0 := 0) (fun i s => s = ((sn kd i).length : Int)) (by simp; omega) rfl (fun i s hi hI => by
    have hi' : i < m := by simp at hi; omega
    have h3 := h.sn_le (i + 1)
    have e : gx ((List.range m).map (lev kd)) (i : Int) = lev kd i := by rw [gx_nat (by simpa using hi')]; simp
    rw [hs, need_of ⟨by omega, hi⟩, e, hI]
    refine ⟨_, rfl, ?_⟩
    have e2 : sn kd (i + 1) = sn kd i ++ lev kd i := rfl
    rw [e2, List.length_append] at h3 ⊢
    rw [Wk (by omega) (by omega)]; simp)
  rw [h1, h2]; simp

theorem Check_ok (t : List Branch) (ht : fits t) : ∃ e, tree_Check t = some e ∧ (e = 0 → ∃ m, TreeOK t m) := by
  unfold tree_Check
  by_cases h0 : t.length = 0
  · have e0 : decide ((t.length : Int) = 0) = true := by simp [h0]
    simp only [e0, cond_true]
    exact ⟨_, rfl, fun h => absurd h (by decide)⟩
  have e0 : decide ((t.length : Int) = 0) = false := by simp; exact List.length_pos_iff.1 (by omega)
  by_cases h1 : 300 < t.length
  · have e1 : decide ((300 : Int) < (t.length : Int)) = true := by simp; omega
    simp only [e0, e1, cond_false, cond_true]
    exact ⟨_, rfl, fun h => absurd h (by decide)⟩
  have e1 : decide ((300 : Int) < (t.length : Int)) = false := by simp; omega
  simp only [e0, e1, cond_false, bnd_eq]
  rw [need_of (by omega)]
  simp only [Int.toNat_natCast]
  obtain ⟨e, k2, k3⟩ := check_loopA (by omega) (by omega) ht
  rw [k2]
  rcases k3 with ⟨c, rfl, hc⟩ | ⟨s, rfl, hs, hside⟩
  · simp only [bindR_ab]
    exact ⟨_, rfl, fun h => absurd h hc⟩
  simp only [bindR_nx]
  rw [need_of (by rw [segR_iff, hs.len]; omega), Contains_bool_eq _ _ (by unfold seg; simp; rw [hs.len]; omega)]
  simp only [bind_sm]
  cases hx : decide (false ∈ seg s 1 (s.length : Int)) with
  | true => simp only [cond_true]; exact ⟨_, rfl, fun h => absurd h (by decide)⟩
  | false =>
    simp only [cond_false]
    have hfo := hs.fo (by omega)
    obtain ⟨m, m1, m2, m3, m4⟩ := hfo.ends
    have hl := levels_eq (by omega) hfo m3 m2 m4
    have hle := hfo.sn_le m
    rw [hl]
    simp only [bind_sm]
    rw [levels_sum (step := tree_Check_L3 _) hfo (by omega) m2 (fun i s => rfl)]
    simp only [bind_sm]
    by_cases h2 : (sn (kidsOf t) m).length < t.length
    · have a1 : decide (((sn (kidsOf t) m).length : Int) < (t.length : Int)) = true := by simp; omega
      simp only [a1, cond_true]
      exact ⟨_, rfl, fun h => absurd h (by decide)⟩
    · have a1 : decide (((sn (kidsOf t) m).length : Int) < (t.length : Int)) = false := by simp; omega
      simp only [a1, cond_false]
      exact ⟨_, rfl, fun _ => ⟨m, by omega, by omega, hfo, hside, m1, m2, m3, m4, by omega⟩⟩

end Go.DB
