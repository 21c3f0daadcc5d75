/-
  Leaves, equal branches, halves, what is folded: code and reference in plain words.
-/
import Derived.Test.YtakkmmhjohadaaaTrePuTree1
set_option linter.unusedSimpArgs false
set_option linter.unusedVariables false
namespace Go.DB
open Go Go.RowKit

/-! Sums. -/

theorem sum_mem_le {α : Type} (f : α → Nat) : ∀ {l : List α} {x : α}, x ∈ l → f x ≤ (l.map f).sum
  | y :: l, x, h => by
    simp only [List.map_cons, List.sum_cons]
    rcases List.mem_cons.1 h with rfl | h
    · omega
    · have := sum_mem_le f h; omega
theorem sum_flat {α β : Type} (f : β → Nat) (g : α → List β) : ∀ l : List α, ((l.flatMap g).map f).sum = (l.map (fun x => ((g x).map f).sum)).sum
  | [] => rfl
  | x :: l => by simp [List.flatMap_cons, sum_flat f g l]
theorem sum_le_add {α : Type} (f g : α → Nat) : ∀ l : List α, (∀ x ∈ l, f x ≤ 1 + g x) → (l.map f).sum ≤ l.length + (l.map g).sum
  | [], _ => by simp
  | x :: l, h => by
    have h1 := h x (by simp)
    have h2 := sum_le_add f g l (fun y hy => h y (by simp [hy]))
    simp; omega
theorem sum_take_le (f : Int → Nat) (l : List Int) (i : Nat) : ((l.take i).map f).sum ≤ (l.map f).sum := by
  have : (l.map f).sum = ((l.take i).map f).sum + ((l.drop i).map f).sum := by rw [← List.sum_append_nat, ← List.map_append, List.take_append_drop]
  omega
theorem take_one {l : List Int} {i : Nat} (h : i < l.length) : l.take (i + 1) = l.take i ++ [gx l (i : Int)] := by rw [List.take_add_one, gx_nat h, List.getElem?_eq_getElem h]; rfl

/-! Leaves. -/

def lf (kd : Int → List Int) : Nat → Int → Nat
  | 0, _ => 0
  | d + 1, k => max 1 ((kd k).map (lf kd d)).sum

theorem Fo.lf_more {n : Nat} {kd : Int → List Int} (h : Fo n kd) {m : Nat} (hm : lev kd m = []) {i : Nat} {k : Int} (hi : i ≤ m) (hk : k ∈ lev kd i) : ∀ d', m - i ≤ d' → lf kd d' k = lf kd (m - i) k := by
  refine h.ind hm (fun d k => ∀ d', d ≤ d' → lf kd d' k = lf kd d k) (fun d i k hd hk ih d' hd' => ?_) (m - i) i k (by omega) hk
  obtain ⟨e, rfl⟩ : ∃ e, d' = e + 1 := ⟨d' - 1, by omega⟩
  show max 1 _ = max 1 _
  rw [List.map_congr_left (fun x hx => ih x hx e (by omega))]
/-- The leaves below a node. -/
def val (kd : Int → List Int) (m : Nat) (k : Int) : Nat := lf kd m k
theorem Fo.val_eq {n : Nat} {kd : Int → List Int} (h : Fo n kd) {m : Nat} (hm : lev kd m = []) {i : Nat} {k : Int} (hi : i < m) (hk : k ∈ lev kd i) : val kd m k = max 1 ((kd k).map (val kd m)).sum := by
  unfold val
  rw [h.lf_more hm (Nat.le_of_lt hi) hk m (by omega)]
  obtain ⟨d, hd⟩ : ∃ d, m - i = d + 1 := ⟨m - i - 1, by omega⟩
  rw [hd]
  show max 1 _ = max 1 _
  rw [List.map_congr_left (fun x hx => ?_)]
  have := h.lf_more hm (show i + 1 ≤ m by omega) (lev_kid hk hx) m (by omega)
  rw [this, show m - (i + 1) = d by omega]
theorem Fo.val_pos {n : Nat} {kd : Int → List Int} (h : Fo n kd) {m : Nat} (hm : lev kd m = []) {i : Nat} {k : Int} (hi : i < m) (hk : k ∈ lev kd i) : 1 ≤ val kd m k := by rw [h.val_eq hm hi hk]; omega
theorem Fo.val_sum {n : Nat} {kd : Int → List Int} (h : Fo n kd) {m : Nat} (hm : lev kd m = []) : ∀ d i, i + d = m → ((lev kd i).map (val kd m)).sum + (DB.sn kd i).length ≤ n
  | 0, i, hi => by
    have : i = m := by omega
    subst this
    rw [hm]; have := h.sn_le i; simpa using this
  | d + 1, i, hi => by
    have ih := h.val_sum hm d (i + 1) (by omega)
    have e1 : lev kd (i + 1) = (lev kd i).flatMap kd := rfl
    have e2 : DB.sn kd (i + 1) = DB.sn kd i ++ lev kd i := rfl
    rw [e1, sum_flat, e2, List.length_append] at ih
    have := sum_le_add (val kd m) (fun k => ((kd k).map (val kd m)).sum) (lev kd i) (fun k hk => by rw [h.val_eq hm (by omega) hk]; omega)
    omega
theorem Fo.kids_sum {n : Nat} {kd : Int → List Int} (h : Fo n kd) {m : Nat} (hm : lev kd m = []) {i : Nat} {k : Int} (hi : i < m) (hk : k ∈ lev kd i) : ((kd k).map (val kd m)).sum ≤ n := by
  have h1 := h.val_sum hm (m - (i + 1)) (i + 1) (by omega)
  have e1 : lev kd (i + 1) = (lev kd i).flatMap kd := rfl
  rw [e1, sum_flat] at h1
  have := sum_mem_le (fun k => ((kd k).map (val kd m)).sum) hk
  omega
theorem Fo.val_le {n : Nat} {kd : Int → List Int} (h : Fo n kd) {m : Nat} (hm : lev kd m = []) {i : Nat} {k : Int} (hi : i < m) (hk : k ∈ lev kd i) : val kd m k ≤ n := by
  have h1 := h.val_sum hm (m - i) i (by omega)
  have := sum_mem_le (val kd m) hk
  omega

/-- A sum that is run up. -/
theorem rfor_sum {l : List Int} {f : Int → Nat} {step : Int → Int → Option Int} (hl : (l.length : Int) ≤ 9223372036854775807) (hb : (l.map f).sum ≤ 1000)
    (hs : ∀ (i : Nat) s, i < l.length → step i s = some (W (s + f (gx l (i : Int))))) : rfor (l.length : Int) step 0 = some (((l.map f).sum : Nat) : Int) := by
  obtain ⟨s, h1, h2⟩ := rfor_inv (n := (l.length : Int)) (step := step) (s0 := 0) (fun i s => s = (((l.take i).map f).sum : Nat)) hl (by simp) (fun i s hi hI => by
    have hi' : i < l.length := by omega
    have h3 := sum_take_le f l (i + 1)
    rw [hs i s hi', hI]
    refine ⟨_, rfl, ?_⟩
    rw [take_one hi', List.map_append, List.sum_append_nat] at h3 ⊢
    simp only [List.map_cons, List.map_nil, List.sum_cons, List.sum_nil, Nat.add_zero] at h3 ⊢
    rw [Wk (by omega) (by omega)]; omega)
  rw [h1, h2]; simp

theorem TreeOK.kidsR {t : List Branch} {m : Nat} (h : TreeOK t m) {k : Int} (h0 : 0 ≤ k) (h1 : k < t.length) : (kidsOf t k).length ≤ 300 := by
  have h2 := nodup_le t.length (kidsOf t k) (h.fo.one k h0 h1) (fun x hx => by have := h.fo.rng k h0 h1 x hx; omega)
  have := h.len; omega

theorem LeavesOf_eq {t : List Branch} {m : Nat} (h : TreeOK t m) {k : Int} (h0 : 0 ≤ k) (h1 : k < t.length) : ref_LeavesOf t k = some (val (kidsOf t) m k : Int) := by
  obtain ⟨i, hi, hk⟩ := h.mem h0 h1
  have hl := h.len
  refine fixp_of (m - i) (h.fo.ind h.nil (fun d k => ∀ n, d ≤ n → fixN ref_LeavesOf_body n (t, k) = some (val (kidsOf t) m k : Int)) (fun d i k hd hk ih n hn => ?_) (m - i) i k (by omega) hk)
  obtain ⟨e, rfl⟩ : ∃ e, n = e + 1 := ⟨n - 1, by omega⟩
  have hr := h.fo.lev_in hk
  have hin : inR t k := ⟨hr.1, hr.2⟩
  have hsum := h.fo.kids_sum h.nil (by omega) hk
  have hkl := h.kidsR hr.1 hr.2
  show ref_LeavesOf_body (fixN ref_LeavesOf_body e) (t, k) = _
  unfold ref_LeavesOf_body
  simp only
  rw [need_of hin, need_of hin, h.fo.val_eq h.nil (by omega) hk]
  have e0 : (gx t k).Kids = kidsOf t k := rfl
  simp only [e0, bnd_eq]
  generalize hf : fixN (fun self x => _) e = slf
  have hf' : slf = fixN ref_LeavesOf_body e := hf.symm
  by_cases hc : (kidsOf t k).length = 0
  · have e1 : decide (((kidsOf t k).length : Int) = 0) = true := by simp [hc]
    have e2 : kidsOf t k = [] := List.length_eq_zero_iff.1 hc
    simp only [e1, cond_true, e2]; rfl
  · have e1 : decide (((kidsOf t k).length : Int) = 0) = false := by simp; intro e; simp [e] at hc
    simp only [e1, cond_false]
    rw [rfor_sum (f := val (kidsOf t) m) (by omega) (by omega) (fun j s hj => by
      unfold ref_LeavesOf_L1
      have hj' : inR (kidsOf t k) (j : Int) := ⟨by omega, by omega⟩
      rw [need_of hj', hf', ih _ (gx_mem hj') e (by omega)]; rfl)]
    simp only [bind_sm]
    have hp : 1 ≤ ((kidsOf t k).map (val (kidsOf t) m)).sum := by
      obtain ⟨x, hx⟩ := List.exists_mem_of_length_pos (Nat.pos_of_ne_zero hc)
      have h3 := sum_mem_le (val (kidsOf t) m) hx
      have h4 : 1 ≤ val (kidsOf t) m x := by
        have hx1 := lev_kid hk hx
        by_cases hm : i + 1 < m
        · exact h.fo.val_pos h.nil hm hx1
        · have : i + 1 = m := by omega
          rw [this, h.nil] at hx1; cases hx1
      omega
    rw [Nat.max_eq_right hp]

/-- What stands in the row of leaves while level i is gone through: p nodes of it are done, and part of the next. -/
def LvI (t : List Branch) (m i p : Nat) (o : List Int) : Prop :=
  o.length = t.length ∧ ∀ q, q < m → ∀ j ∈ lev (kidsOf t) q, gx o j = if i < q ∨ (q = i ∧ j ∈ (lev (kidsOf t) i).take p) then (val (kidsOf t) m j : Int) else 0

theorem leaves_kids {t : List Branch} {m : Nat} (h : TreeOK t m) {i p : Nat} (hi : i < m) (hp : p < (lev (kidsOf t) i).length) {o : List Int} (ho : LvI t m i p o) :
    ∃ o', rfor ((kidsOf t (gx (lev (kidsOf t) i) (p : Int))).length : Int) (tree_leaves_L3 (gx (lev (kidsOf t) i) (p : Int)) (kidsOf t (gx (lev (kidsOf t) i) (p : Int)))) o = some o' ∧
      o'.length = t.length ∧ gx o' (gx (lev (kidsOf t) i) (p : Int)) = (((kidsOf t (gx (lev (kidsOf t) i) (p : Int))).map (val (kidsOf t) m)).sum : Nat) ∧ ∀ j : Int, 0 ≤ j → j < t.length → j ≠ gx (lev (kidsOf t) i) (p : Int) → gx o' j = gx o j := by
  have hl := h.len
  have hk : gx (lev (kidsOf t) i) (p : Int) ∈ lev (kidsOf t) i := gx_mem ⟨by omega, by omega⟩
  have hnin : gx (lev (kidsOf t) i) (p : Int) ∉ (lev (kidsOf t) i).take p := by
    intro hx
    have h1 := h.fo.lev_nd i
    have h3 : ((lev (kidsOf t) i).take (p + 1)).Nodup := h1.sublist (List.take_sublist _ _)
    rw [take_one hp] at h3
    have h2 := List.nodup_append.1 h3
    exact absurd rfl (h2.2.2 _ hx _ (by simp))
  have h00 := ho.2 i hi _ hk
  have hne : ¬ (i < i ∨ (i = i ∧ gx (lev (kidsOf t) i) (p : Int) ∈ (lev (kidsOf t) i).take p)) := by
    rintro (h | ⟨_, h⟩)
    · omega
    · exact hnin h
  rw [if_neg hne] at h00
  generalize hkk : gx (lev (kidsOf t) i) (p : Int) = k at *
  have hr := h.fo.lev_in hk
  have hsum := h.fo.kids_sum h.nil hi hk
  have hkl := h.kidsR hr.1 hr.2
  obtain ⟨o', h1, h2, h3, h4⟩ := rfor_inv (n := ((kidsOf t k).length : Int)) (step := tree_leaves_L3 k (kidsOf t k)) (s0 := o) (fun r s => s.length = t.length ∧ gx s k = ((((kidsOf t k).take r).map (val (kidsOf t) m)).sum : Nat) ∧ ∀ j : Int, 0 ≤ j → j < t.length → j ≠ k → gx s j = gx o j) (by omega)
    ⟨ho.1, by rw [h00]; simp, fun j _ _ _ => rfl⟩ (fun r s hr' hI => by
      obtain ⟨i1, i2, i3⟩ := hI
      have hr2 : r < (kidsOf t k).length := by omega
      have hin : inR (kidsOf t k) (r : Int) := ⟨by omega, hr'⟩
      have hx := gx_mem hin
      have hx1 := lev_kid hk hx
      have hxr := h.fo.lev_in hx1
      have hi1 : i + 1 < m := by
        rcases Nat.lt_or_ge (i + 1) m with h5 | h5
        · exact h5
        · have : i + 1 = m := by omega
          rw [this, h.nil] at hx1; cases hx1
      have hxk : gx (kidsOf t k) (r : Int) ≠ k := fun e => by
        rw [e] at hx1
        have := h.fo.lev_one hk hx1; omega
      have hxv : gx s (gx (kidsOf t k) (r : Int)) = (val (kidsOf t) m (gx (kidsOf t k) (r : Int)) : Int) := by
        rw [i3 _ hxr.1 hxr.2 hxk, ho.2 (i + 1) hi1 _ hx1, if_pos (.inl (by omega))]
      have hks : inR s k := ⟨hr.1, by rw [i1]; exact hr.2⟩
      have h3 := sum_take_le (val (kidsOf t) m) (kidsOf t k) (r + 1)
      unfold tree_leaves_L3
      rw [need_of hin, need_of hks, need_of ⟨hxr.1, by rw [i1]; exact hxr.2⟩]
      simp only [bnd_eq]
      rw [need_of hks, hxv, i2]
      rw [take_one hr2, List.map_append, List.sum_append_nat] at h3 ⊢
      simp only [List.map_cons, List.map_nil, List.sum_cons, List.sum_nil, Nat.add_zero] at h3 ⊢
      refine ⟨_, rfl, by simpa using i1, ?_, fun j j0 j1 j2 => ?_⟩
      · rw [gx_setB hks hr.1, if_pos rfl, Wk (by omega) (by omega)]; omega
      · rw [gx_setB hks j0, if_neg j2]; exact i3 j j0 j1 j2)
  exact ⟨o', h1, h2, by simpa using h3, h4⟩

theorem leaves_eq {t : List Branch} {m : Nat} (h : TreeOK t m) : ∃ o, tree_leaves t = some o ∧ o.length = t.length ∧ ∀ j : Int, 0 ≤ j → j < t.length → gx o j = (val (kidsOf t) m j : Int) := by
  have hl := h.len
  have hp := h.pos
  have hm2 := h.m2
  have hm1 := h.m1
  unfold tree_leaves
  simp only [bnd_eq]
  rw [need_of (by omega), h.levels]
  simp only [bind_sm, Int.toNat_natCast, List.length_map, List.length_range]
  rw [Wk (n := (m : Int) - 1) (by omega) (by omega)]
  have hloop : ∃ e, loop (tree_leaves_L1 ((List.range m).map (lev (kidsOf t))) t) ((m : Int) - 1, List.replicate t.length 0) = some e ∧ (e.length = t.length ∧ ∀ q, q < m → ∀ j ∈ lev (kidsOf t) q, gx e j = (val (kidsOf t) m j : Int)) := by
    refine loop_inv (fun s => ∃ i : Nat, s.1 = (i : Int) - 1 ∧ i ≤ m ∧ s.2.length = t.length ∧ ∀ q, q < m → ∀ j ∈ lev (kidsOf t) q, gx s.2 j = if i ≤ q then (val (kidsOf t) m j : Int) else 0) (fun s => (s.1 + 1).toNat) _ ⟨m, rfl, Nat.le_refl _, by simp, fun q hq j hj => ?_⟩ ?_
    · rw [if_neg (by omega)]
      have := h.fo.lev_in hj
      unfold gx
      have hj' : j.toNat < t.length := by omega
      simp [List.getElem?_replicate, hj']
    · rintro ⟨i', o⟩ ⟨i, h1, h2, h3, h4⟩
      simp only at h1 h3 h4
      subst h1
      unfold tree_leaves_L1
      simp only
      by_cases hc : i = 0
      · right
        subst hc
        simp only [show decide ((0 : Int) ≤ ((0 : Nat) : Int) - 1) = false from rfl, cond_false]
        exact ⟨_, rfl, h3, fun q hq j hj => by rw [h4 q hq j hj, if_pos (by omega)]⟩
      · left
        obtain ⟨i, rfl⟩ : ∃ k, i = k + 1 := ⟨i - 1, by omega⟩
        have ei : ((i + 1 : Nat) : Int) - 1 = (i : Int) := by omega
        have e1 : decide ((0 : Int) ≤ (i : Int)) = true := by simp
        have hlin : inR ((List.range m).map (lev (kidsOf t))) (i : Int) := ⟨by omega, by simp; omega⟩
        have hg : gx ((List.range m).map (lev (kidsOf t))) (i : Int) = lev (kidsOf t) i := by rw [gx_nat (by simpa using (show i < m by omega))]; simp
        rw [ei]
        simp only [e1, cond_true, bnd_eq, hg]
        rw [need_of hlin]
        have hle := h.fo.lev_le i
        obtain ⟨o', k1, k2⟩ := rfor_inv (n := ((lev (kidsOf t) i).length : Int)) (step := tree_leaves_L2 t (lev (kidsOf t) i)) (s0 := o) (fun p s => LvI t m i p s) (by omega) ⟨h3, fun q hq j hj => by
          rw [h4 q hq j hj]; simp only [List.take_zero, List.not_mem_nil, and_false, or_false]
          by_cases hh : i < q
          · rw [if_pos (by omega), if_pos hh]
          · rw [if_neg (by omega), if_neg hh]⟩ (fun p s hp' hI => by
            have hp2 : p < (lev (kidsOf t) i).length := by omega
            obtain ⟨o2, g1, g2, g3, g4⟩ := leaves_kids h (by omega) hp2 hI
            have hin : inR (lev (kidsOf t) i) (p : Int) := ⟨by omega, hp'⟩
            have hk := gx_mem hin
            have hr := h.fo.lev_in hk
            have hv := h.fo.val_eq h.nil (by omega) hk
            have hkt := take_one hp2
            unfold tree_leaves_L2
            rw [need_of hin]
            simp only [bnd_eq]
            rw [need_of ⟨hr.1, hr.2⟩]
            have e0 : (gx t (gx (lev (kidsOf t) i) (p : Int))).Kids = kidsOf t (gx (lev (kidsOf t) i) (p : Int)) := rfl
            rw [e0, g1]
            have hks : inR o2 (gx (lev (kidsOf t) i) (p : Int)) := ⟨hr.1, by rw [g2]; exact hr.2⟩
            simp only [bind_sm]
            rw [need_of hks, need_of hks]
            refine ⟨_, rfl, by simpa using g2, fun q hq j hj => ?_⟩
            have hjr := h.fo.lev_in hj
            rw [gx_setB hks hjr.1, g3]
            generalize gx (lev (kidsOf t) i) (p : Int) = k at *
            by_cases hjk : j = k
            · subst hjk
              have : q = i := h.fo.lev_one hj hk
              subst this
              rw [if_pos rfl, if_pos (.inr ⟨rfl, by rw [hkt]; simp⟩), hv]
              omega
            · rw [if_neg hjk, g4 j hjr.1 hjr.2 hjk, hI.2 q hq j hj, hkt]
              simp only [List.mem_append, List.mem_singleton, hjk, or_false])
        rw [k1, bind_sm, Wk (n := (i : Int) - 1) (by omega) (by omega)]
        refine ⟨_, rfl, ⟨i, rfl, by omega, k2.1, fun q hq j hj => ?_⟩, by simp⟩
        simp only
        rw [k2.2 q hq j hj]
        simp only [Int.toNat_natCast, List.take_length]
        by_cases hh : i ≤ q
        · rw [if_pos hh]
          by_cases hh2 : i < q
          · rw [if_pos (.inl hh2)]
          · have : q = i := by omega
            subst this; rw [if_pos (.inr ⟨rfl, hj⟩)]
        · rw [if_neg hh, if_neg (by rintro (h | ⟨h, _⟩) <;> omega)]
  obtain ⟨e, he, g1, g2⟩ := hloop
  rw [he]
  refine ⟨e, rfl, g1, fun j j0 j1 => ?_⟩
  obtain ⟨i, hi, hk⟩ := h.mem j0 j1
  exact g2 i hi j hk

/-! Equal branches. -/

/-- A loop that asks all. -/
theorem rforE_alls {O : Type} {n : Nat} {step : Int → Unit → Option (Res Unit O)} {fin : Unit → O} (p : Nat → Bool) (e : O) (hn : (n : Int) ≤ 9223372036854775807)
    (hs : ∀ i : Nat, i < n → step i () = some (if p i = true then .nx () else .ab e)) : rforE (n : Int) step fin () = some (if (List.range n).all p = true then fin () else e) := by
  obtain ⟨x, h1, h2⟩ := rforE_inv (n := (n : Int)) (step := step) (fin := fin) (s0 := ()) (fun i _ => ∀ j, j < i → p j = true) (fun x => x = if (List.range n).all p = true then fin () else e) hn (fun j h => by omega) (fun i u hi hI => by
    rw [hs i (by omega)]
    by_cases hp : p i = true
    · refine .inl ⟨(), by rw [if_pos hp], fun j hj => ?_⟩
      rcases Nat.lt_or_eq_of_le (Nat.lt_succ_iff.1 hj) with h | h
      · exact hI j h
      · subst h; exact hp
    · refine .inr ⟨e, by rw [if_neg hp], ?_⟩
      rw [if_neg]
      intro h
      rw [List.all_eq_true] at h
      exact hp (h i (List.mem_range.2 (by omega)))) (fun u hI => by
    rw [if_pos]
    rw [List.all_eq_true]
    intro j hj
    exact hI j (by simpa using List.mem_range.1 hj))
  rw [h1, h2]

def sm (t : List Branch) : Nat → Int → Int → Bool
  | 0, _, _ => false
  | d + 1, a, b => decide ((gx t a).W_ = (gx t b).W_) && decide ((gx t a).H = (gx t b).H) && decide ((kidsOf t a).length = (kidsOf t b).length) && (List.range (kidsOf t a).length).all (fun i => sm t d (gx (kidsOf t a) (i : Int)) (gx (kidsOf t b) (i : Int)))

theorem same_eq {t : List Branch} {m : Nat} (h : TreeOK t m) {a b : Int} (h0 : 0 ≤ a) (h1 : a < t.length) (h2 : 0 ≤ b) (h3 : b < t.length) : ∃ r, tree_same t a b = some r ∧ ref_SameOf t a b = some r := by
  obtain ⟨i, hi, hk⟩ := h.mem h0 h1
  have hl := h.len
  refine ⟨sm t (m - i) a b, fixp_of (m - i) (h.fo.ind h.nil (fun d a => ∀ b : Int, 0 ≤ b → b < t.length → ∀ n, d ≤ n → fixN tree_same_body n (t, a, b) = some (sm t d a b)) (fun d i a hd ha ih b hb0 hb1 n hn => ?_) (m - i) i a (by omega) hk b h2 h3),
    fixp_of (m - i) (h.fo.ind h.nil (fun d a => ∀ b : Int, 0 ≤ b → b < t.length → ∀ n, d ≤ n → fixN ref_SameOf_body n (t, a, b) = some (sm t d a b)) (fun d i a hd ha ih b hb0 hb1 n hn => ?_) (m - i) i a (by omega) hk b h2 h3)⟩
  · obtain ⟨e, rfl⟩ : ∃ e, n = e + 1 := ⟨n - 1, by omega⟩
    have hr := h.fo.lev_in ha
    have hka := h.kidsR hr.1 hr.2
    show tree_same_body (fixN tree_same_body e) (t, a, b) = _
    have ih' := fun x hx y y0 y1 => ih x hx y y0 y1 e (by omega)
    generalize fixN tree_same_body e = slf at ih' ⊢
    unfold tree_same_body
    simp only
    rw [need_of ⟨hr.1, hr.2⟩]
    simp only [bnd_eq]
    rw [need_of ⟨hb0, hb1⟩]
    have e1 : (gx t a).Kids = kidsOf t a := rfl
    have e2 : (gx t b).Kids = kidsOf t b := rfl
    simp only [e1, e2]
    by_cases hc : (gx t a).W_ = (gx t b).W_ ∧ (gx t a).H = (gx t b).H ∧ (kidsOf t a).length = (kidsOf t b).length
    · obtain ⟨c1, c2, c3⟩ := hc
      simp only [c1, c2, c3, decide_true, Bool.not_true, Bool.or_self, cond_false]
      rw [rforE_alls (n := (kidsOf t b).length) (fun j => sm t d (gx (kidsOf t a) (j : Int)) (gx (kidsOf t b) (j : Int))) (Res.ab false) (by omega) (fun j hj => by
        unfold tree_same_L1
        have q1 : inR (kidsOf t a) (j : Int) := ⟨by omega, by omega⟩
        have q2 : inR (kidsOf t b) (j : Int) := ⟨by omega, by omega⟩
        have q3 := h.fo.rng b hb0 hb1 _ (gx_mem q2)
        simp only [e1, e2]
        rw [need_of q1, need_of q2, ih' _ (gx_mem q1) _ (by omega) (by omega)]
        simp only [bind_sm]
        cases sm t d (gx (kidsOf t a) (j : Int)) (gx (kidsOf t b) (j : Int)) <;> rfl)]
      simp only [sm, c1, c2, c3, decide_true, Bool.true_and]
      cases (List.range (kidsOf t b).length).all (fun j => sm t d (gx (kidsOf t a) (j : Int)) (gx (kidsOf t b) (j : Int))) <;> rfl
    · have : ((!decide ((gx t a).W_ = (gx t b).W_)) || (!decide ((gx t a).H = (gx t b).H)) || (!decide (((kidsOf t a).length : Int) = ((kidsOf t b).length : Int)))) = true := by simp; omega
      simp only [this, cond_true, sm]
      congr 1
      symm
      rw [Bool.and_eq_false_iff]
      left
      simp only [Bool.and_eq_false_iff, decide_eq_false_iff_not]
      omega
  · obtain ⟨e, rfl⟩ : ∃ e, n = e + 1 := ⟨n - 1, by omega⟩
    have hr := h.fo.lev_in ha
    have hka := h.kidsR hr.1 hr.2
    show ref_SameOf_body (fixN ref_SameOf_body e) (t, a, b) = _
    have ih' := fun x hx y y0 y1 => ih x hx y y0 y1 e (by omega)
    generalize fixN ref_SameOf_body e = slf at ih' ⊢
    unfold ref_SameOf_body
    simp only
    have q1 : inR t a := ⟨hr.1, hr.2⟩
    have q2 : inR t b := ⟨hb0, hb1⟩
    rw [need_of q1, need_of q2, need_of (fun _ => q1), need_of (fun _ => q2), need_of (fun _ => q1), need_of (fun _ => q2)]
    have e1 : (gx t a).Kids = kidsOf t a := rfl
    have e2 : (gx t b).Kids = kidsOf t b := rfl
    simp only [e1, e2, sm]
    by_cases hc : (gx t a).W_ = (gx t b).W_ ∧ (gx t a).H = (gx t b).H
    · obtain ⟨c1, c2⟩ := hc
      simp only [c1, c2, decide_true, Bool.and_self, gd_true, Bool.true_and]
      unfold slices_EqualFunc_intx
      by_cases c3 : (kidsOf t a).length = (kidsOf t b).length
      · simp only [c3, decide_true, Bool.not_true, cond_false]
        rw [rforE_alls (n := (kidsOf t b).length) (fun j => sm t d (gx (kidsOf t a) (j : Int)) (gx (kidsOf t b) (j : Int))) (Res.ab false) (by omega) (fun j hj => by
          unfold slices_EqualFunc_intx_L1 ref_SameOf_1
          have q1 : inR (kidsOf t a) (j : Int) := ⟨by omega, by omega⟩
          have q2 : inR (kidsOf t b) (j : Int) := ⟨by omega, by omega⟩
          have q3 := h.fo.rng b hb0 hb1 _ (gx_mem q2)
          rw [need_of q1, need_of q2]
          show Option.bind (Option.bind (slf (t, gx (kidsOf t a) (j : Int), gx (kidsOf t b) (j : Int))) fun r1 => some r1) _ = _
          rw [ih' _ (gx_mem q1) _ (by omega) (by omega)]
          simp only [bind_sm]
          cases sm t d (gx (kidsOf t a) (j : Int)) (gx (kidsOf t b) (j : Int)) <;> rfl)]
        cases (List.range (kidsOf t b).length).all (fun j => sm t d (gx (kidsOf t a) (j : Int)) (gx (kidsOf t b) (j : Int))) <;> simp
      · have c4 : ¬ (((kidsOf t a).length : Int) = ((kidsOf t b).length : Int)) := by omega
        simp [c3, c4]
    · have : (decide ((gx t a).W_ = (gx t b).W_) && decide ((gx t a).H = (gx t b).H)) = false := by simp; omega
      simp [this]

end Go.DB
