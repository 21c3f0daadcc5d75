/-
  The best order of few nodes: what the program computes.
-/
import Derived.Test.YtbahnfkccdlpnaaOrdPuOrders1
set_option linter.unusedSimpArgs false
set_option linter.unusedVariables false
namespace Go.DB
open Go Go.RowKit

/-! Least sums, one after the other. -/
def stepB (s : Nat) (c : Nat → Int) (k : Nat) (p : Int × Nat) : Int × Nat := if s.testBit k = true then (if p.1 < 0 ∨ c k < p.1 then (c k, k) else p) else p
def foldB (s : Nat) (c : Nat → Int) : Nat → Int × Nat
  | 0 => (-1, 0)
  | k + 1 => stepB s c k (foldB s c k)
theorem foldB_spec {s : Nat} {c : Nat → Int} (hc : ∀ k, s.testBit k = true → 0 ≤ c k) : ∀ n : Nat, ((∀ k, k < n → s.testBit k = false) ∧ foldB s c n = (-1, 0)) ∨
    ((foldB s c n).2 < n ∧ s.testBit (foldB s c n).2 = true ∧ (foldB s c n).1 = c (foldB s c n).2 ∧ ∀ k, k < n → s.testBit k = true → (foldB s c n).1 ≤ c k ∧ (k < (foldB s c n).2 → (foldB s c n).1 < c k))
  | 0 => .inl ⟨fun k hk => by omega, rfl⟩
  | n + 1 => by
    have ih := foldB_spec hc n
    have e : foldB s c (n + 1) = stepB s c n (foldB s c n) := rfl
    rw [e]
    by_cases hb : s.testBit n = true
    · have h0 := hc n hb
      rcases ih with ⟨i1, i2⟩ | ⟨i1, i2, i3, i4⟩
      · right
        have : stepB s c n (foldB s c n) = (c n, n) := by unfold stepB; rw [if_pos hb, i2, if_pos (.inl (by omega))]
        rw [this]
        refine ⟨by omega, hb, rfl, fun k hk hkb => ?_⟩
        by_cases z : k = n
        · subst z; exact ⟨Int.le_refl _, fun h => by simp only at h; omega⟩
        · have := i1 k (by omega); rw [this] at hkb; cases hkb
      · right
        have h1 := hc _ i2
        by_cases d : c n < (foldB s c n).1
        · have : stepB s c n (foldB s c n) = (c n, n) := by unfold stepB; rw [if_pos hb, if_pos (.inr d)]
          rw [this]
          refine ⟨by omega, hb, rfl, fun k hk hkb => ?_⟩
          by_cases z : k = n
          · subst z; exact ⟨Int.le_refl _, fun h => by simp only at h; omega⟩
          · have := (i4 k (by omega) hkb).1
            exact ⟨by simp only; omega, fun _ => by simp only; omega⟩
        · have : stepB s c n (foldB s c n) = foldB s c n := by unfold stepB; rw [if_pos hb, if_neg (by omega)]
          rw [this]
          refine ⟨by omega, i2, i3, fun k hk hkb => ?_⟩
          by_cases z : k = n
          · subst z; exact ⟨by omega, fun h => by omega⟩
          · exact i4 k (by omega) hkb
    · have : stepB s c n (foldB s c n) = foldB s c n := by unfold stepB; rw [if_neg hb]
      rw [this]
      rcases ih with ⟨i1, i2⟩ | ⟨i1, i2, i3, i4⟩
      · left
        refine ⟨fun k hk => ?_, i2⟩
        by_cases z : k = n
        · subst z; simpa using hb
        · exact i1 k (by omega)
      · right
        refine ⟨by omega, i2, i3, fun k hk hkb => ?_⟩
        by_cases z : k = n
        · subst z; exact absurd hkb hb
        · exact i4 k (by omega) hkb
theorem foldB_congr {s : Nat} {c c' : Nat → Int} : ∀ {n : Nat}, (∀ k, k < n → s.testBit k = true → c k = c' k) → foldB s c n = foldB s c' n
  | 0, _ => rfl
  | n + 1, h => by
    show stepB s c n (foldB s c n) = stepB s c' n (foldB s c' n)
    rw [foldB_congr (fun k hk => h k (by omega))]
    unfold stepB
    by_cases hb : s.testBit n = true
    · rw [if_pos hb, if_pos hb, h n (by omega) hb]
    · rw [if_neg hb, if_neg hb]
def inS (m : Nat) (B : Nat → Nat → Int) (s k : Nat) : Int := sm (fun j => if (rem s k).testBit j = true then B k j else 0) m
noncomputable def TF (m : Nat) (B : Nat → Nat → Int) (s : Nat) : Int × Nat :=
  if s = 0 then (0, 0) else foldB s (fun k => if h : s.testBit k = true then (TF m B (rem s k)).1 + inS m B s k else 0) m
termination_by s
decreasing_by exact rem_lt h
theorem TF_eq {m : Nat} {B : Nat → Nat → Int} {s : Nat} (hs : 0 < s) : TF m B s = foldB s (fun k => (TF m B (rem s k)).1 + inS m B s k) m := by
  rw [TF, if_neg (by omega)]
  exact foldB_congr fun k _ hk => by simp only [hk, dif_pos]
theorem TF_zero {m : Nat} {B : Nat → Nat → Int} : TF m B 0 = (0, 0) := by rw [TF, if_pos rfl]
theorem inS_bd {m : Nat} {B : Nat → Nat → Int} (hB : ∀ k j, k < m → j < m → 0 ≤ B k j ∧ B k j ≤ 40000) (hm : m ≤ 10) {s k : Nat} (hk : k < m) : ∀ n : Nat, n ≤ m → 0 ≤ sm (fun j => if (rem s k).testBit j = true then B k j else 0) n ∧ sm (fun j => if (rem s k).testBit j = true then B k j else 0) n ≤ n * 40000
  | 0, _ => by simp [sm]
  | n + 1, hn => by
    have ih := inS_bd hB hm (s := s) hk n (by omega)
    have e : sm (fun j => if (rem s k).testBit j = true then B k j else 0) (n + 1) = sm (fun j => if (rem s k).testBit j = true then B k j else 0) n + (if (rem s k).testBit n = true then B k n else 0) := rfl
    have := hB k n hk (by omega)
    rw [e]
    push_cast
    split <;> omega
theorem TF_bd {m : Nat} {B : Nat → Nat → Int} (hB : ∀ k j, k < m → j < m → 0 ≤ B k j ∧ B k j ≤ 40000) (hm : m ≤ 10) : ∀ s, s < 2 ^ m → 0 ≤ (TF m B s).1 ∧ (TF m B s).1 ≤ s * 400000 := by
  intro s
  induction s using Nat.strongRecOn with
  | _ s ih =>
    intro hs
    by_cases h0 : s = 0
    · subst h0; rw [TF_zero]; simp
    · rw [TF_eq (by omega)]
      have hc : ∀ k, s.testBit k = true → 0 ≤ (TF m B (rem s k)).1 + inS m B s k := fun k hk => by
        have h1 := rem_lt hk
        have h2 := ih _ h1 (by omega)
        have h3 := inS_bd hB hm (s := s) (bit_lt hs hk) m (Nat.le_refl _)
        unfold inS; omega
      rcases foldB_spec hc m with ⟨h1, _⟩ | ⟨h1, h2, h3, _⟩
      · obtain ⟨k, k1, k2⟩ := some_bit (by omega) hs
        rw [h1 k k1] at k2; cases k2
      · rw [h3]
        have r1 := rem_lt h2
        have r2 := ih _ r1 (by omega)
        have r3 := inS_bd hB hm (s := s) (bit_lt hs h2) m (Nat.le_refl _)
        have := hc _ h2
        unfold inS at *
        refine ⟨this, ?_⟩
        have : (m : Int) * 40000 ≤ 400000 := by omega
        omega
theorem TF_dp {m : Nat} {B : Nat → Nat → Int} (hB : ∀ k j, k < m → j < m → 0 ≤ B k j ∧ B k j ≤ 40000) (hm : m ≤ 10) : Dp2 m B (fun s => (TF m B s).1) (fun s => (TF m B s).2) := by
  have hc : ∀ s, s < 2 ^ m → ∀ k, s.testBit k = true → 0 ≤ (TF m B (rem s k)).1 + inS m B s k := fun s hs k hk => by
    have h2 := TF_bd hB hm _ (Nat.lt_trans (rem_lt hk) hs)
    have h3 := inS_bd hB hm (s := s) (bit_lt hs hk) m (Nat.le_refl _)
    unfold inS; omega
  have hsp : ∀ s, 0 < s → s < 2 ^ m → (TF m B s).2 < m ∧ s.testBit (TF m B s).2 = true ∧ (TF m B s).1 = (TF m B (rem s (TF m B s).2)).1 + inS m B s (TF m B s).2 ∧ ∀ k, k < m → s.testBit k = true → (TF m B s).1 ≤ (TF m B (rem s k)).1 + inS m B s k ∧ (k < (TF m B s).2 → (TF m B s).1 < (TF m B (rem s k)).1 + inS m B s k) := fun s h0 hs => by
    have e := TF_eq (m := m) (B := B) h0
    rcases foldB_spec (hc s hs) m with ⟨h1, _⟩ | h
    · obtain ⟨k, k1, k2⟩ := some_bit h0 hs
      rw [h1 k k1] at k2; cases k2
    · rw [← e] at h; exact h
  have hbit0 : ∀ s k, s.testBit k = true → 0 < s := fun s k hk => by
    rcases Nat.eq_zero_or_pos s with h | h
    · subst h; simp at hk
    · exact h
  refine ⟨by rw [TF_zero], fun s h0 hs => (hsp s h0 hs).2.1, fun s h0 hs => (hsp s h0 hs).2.2.1, fun s k hs hk => ((hsp s (hbit0 s k hk) hs).2.2.2 k (bit_lt hs hk) hk).1, fun s k hs hk hlt => ((hsp s (hbit0 s k hk) hs).2.2.2 k (bit_lt hs hk) hk).2 hlt⟩

/-! Tables of pairs. -/
structure TabV (m : Nat) (s : List (List Int)) (V : Nat → Nat → Int) : Prop where
  len : s.length = m
  row : ∀ a : Nat, a < m → (gx s (a : Int)).length = m
  val : ∀ a b : Nat, a < m → b < m → gx (gx s (a : Int)) (b : Int) = V a b
theorem gx_setN {l : List Int} {k : Nat} {v : Int} (hk : k < l.length) (t : Nat) : gx (l.set k v) (t : Int) = if t = k then v else gx l (t : Int) := by
  unfold gx
  rw [List.getElem?_set]
  by_cases h : t = k
  · subst h; simp [hk]
  · have : ¬ k = t := fun e => h e.symm
    simp [this, h]
theorem gx_setR2 {l : List (List Int)} {k : Nat} {v : List Int} (hk : k < l.length) (t : Nat) : gx (l.set k v) (t : Int) = if t = k then v else gx l (t : Int) := by
  unfold gx
  rw [List.getElem?_set]
  by_cases h : t = k
  · subst h; simp [hk]
  · have : ¬ k = t := fun e => h e.symm
    simp [this, h]
theorem TabV.set {m : Nat} {s : List (List Int)} {V : Nat → Nat → Int} (h : TabV m s V) {a b : Nat} (ha : a < m) (hb : b < m) (v : Int) :
    TabV m (s.set a ((gx s (a : Int)).set b v)) (fun x y => if x = a then (if y = b then v else V x y) else V x y) := by
  have hl := h.len
  refine ⟨by simp [h.len], fun x hx => ?_, fun x y hx hy => ?_⟩
  · rw [gx_setR2 (by omega)]
    by_cases e : x = a
    · rw [if_pos e]; simp [h.row a ha]
    · rw [if_neg e]; exact h.row x hx
  · rw [gx_setR2 (by omega)]
    by_cases e : x = a
    · subst e
      rw [if_pos rfl, gx_setN (by rw [h.row x ha]; exact hb)]
      simp only [if_true]
      by_cases e2 : y = b
      · rw [if_pos e2, if_pos e2]
      · rw [if_neg e2, if_neg e2]; exact h.val x y hx hy
    · rw [if_neg e, if_neg e]; exact h.val x y hx hy
theorem TabV.congr {m : Nat} {s : List (List Int)} {V V' : Nat → Nat → Int} (h : TabV m s V) (hV : ∀ a b, a < m → b < m → V a b = V' a b) : TabV m s V' :=
  ⟨h.len, h.row, fun a b ha hb => by rw [h.val a b ha hb, hV a b ha hb]⟩

noncomputable def nodesN (lower : List Int) : List Int := sortI lower
theorem nodes_perm (lower : List Int) : (nodesN lower).Perm lower := List.mergeSort_perm lower _
/-- Pairs of links, by numbers of nodes. -/
noncomputable def BB (upper lower : List Int) (l : List Link) (a b : Nat) : Int := Bv l (qU upper) (·.To) (gx (nodesN lower) (a : Int)) (gx (nodesN lower) (b : Int))
def ind (upper : List Int) (N : List Int) (x y : Link) (a b : Nat) : Int := if qU upper x y then (if x.To = gx N (a : Int) then (if y.To = gx N (b : Int) then 1 else 0) else 0) else 0
theorem ind_01 {upper N : List Int} {x y : Link} {a b : Nat} : 0 ≤ ind upper N x y a b ∧ ind upper N x y a b ≤ 1 := by unfold ind; split <;> (try split) <;> (try split) <;> omega
theorem ls_bd {α : Type} {f : α → Int} {c : Int} (hf : ∀ x, 0 ≤ f x ∧ f x ≤ c) : ∀ l : List α, 0 ≤ ls f l ∧ ls f l ≤ l.length * c
  | [] => by simp [ls]
  | x :: l => by
    have ih := ls_bd hf l
    have := hf x
    have e : ls f (x :: l) = f x + ls f l := rfl
    rw [e, List.length_cons]; push_cast
    rw [Int.add_mul]; omega
theorem BB_bd {upper lower : List Int} {l : List Link} (hl : l.length ≤ 200) (a b : Nat) : 0 ≤ BB upper lower l a b ∧ BB upper lower l a b ≤ 40000 := by
  have h1 : ∀ x, 0 ≤ ls (fun y => ind upper (nodesN lower) x y a b) l ∧ ls (fun y => ind upper (nodesN lower) x y a b) l ≤ 200 := fun x => by
    have := ls_bd (f := fun y => ind upper (nodesN lower) x y a b) (c := 1) (fun y => ind_01) l
    omega
  have := ls_bd (f := fun x => ls (fun y => ind upper (nodesN lower) x y a b) l) (c := 200) h1 l
  have e : BB upper lower l a b = ls (fun x => ls (fun y => ind upper (nodesN lower) x y a b) l) l := rfl
  rw [e]
  have : (l.length : Int) * 200 ≤ 40000 := by omega
  omega

section
variable {upper lower : List Int} {l : List Link}
theorem PairOK.nodes (h : PairOK upper lower l) : (nodesN lower).length = lower.length ∧ (nodesN lower).Nodup ∧ ∀ x, x ∈ nodesN lower ↔ x ∈ lower :=
  ⟨(nodes_perm lower).length_eq, (nodes_perm lower).nodup_iff.2 h.ln, fun x => (nodes_perm lower).mem_iff⟩
theorem at_iff (h : PairOK upper lower l) {x : Int} (hx : x ∈ lower) {a : Nat} (ha : a < lower.length) : ps (nodesN lower) x = a ↔ x = gx (nodesN lower) (a : Int) := by
  obtain ⟨n1, n2, n3⟩ := h.nodes
  have hp := ps_lt ((n3 x).2 hx)
  rw [gx_nat (by omega)]
  constructor
  · intro e; subst e; exact (ps_get hp).symm
  · intro e
    rw [e]
    exact ps_at n2 (by omega)

theorem rowsum_bd {N : List Int} {x : Link} {a b : Nat} {k : List Link} : 0 ≤ ls (fun y => ind upper N x y a b) k ∧ ls (fun y => ind upper N x y a b) k ≤ k.length := by
  have := ls_bd (f := fun y => ind upper N x y a b) (c := 1) (fun y => ind_01) k
  omega
theorem ls_take {α : Type} (f : α → Int) {l : List α} {j : Nat} (hj : j < l.length) : ls f (l.take (j + 1)) = ls f (l.take j) + f l[j] := by
  rw [List.take_succ_eq_append_getElem hj, ls_append]
  have : ls f [l[j]] = f l[j] + 0 := rfl
  omega
theorem before_eq (h : PairOK upper lower l) {U A : GMap Int Int} (hU : ∀ x ∈ upper, U.getD x 0 = (ps upper x : Int)) (hA : ∀ x ∈ lower, A.getD x 0 = (ps (nodesN lower) x : Int)) {s0 : List (List Int)} (h0 : TabV lower.length s0 (fun _ _ => 0)) :
    ∃ s, rfor (l.length : Int) (layer_Best_L2 l A U) s0 = some s ∧ TabV lower.length s (BB upper lower l) := by
  have hl := h.kl
  obtain ⟨n1, n2, n3⟩ := h.nodes
  obtain ⟨s, e1, e2⟩ := rfor_inv (n := (l.length : Int)) (step := layer_Best_L2 l A U) (s0 := s0)
    (fun i s => TabV lower.length s (fun a b => ls (fun x => ls (fun y => ind upper (nodesN lower) x y a b) l) (l.take i))) (by omega) (h0.congr fun a b _ _ => by simp [ls]) (fun i s hi hI => by
      have hi' : i < l.length := by omega
      have hx := h.lk _ (List.getElem_mem hi')
      unfold layer_Best_L2
      rw [need_of ⟨by omega, by omega⟩, bnd_eq, gx_nat hi']
      obtain ⟨s', b1, b2⟩ := rfor_inv (n := (l.length : Int)) (step := layer_Best_L3 l l[i] A U) (s0 := s)
        (fun j s' => TabV lower.length s' (fun a b => ls (fun x => ls (fun y => ind upper (nodesN lower) x y a b) l) (l.take i) + ls (fun y => ind upper (nodesN lower) l[i] y a b) (l.take j))) (by omega) (hI.congr fun a b _ _ => by simp [ls]) (fun j s' hj hJ => by
          have hj' : j < l.length := by omega
          have hy := h.lk _ (List.getElem_mem hj')
          have hat1 := ps_lt ((n3 _).2 hx.2)
          have hat2 := ps_lt ((n3 _).2 hy.2)
          have hlen := hJ.len
          have hrow := hJ.row _ (show ps (nodesN lower) l[i].To < lower.length by omega)
          have g1 : l[i].To = gx (nodesN lower) ((ps (nodesN lower) l[i].To : Nat) : Int) := (at_iff h hx.2 (by omega)).1 rfl
          have g2 : l[j].To = gx (nodesN lower) ((ps (nodesN lower) l[j].To : Nat) : Int) := (at_iff h hy.2 (by omega)).1 rfl
          unfold layer_Best_L3
          rw [need_of ⟨by omega, by omega⟩, bnd_eq, gx_nat hj', hU _ hx.1, hU _ hy.1, hA _ hx.2, hA _ hy.2]
          by_cases c : ps upper l[j].From < ps upper l[i].From
          · have hv := hJ.val (ps (nodesN lower) l[i].To) (ps (nodesN lower) l[j].To) (by omega) (by omega)
            have hb1 := ls_bd (f := fun x => ls (fun y => ind upper (nodesN lower) x y (ps (nodesN lower) l[i].To) (ps (nodesN lower) l[j].To)) l) (c := 200) (fun x => by have := rowsum_bd (upper := upper) (N := nodesN lower) (x := x) (a := ps (nodesN lower) l[i].To) (b := ps (nodesN lower) l[j].To) (k := l); omega) (l.take i)
            have hb2 := rowsum_bd (upper := upper) (N := nodesN lower) (x := l[i]) (a := ps (nodesN lower) l[i].To) (b := ps (nodesN lower) l[j].To) (k := l.take j)
            have hb3 : (l.take i).length ≤ 200 := by simp; omega
            have hb4 : (l.take j).length ≤ 200 := by simp; omega
            have hb5 : ((l.take i).length : Int) * 200 ≤ 40000 := by omega
            rw [decide_eq_true (p := (ps upper l[j].From : Int) < (ps upper l[i].From : Int)) (by omega), cond_true, need_of ⟨by omega, by omega⟩, need_of ⟨by omega, by omega⟩, bnd_eq, need_of ⟨by omega, by omega⟩, bnd_eq, need_of ⟨by omega, by omega⟩, hv, Wk (by omega) (by omega)]
            simp only [Int.toNat_natCast]
            refine ⟨_, rfl, (hJ.set (a := ps (nodesN lower) l[i].To) (b := ps (nodesN lower) l[j].To) (by omega) (by omega) _).congr fun a b ha hb => ?_⟩
            rw [ls_take _ hj']
            have hq : qU upper l[i] l[j] := c
            by_cases ca : a = ps (nodesN lower) l[i].To
            · subst ca
              rw [if_pos rfl]
              by_cases cb : b = ps (nodesN lower) l[j].To
              · subst cb
                have : ind upper (nodesN lower) l[i] l[j] (ps (nodesN lower) l[i].To) (ps (nodesN lower) l[j].To) = 1 := by
                  unfold ind; rw [if_pos hq, if_pos g1, if_pos g2]
                rw [if_pos rfl, this]; omega
              · have : ind upper (nodesN lower) l[i] l[j] (ps (nodesN lower) l[i].To) b = 0 := by
                  unfold ind; rw [if_pos hq, if_pos g1, if_neg (fun e => cb ((at_iff h hy.2 hb).2 e).symm)]
                rw [if_neg cb, this]; omega
            · have : ind upper (nodesN lower) l[i] l[j] a b = 0 := by
                unfold ind; rw [if_pos hq, if_neg (fun e => ca ((at_iff h hx.2 ha).2 e).symm)]
              rw [if_neg ca, this]; omega
          · rw [decide_eq_false (p := (ps upper l[j].From : Int) < (ps upper l[i].From : Int)) (by omega), cond_false]
            refine ⟨_, rfl, hJ.congr fun a b ha hb => ?_⟩
            rw [ls_take _ hj']
            have : ind upper (nodesN lower) l[i] l[j] a b = 0 := by
              unfold ind; rw [if_neg (show ¬ qU upper l[i] l[j] from c)]
            rw [this]; omega)
      refine ⟨s', b1, b2.congr fun a b ha hb => ?_⟩
      rw [ls_take _ hi', Int.toNat_natCast, List.take_length])
  refine ⟨s, e1, e2.congr fun a b ha hb => ?_⟩
  rw [Int.toNat_natCast, List.take_length]; rfl
end

section
variable {m : Nat} {B : Nat → Nat → Int} {bt : List (List Int)}
theorem pow_le {m : Nat} (hm : m ≤ 10) : 2 ^ m ≤ 1024 := Nat.le_trans (Nat.pow_le_pow_right (by omega) hm) (by decide)
theorem cost_eq (hB : ∀ k j, k < m → j < m → 0 ≤ B k j ∧ B k j ≤ 40000) (hm : m ≤ 10) (hbt : TabV m bt B) {s k : Nat} (hs : s < 2 ^ m) (hk : s.testBit k = true) {least : List Int} (hlen : least.length = 2 ^ m) (hT : ∀ t : Nat, t < s → gx least (t : Int) = (TF m B t).1) :
    layer_Best_1 (s : Int) (k : Int) least (m : Int) bt = some ((TF m B (rem s k)).1 + inS m B s k, least, bt) := by
  have hp := pow_le hm
  have hkm := bit_lt hs hk
  have hr := rem_lt hk
  have hTb := TF_bd hB hm (rem s k) (by omega)
  have hbl := hbt.len
  have hbr := hbt.row k hkm
  unfold layer_Best_1
  rw [need_of (by omega), iandn_rem (by omega) (by omega), bnd_eq, need_of ⟨by omega, by omega⟩, bnd_eq, hT _ hr]
  obtain ⟨n, e1, e2, _⟩ := rfor_inv (n := (m : Int)) (step := layer_Best_1_L1 (k : Int) bt ((rem s k : Nat) : Int)) (s0 := (TF m B (rem s k)).1)
    (fun j n => n = (TF m B (rem s k)).1 + sm (fun j => if (rem s k).testBit j = true then B k j else 0) j ∧ 0 ≤ n ∧ n ≤ 410000000 + j * 40000) (by omega) ⟨by simp [sm], hTb.1, (by omega)⟩ (fun j n hj hI => by
      obtain ⟨i1, i2, i3⟩ := hI
      have hj' : j < m := by omega
      have hb := hB k j hkm hj'
      have e : sm (fun j => if (rem s k).testBit j = true then B k j else 0) (j + 1) = sm (fun j => if (rem s k).testBit j = true then B k j else 0) j + (if (rem s k).testBit j = true then B k j else 0) := rfl
      unfold layer_Best_1_L1
      rw [need_of (by omega), bit_one (by omega) (by omega)]
      by_cases c : (rem s k).testBit j = true
      · rw [c, cond_true, need_of ⟨by omega, by omega⟩, need_of ⟨by omega, by omega⟩, need_of ⟨by omega, by omega⟩, bnd_eq, hbt.val k j hkm hj', Wk (by omega) (by omega)]
        refine ⟨_, rfl, ?_, by omega, by push_cast; omega⟩
        rw [e, if_pos c, i1]; omega
      · have c' : (rem s k).testBit j = false := by simpa using c
        rw [c', cond_false]
        refine ⟨_, rfl, ?_, i2, by push_cast; omega⟩
        rw [e, if_neg c, i1]; omega)
  rw [e1, Option.bind_some, e2]
  rfl

/-- The table of sets. -/
theorem sets_eq (hB : ∀ k j, k < m → j < m → 0 ≤ B k j ∧ B k j ≤ 40000) (hm : m ≤ 10) (hbt : TabV m bt B) {lz fz : List Int} (hlz : lz.length = 2 ^ m) (hfz : fz.length = 2 ^ m) (hl0 : gx lz 0 = 0) (hf0 : ∀ t : Nat, t < 2 ^ m → gx fz (t : Int) = 0) :
    ∃ least first, loop (layer_Best_L4 (m : Int)) (1, bt, lz, fz) = some (least, first) ∧ least.length = 2 ^ m ∧ first.length = 2 ^ m ∧ ∀ t : Nat, t < 2 ^ m → gx least (t : Int) = (TF m B t).1 ∧ gx first (t : Int) = ((TF m B t).2 : Int) := by
  have hp := pow_le hm
  have hp1 : 1 ≤ 2 ^ m := Nat.one_le_two_pow
  obtain ⟨e, h1, h2, h3, h4⟩ := loop_inv (body := layer_Best_L4 (m : Int)) (s0 := (1, bt, lz, fz))
    (fun st => ∃ s : Nat, st.1 = s ∧ 1 ≤ s ∧ s ≤ 2 ^ m ∧ st.2.1 = bt ∧ st.2.2.1.length = 2 ^ m ∧ st.2.2.2.length = 2 ^ m ∧ (∀ t : Nat, t < s → gx st.2.2.1 (t : Int) = (TF m B t).1 ∧ gx st.2.2.2 (t : Int) = ((TF m B t).2 : Int)) ∧ ∀ t : Nat, s ≤ t → t < 2 ^ m → gx st.2.2.2 (t : Int) = 0)
    (fun st => (((2 ^ m : Nat) : Int) - st.1).toNat) (fun e => e.1.length = 2 ^ m ∧ e.2.length = 2 ^ m ∧ ∀ t : Nat, t < 2 ^ m → gx e.1 (t : Int) = (TF m B t).1 ∧ gx e.2 (t : Int) = ((TF m B t).2 : Int))
    ⟨1, rfl, Nat.le_refl _, hp1, rfl, hlz, hfz, fun t ht => by
      have : t = 0 := by omega
      subst this
      rw [TF_zero]
      exact ⟨hl0, hf0 0 (by omega)⟩, fun t a b => hf0 t b⟩ (fun st hI => by
      obtain ⟨s, i1, i2, i3, i4, i5, i6, i7, i8⟩ := hI
      obtain ⟨st1, st2, lst, fst⟩ := st
      simp only at i1 i4 i5 i6 i7 i8
      subst i1 i4
      unfold layer_Best_L4
      simp only
      rw [need_of (by omega), ishl_nat (by omega)]
      by_cases c : s < 2 ^ m
      · left
        have cI : (s : Int) < ((2 ^ m : Nat) : Int) := Int.ofNat_lt.2 c
        rw [decide_eq_true cI, cond_true, need_of ⟨by omega, by omega⟩, bnd_eq]
        simp only [Int.toNat_natCast]
        -- one set
        obtain ⟨q, g1, g2, g3, g4, g5, g6, g7, g8⟩ := rfor_inv (n := (m : Int)) (step := layer_Best_L5 (m : Int) ((s : Int), st2, lst, fst)) (s0 := (st2, lst.set s (-1), fst))
          (fun k q => q.1 = st2 ∧ q.2.1.length = 2 ^ m ∧ q.2.2.length = 2 ^ m ∧ (∀ t : Nat, t ≠ s → gx q.2.1 (t : Int) = gx lst (t : Int)) ∧ (∀ t : Nat, t ≠ s → gx q.2.2 (t : Int) = gx fst (t : Int)) ∧
            gx q.2.1 (s : Int) = (foldB s (fun k => (TF m B (rem s k)).1 + inS m B s k) k).1 ∧ gx q.2.2 (s : Int) = ((foldB s (fun k => (TF m B (rem s k)).1 + inS m B s k) k).2 : Int)) (by omega)
          ⟨rfl, by simp [i5], i6, fun t ht => by rw [gx_setN (by omega), if_neg ht], fun t ht => rfl, by rw [gx_setN (by omega), if_pos rfl]; rfl, by rw [i8 s (Nat.le_refl _) c]; rfl⟩ (fun k q hk hq => by
            obtain ⟨j1, j2, j3, j4, j5, j6, j7⟩ := hq
            obtain ⟨q1, q2, q3⟩ := q
            simp only at j1 j2 j3 j4 j5 j6 j7
            subst j1
            have hk' : k < m := by omega
            have ef : foldB s (fun k => (TF m B (rem s k)).1 + inS m B s k) (k + 1) = stepB s (fun k => (TF m B (rem s k)).1 + inS m B s k) k (foldB s (fun k => (TF m B (rem s k)).1 + inS m B s k) k) := rfl
            unfold layer_Best_L5
            simp only
            rw [need_of (by omega), bit_zero (by omega) (by omega)]
            by_cases hb : s.testBit k = true
            · rw [hb, Bool.not_true, cond_false]
              rw [cost_eq hB hm hbt c hb j2 (fun t ht => by rw [j4 t (by omega)]; exact (i7 t ht).1), Option.bind_some]
              simp only
              rw [need_of ⟨by omega, by omega⟩, need_of (fun _ => ⟨by omega, by omega⟩), j6]
              by_cases d : (foldB s (fun k => (TF m B (rem s k)).1 + inS m B s k) k).1 < 0 ∨ (TF m B (rem s k)).1 + inS m B s k < (foldB s (fun k => (TF m B (rem s k)).1 + inS m B s k) k).1
              · have hd : (decide ((foldB s (fun k => (TF m B (rem s k)).1 + inS m B s k) k).1 < 0) || decide ((TF m B (rem s k)).1 + inS m B s k < (foldB s (fun k => (TF m B (rem s k)).1 + inS m B s k) k).1)) = true := by simpa using d
                have es : stepB s (fun k => (TF m B (rem s k)).1 + inS m B s k) k (foldB s (fun k => (TF m B (rem s k)).1 + inS m B s k) k) = ((TF m B (rem s k)).1 + inS m B s k, k) := by unfold stepB; rw [if_pos hb, if_pos d]
                rw [hd, cond_true, need_of ⟨by omega, by omega⟩, need_of ⟨by omega, by omega⟩]
                simp only [Int.toNat_natCast]
                refine ⟨_, rfl, rfl, by simp [j2], by simp [j3], fun t ht => ?_, fun t ht => ?_, ?_, ?_⟩
                · simp only; rw [gx_setN (by omega), if_neg ht]; exact j4 t ht
                · simp only; rw [gx_setN (by omega), if_neg ht]; exact j5 t ht
                · simp only; rw [gx_setN (by omega), if_pos rfl, ef, es]
                · simp only; rw [gx_setN (by omega), if_pos rfl, ef, es]
              · have hd : (decide ((foldB s (fun k => (TF m B (rem s k)).1 + inS m B s k) k).1 < 0) || decide ((TF m B (rem s k)).1 + inS m B s k < (foldB s (fun k => (TF m B (rem s k)).1 + inS m B s k) k).1)) = false := by
                  cases hh : (decide ((foldB s (fun k => (TF m B (rem s k)).1 + inS m B s k) k).1 < 0) || decide ((TF m B (rem s k)).1 + inS m B s k < (foldB s (fun k => (TF m B (rem s k)).1 + inS m B s k) k).1)) with
                  | false => rfl
                  | true => exact absurd (by simpa using hh) d
                have es : stepB s (fun k => (TF m B (rem s k)).1 + inS m B s k) k (foldB s (fun k => (TF m B (rem s k)).1 + inS m B s k) k) = foldB s (fun k => (TF m B (rem s k)).1 + inS m B s k) k := by unfold stepB; rw [if_pos hb, if_neg d]
                rw [hd, cond_false]
                exact ⟨_, rfl, rfl, j2, j3, j4, j5, by rw [ef, es]; exact j6, by rw [ef, es]; exact j7⟩
            · have hb' : s.testBit k = false := by simpa using hb
              have es : stepB s (fun k => (TF m B (rem s k)).1 + inS m B s k) k (foldB s (fun k => (TF m B (rem s k)).1 + inS m B s k) k) = foldB s (fun k => (TF m B (rem s k)).1 + inS m B s k) k := by unfold stepB; rw [if_neg hb]
              rw [hb', Bool.not_false, cond_true]
              exact ⟨_, rfl, rfl, j2, j3, j4, j5, by rw [ef, es]; exact j6, by rw [ef, es]; exact j7⟩)
        simp only [Int.toNat_natCast] at g7 g8
        rw [g1, Option.bind_some, bnd_eq, Wk (by omega) (by omega)]
        have eT := TF_eq (m := m) (B := B) (s := s) (by omega)
        refine ⟨_, rfl, ⟨s + 1, by simp, by omega, by omega, g2, g3, g4, fun t ht => ?_, fun t a b => ?_⟩, by simp only; omega⟩
        · by_cases z : t = s
          · subst z
            simp only
            rw [g7, g8, eT]; exact ⟨rfl, rfl⟩
          · simp only
            rw [g5 t z, g6 t z]; exact i7 t (by omega)
        · simp only
          rw [g6 t (by omega)]; exact i8 t (by omega) b
      · right
        obtain rfl : s = 2 ^ m := by omega
        rw [decide_eq_false (p := (((2 ^ m : Nat)) : Int) < ((2 ^ m : Nat) : Int)) (Int.lt_irrefl _), cond_false]
        exact ⟨_, rfl, i5, i6, i7⟩)
  exact ⟨e.1, e.2, h1, h2, h3, h4⟩

/-- The order that is told. -/
theorem out_eq (hB : ∀ k j, k < m → j < m → 0 ≤ B k j ∧ B k j ≤ 40000) (hm : m ≤ 10) {N least first : List Int} (hN : N.length = m) (hfl : first.length = 2 ^ m) (hF : ∀ t : Nat, t < 2 ^ m → gx first (t : Int) = ((TF m B t).2 : Int)) :
    ∃ o : List Nat, loop (layer_Best_L6 (least, first) N) (([] : List Int), ((2 ^ m - 1 : Nat) : Int)) = some (o.map (fun i : Nat => gx N (i : Int))) ∧ Lst (fun s => (TF m B s).2) (2 ^ m - 1) o := by
  have hp := pow_le hm
  have hp1 : 1 ≤ 2 ^ m := Nat.one_le_two_pow
  have hD := TF_dp hB hm
  obtain ⟨e, h1, o, h2, h3⟩ := loop_inv (body := layer_Best_L6 (least, first) N) (s0 := (([] : List Int), ((2 ^ m - 1 : Nat) : Int)))
    (fun st => ∃ s : Nat, ∃ o1 : List Nat, st.2 = s ∧ s < 2 ^ m ∧ st.1 = o1.map (fun i : Nat => gx N (i : Int)) ∧ o1.length + s ≤ 2 ^ m ∧ ∀ o2, Lst (fun s => (TF m B s).2) s o2 → Lst (fun s => (TF m B s).2) (2 ^ m - 1) (o1 ++ o2))
    (fun st => st.2.toNat) (fun e => ∃ o : List Nat, e = o.map (fun i : Nat => gx N (i : Int)) ∧ Lst (fun s => (TF m B s).2) (2 ^ m - 1) o)
    ⟨2 ^ m - 1, [], rfl, by omega, rfl, by simp, fun o2 h => h⟩ (fun st hI => by
      obtain ⟨s, o1, i1, i2, i3, i4, i5⟩ := hI
      obtain ⟨out, st2⟩ := st
      simp only at i1 i3
      subst i1 i3
      unfold layer_Best_L6
      simp only
      by_cases c : 0 < s
      · left
        have hb := hD.mem s c i2
        have hr := rem_lt hb
        have hkm := bit_lt i2 hb
        rw [decide_eq_true (p := (0 : Int) < (s : Int)) (by omega), cond_true, need_of ⟨by omega, by omega⟩, hF s i2, need_of ⟨by omega, by omega⟩, need_of (by rw [room_iff]; simp; omega), bnd_eq, need_of ⟨by omega, by omega⟩, need_of (by omega), iandn_rem (by omega) (by omega), bnd_eq]
        refine ⟨_, rfl, ⟨rem s (TF m B s).2, o1 ++ [(TF m B s).2], rfl, by omega, by simp, by simp; omega, fun o2 h => ?_⟩, by simp only; omega⟩
        rw [List.append_assoc]
        exact i5 _ (Lst.cons c h)
      · right
        obtain rfl : s = 0 := by omega
        rw [decide_eq_false (p := (0 : Int) < ((0 : Nat) : Int)) (by omega), cond_false]
        exact ⟨_, rfl, o1, rfl, by have := i5 [] Lst.nil; simpa using this⟩)
  exact ⟨o, by rw [h1, h2], h3⟩
end

section
variable {upper lower : List Int} {l : List Link}
theorem tab0 {m : Nat} : TabV m (List.replicate m (List.replicate m (0 : Int))) (fun _ _ => 0) := by
  refine ⟨by simp, fun a ha => ?_, fun a b ha hb => ?_⟩
  · rw [gx_nat (by simpa using ha)]; simp
  · have : gx (List.replicate m (List.replicate m (0 : Int))) (a : Int) = List.replicate m 0 := by rw [gx_nat (by simpa using ha)]; simp
    rw [this, gx_nat (by simpa using hb)]; simp
theorem sorted_nodes (h : PairOK upper lower l) : slices_Sorted_int (⟨lower⟩ : SeqI) = some (nodesN lower) := by
  have := h.ll
  unfold slices_Sorted_int
  rw [need_of (by simp only; omega)]; rfl
theorem Best_eq (h : PairOK upper lower l) (hc : layer_checkPair upper lower l = some 0) (hm : lower.length ≤ 10) :
    ∃ o : List Nat, layer_Best upper lower l = some (o.map (fun i : Nat => gx (nodesN lower) (i : Int)), (TF lower.length (BB upper lower l) (2 ^ lower.length - 1)).1, 0) ∧ Lst (fun s => (TF lower.length (BB upper lower l) s).2) (2 ^ lower.length - 1) o := by
  obtain ⟨n1, n2, n3⟩ := h.nodes
  have hp := pow_le hm
  have hp1 : 1 ≤ 2 ^ lower.length := Nat.one_le_two_pow
  have hB : ∀ k j, k < lower.length → j < lower.length → 0 ≤ BB upper lower l k j ∧ BB upper lower l k j ≤ 40000 := fun k j _ _ => BB_bd h.kl k j
  obtain ⟨A, a1, _, a2⟩ := places_eq (row := nodesN lower) (by omega)
  obtain ⟨U, u1, _, u2⟩ := places_eq (row := upper) (by have := h.ul; omega)
  unfold layer_Best
  rw [hc, Option.bind_some]
  simp only [decide_true, Bool.not_true, cond_false]
  rw [decide_eq_false (p := (10 : Int) < (lower.length : Int)) (by omega), cond_false]
  have hv : slices_Values_int lower = some (⟨lower⟩ : SeqI) := rfl
  rw [hv, Option.bind_some, sorted_nodes h, Option.bind_some, a1, Option.bind_some, u1, Option.bind_some, bnd_eq, n1, need_of ⟨by omega, by omega, by omega⟩, bnd_eq]
  simp only [Int.toNat_natCast]
  have e1 : rfor ((List.replicate lower.length ([] : List Int)).length : Int) (layer_Best_L1 (lower.length : Int)) (List.replicate lower.length ([] : List Int)) = some (List.replicate lower.length (List.replicate lower.length (0 : Int))) := by
    obtain ⟨s, b1, b2, b3⟩ := rfor_inv (n := ((List.replicate lower.length ([] : List Int)).length : Int)) (step := layer_Best_L1 (lower.length : Int)) (s0 := List.replicate lower.length ([] : List Int))
      (fun i s => s.length = lower.length ∧ ∀ t : Nat, t < i → gx s (t : Int) = List.replicate lower.length (0 : Int)) (by simp; omega) ⟨by simp, fun t ht => by omega⟩ (fun i s hi hI => by
        obtain ⟨c1, c2⟩ := hI
        simp only [List.length_replicate] at hi
        unfold layer_Best_L1
        rw [need_of ⟨by omega, by omega, by omega⟩, need_of ⟨by omega, by omega⟩]
        simp only [Int.toNat_natCast]
        refine ⟨_, rfl, by simp [c1], fun t ht => ?_⟩
        rw [gx_setR2 (by omega)]
        by_cases z : t = i
        · rw [if_pos z]
        · rw [if_neg z]; exact c2 t (by omega))
    rw [b1]
    congr 1
    refine List.ext_getElem (by simp [b2]) fun i h1 h2 => ?_
    have := b3 i (by simp at h2 ⊢; omega)
    rw [gx_nat h1] at this
    rw [this]; simp
  rw [e1, Option.bind_some]
  obtain ⟨bt, b1, b2⟩ := before_eq h (fun x hx => u2 h.un x hx) (fun x hx => a2 n2 x ((n3 x).2 hx)) tab0
  rw [b1, Option.bind_some, need_of (by omega), bnd_eq, ishl_nat (by omega), need_of ⟨by omega, by omega, by omega⟩, need_of (by omega), bnd_eq, need_of ⟨by omega, by omega, by omega⟩, bnd_eq, bnd_eq]
  simp only [Int.toNat_natCast]
  have hz : ∀ t : Nat, t < 2 ^ lower.length → gx (List.replicate (2 ^ lower.length) (0 : Int)) (t : Int) = 0 := fun t ht => by rw [gx_nat (by simpa using ht)]; simp
  obtain ⟨least, first, f1, f2, f3, f4⟩ := sets_eq hB hm b2 (lz := List.replicate (2 ^ lower.length) 0) (fz := List.replicate (2 ^ lower.length) 0) (by simp) (by simp) (hz 0 (by omega)) hz
  rw [f1, Option.bind_some, need_of (by omega)]
  have e2 : W (((2 ^ lower.length : Nat) : Int) - 1) = ((2 ^ lower.length - 1 : Nat) : Int) := by
    rw [Wk (by omega) (by omega), Int.ofNat_sub hp1]; rfl
  rw [e2, bnd_eq]
  obtain ⟨o, o1, o2⟩ := out_eq hB hm (N := nodesN lower) (least := least) n1 f3 (fun t ht => (f4 t ht).2)
  rw [o1, Option.bind_some, need_of (by omega), need_of ⟨by omega, by simp only; omega⟩]
  refine ⟨o, ?_, o2⟩
  simp only
  rw [(f4 _ (by omega)).1]
end
end Go.DB
