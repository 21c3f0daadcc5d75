/-
  Draw's parts: all rows are placed.
-/
import Derived.Test.YtbahnfkccdlpnaaTLaPuDraws4
set_option linter.unusedSimpArgs false
set_option linter.unusedVariables false
namespace Go.DB
open Go Go.RowKit

section
variable {n : Nat} {sizes : List Point} {l : List Link} {r : List Int} {gapx gapy : Int}

/-- What is wanted in a row. -/
theorem want_eq (h : DrawIn n sizes l r gapx gapy) {out : List Point} (ho : out.length = n) {row : List Int} {R : Nat} {y : Int} (hrow : row.length ≤ n) (hmem : ∀ k ∈ row, (0 ≤ k ∧ k < n) ∧ gx r k = (R : Int)) {M : Int} (hM : 0 ≤ M ∧ M ≤ 900000) (hM2 : row.length * 2000 ≤ M + 1000 ∨ 0 < R)
    (hX : ∀ j : Int, 0 ≤ j → j < n → gx r j < (R : Int) → -M ≤ (gx out j).X ∧ (gx out j).X ≤ M) :
    ∃ want size high en, rfor (row.length : Int) (layer_Draw_L5 r l ((R : Int), (y, out)) row gapx sizes) (([] : List Int), ([] : List Int), 0, 0) = some (want, size, high, en) ∧ want.length = row.length ∧ size.length = row.length ∧
      (∀ i : Nat, i < row.length → -(M + 1000) ≤ gx want (i : Int) ∧ gx want (i : Int) ≤ M + 1000) ∧ (∀ i : Nat, i < row.length → gx size (i : Int) = (gx sizes (gx row (i : Int))).X) ∧ IsHigh sizes (fun k => k ∈ row) high := by
  have hn := h.n1
  obtain ⟨s, s1, s2, s3, s4, s5, s6, s7⟩ := rfor_inv (n := (row.length : Int)) (step := layer_Draw_L5 r l ((R : Int), (y, out)) row gapx sizes) (s0 := (([] : List Int), ([] : List Int), (0 : Int), (0 : Int)))
    (fun i s => s.1.length = i ∧ s.2.1.length = i ∧ (∀ t : Nat, t < i → -(M + 1000) ≤ gx s.1 (t : Int) ∧ gx s.1 (t : Int) ≤ M + 1000) ∧ (∀ t : Nat, t < i → gx s.2.1 (t : Int) = (gx sizes (gx row (t : Int))).X) ∧ IsHigh sizes (fun k => k ∈ row.take i) s.2.2.1 ∧ 0 ≤ s.2.2.2 ∧ s.2.2.2 ≤ i * 2000)
    (by omega) ⟨rfl, rfl, fun t ht => by omega, fun t ht => by omega, .none (by simp), by simp, by simp⟩ (fun i s hi hI => by
    obtain ⟨i1, i2, i3, i4, i5, i6, i7⟩ := hI
    have hi' : i < row.length := by omega
    have hk := hmem _ (gx_mem (l := row) (k := (i : Int)) ⟨by omega, hi⟩)
    obtain ⟨hk1, hk2⟩ := hk
    have hs := h.sB _ hk1.1 hk1.2
    have hin : inR sizes (gx row (i : Int)) := ⟨hk1.1, by rw [h.slen]; exact hk1.2⟩
    have hg := h.gx1
    unfold layer_Draw_L5
    rw [need_of ⟨by omega, hi⟩, bnd_eq]
    obtain ⟨w, w1, w2⟩ : ∃ w, (bif decide (0 < (R : Int)) then (Option.bind (layer_middle (gx row (i : Int)) r l out sizes) fun w1 => some w1) else (some s.2.2.2)) = some w ∧ -(M + 1000) ≤ w ∧ w ≤ M + 1000 := by
      by_cases c : 0 < (R : Int)
      · obtain ⟨w, w1, w2⟩ := middle_eq h ho (M := M) hk1.1 hk1.2 (by omega) (fun j j0 j1 j2 => hX j j0 j1 (by rw [← hk2]; exact j2))
        rw [decide_eq_true c, cond_true, w1]
        exact ⟨w, rfl, w2⟩
      · rw [decide_eq_false c, cond_false]
        refine ⟨_, rfl, ?_⟩
        rcases hM2 with e | e
        · omega
        · omega
    show ∃ s', (Option.bind (bif decide (0 < (R : Int)) then (Option.bind (layer_middle (gx row (i : Int)) r l out sizes) fun w1 => some w1) else (some s.2.2.2)) _) = some s' ∧ _
    rw [w1, Option.bind_some, need_of (by rw [room_iff]; simp; omega), need_of hin, need_of (by rw [room_iff]; simp; omega), bnd_eq, bnd_eq, need_of hin, bnd_eq, need_of hin, bnd_eq,
      Wk (n := (gx sizes (gx row (i : Int))).X + gapx) (by omega) (by omega), Wk (by omega) (by omega)]
    refine ⟨_, rfl, by simp [i1], by simp [i2], fun t ht => ?_, fun t ht => ?_, ?_, ?_, ?_⟩
    · simp only
      by_cases c : t < i
      · rw [gx_nat (by simp; omega), List.getElem_append_left (by omega), ← gx_nat (by omega)]; exact i3 t c
      · have : t = i := by omega
        subst this
        rw [gx_nat (by simp; omega), List.getElem_append_right (by omega)]
        simp [i1]; omega
    · simp only
      by_cases c : t < i
      · rw [gx_nat (by simp; omega), List.getElem_append_left (by omega), ← gx_nat (by omega)]; exact i4 t c
      · have : t = i := by omega
        subst this
        rw [gx_nat (by simp; omega), List.getElem_append_right (by omega)]
        simp [i2]
    · simp only
      refine (i5.step (k := gx row (i : Int))).congr fun k => ?_
      rw [List.take_succ_eq_append_getElem hi', List.mem_append, List.mem_singleton, gx_nat hi']
    · simp only; omega
    · simp only; push_cast; omega)
  simp only [Int.toNat_natCast] at s2 s3 s4 s5 s6
  obtain ⟨want, size, high, en⟩ := s
  exact ⟨want, size, high, en, s1, s2, s3, s4, s5, by rw [List.take_length] at s6; exact s6⟩

/-- A row's nodes are put. -/
theorem put_eq {out : List Point} {row xs : List Int} {R y : Int} {s0 : Int × List Point} (hs0 : s0 = (y, out)) (hlen : xs.length = row.length) (hle : row.length ≤ 60) (hnd : row.Nodup) (hmem : ∀ k ∈ row, inR out k) :
    ∃ o, rfor (xs.length : Int) (layer_Draw_L6 xs (R, s0) row) out = some o ∧ o.length = out.length ∧ (∀ i : Nat, i < row.length → gx o (gx row (i : Int)) = ⟨gx xs (i : Int), y⟩) ∧ ∀ k : Int, 0 ≤ k → k ∉ row → gx o k = gx out k := by
  subst hs0
  obtain ⟨o, o1, o2, o3, o4⟩ := rfor_inv (n := (xs.length : Int)) (step := layer_Draw_L6 xs (R, (y, out)) row) (s0 := out)
    (fun i s => s.length = out.length ∧ (∀ t : Nat, t < i → gx s (gx row (t : Int)) = ⟨gx xs (t : Int), y⟩) ∧ ∀ k : Int, 0 ≤ k → k ∉ row.take i → gx s k = gx out k) (by omega) ⟨rfl, fun t ht => by omega, fun k _ _ => rfl⟩ (fun i s hi hI => by
    obtain ⟨i1, i2, i3⟩ := hI
    have hi' : i < row.length := by omega
    have hin := hmem _ (gx_mem (l := row) (k := (i : Int)) ⟨by omega, by omega⟩)
    have hin2 : inR s (gx row (i : Int)) := ⟨hin.1, by rw [i1]; exact hin.2⟩
    unfold layer_Draw_L6
    rw [need_of ⟨by omega, hi⟩, need_of ⟨by omega, by omega⟩, bnd_eq, need_of hin2]
    have hset : ∀ k : Int, 0 ≤ k → gx (s.set (gx row (i : Int)).toNat (⟨gx xs (i : Int), y⟩ : Point)) k = if k = gx row (i : Int) then (⟨gx xs (i : Int), y⟩ : Point) else gx s k := fun k k0 => by
      have := hin2.1; have := hin2.2
      unfold gx
      rw [List.getElem?_set]
      by_cases h : k = (row[(i : Int).toNat]?.getD default)
      · rw [if_pos h]
        have e : (row[(i : Int).toNat]?.getD default) = gx row (i : Int) := rfl
        rw [e] at h ⊢
        have h2 : (gx row (i : Int)).toNat < s.length := by omega
        rw [h]
        simp [h2]
      · rw [if_neg h]
        have e : (row[(i : Int).toNat]?.getD default) = gx row (i : Int) := rfl
        rw [e] at h ⊢
        have : ¬ (gx row (i : Int)).toNat = k.toNat := by omega
        simp [this]
    refine ⟨_, rfl, by simp [i1], fun t ht => ?_, fun k k0 hk => ?_⟩
    · simp only
      have htm := hmem _ (gx_mem (l := row) (k := (t : Int)) ⟨by omega, by omega⟩)
      rw [hset _ htm.1]
      by_cases c : t < i
      · rw [if_neg (fun e => by
          rw [gx_nat (by omega), gx_nat hi'] at e
          have := (List.getElem_inj hnd).1 e; omega)]
        exact i2 t c
      · have : t = i := by omega
        subst this
        rw [if_pos rfl]
    · rw [List.take_succ_eq_append_getElem hi', List.mem_append, List.mem_singleton, not_or] at hk
      rw [hset k k0, if_neg (by rw [gx_nat hi']; exact hk.2)]
      exact i3 k k0 hk.1)
  simp only [Int.toNat_natCast] at o3 o4
  rw [hlen] at o3 o4
  exact ⟨o, o1, o2, o3, fun k k0 hk => o4 k k0 (by rw [List.take_length]; exact hk)⟩

/-- Rows that are placed up to one. -/
structure Pl (n : Nat) (sizes : List Point) (r : List Int) (gapx gapy : Int) (t : Nat) (y : Int) (out : List Point) : Prop where
  len : out.length = n
  ye : y = yF sizes r n gapy t
  yb : 0 ≤ y ∧ y ≤ t * 2000
  at_ : ∀ k : Int, 0 ≤ k → k < n → gx r k < (t : Int) → (gx out k).Y = yF sizes r n gapy (gx r k).toNat
  xB : ∀ k : Int, 0 ≤ k → k < n → gx r k < (t : Int) → -(120000 + (t : Int) * 1000 + cntF r n (t : Int) * 2000) ≤ (gx out k).X ∧ (gx out k).X ≤ 120000 + (t : Int) * 1000 + cntF r n (t : Int) * 2000
  gap : ∀ j k : Int, 0 ≤ j → j < n → 0 ≤ k → k < n → j ≠ k → gx r j = gx r k → gx r j < (t : Int) → (gx out j).X + (gx sizes j).X + gapx ≤ (gx out k).X ∨ (gx out k).X + (gx sizes k).X + gapx ≤ (gx out j).X

theorem Pl.step (h : DrawIn n sizes l r gapx gapy) {rows : List (List Int)} {z : Int} {t : Nat} (ht : t ≤ 60) (htr : (t : Int) < rows.length) (hp : (gx rows (t : Int)).Perm (rowF r n (t : Int))) (hne : rowF r n (t : Int) ≠ []) {s : Int × List Point} (hs : Pl n sizes r gapx gapy t s.1 s.2) :
    ∃ s', layer_Draw_L4 r (rows, z) l gapx gapy sizes (t : Int) s = some s' ∧ Pl n sizes r gapx gapy (t + 1) s'.1 s'.2 := by
  obtain ⟨y, out⟩ := s
  have hn := h.n1
  have hgy := h.gy1
  have hmem : ∀ k ∈ gx rows (t : Int), (0 ≤ k ∧ k < n) ∧ gx r k = (t : Int) := fun k hk => mem_rowF.1 (hp.mem_iff.1 hk)
  have hrl : (gx rows (t : Int)).length ≤ n := by rw [hp.length_eq]; exact rowF_few
  have hnd : (gx rows (t : Int)).Nodup := hp.nodup_iff.2 rowF_nodup
  have hpos : 0 < (gx rows (t : Int)).length := by rw [hp.length_eq]; exact List.length_pos_iff.2 hne
  have hcb := cntF_bd (r := r) (n := n) (y := (t : Int))
  have hcs := cntF_step (r := r) (n := n) (y := (t : Int))
  rw [← hp.length_eq] at hcs
  have hcb2 := cntF_bd (r := r) (n := n) (y := (t : Int) + 1)
  unfold layer_Draw_L4
  rw [need_of ⟨by omega, htr⟩, bnd_eq]
  have ho := hs.len
  simp only at ho
  obtain ⟨want, size, high, en, w1, w2, w3, w4, w5, w6⟩ := want_eq h (out := out) ho (row := gx rows (t : Int)) (R := t) (y := y) hrl hmem (M := 120000 + (t : Int) * 1000 + cntF r n (t : Int) * 2000) (by omega) (.inl (by omega)) (fun j j0 j1 j2 => hs.xB j j0 j1 j2)
  rw [w1, Option.bind_some]
  simp only
  obtain ⟨xs, x1, x2, x3, x4⟩ := near_place (want := want) (size := size) (gap := gapx) (B := 120000 + (t : Int) * 1000 + cntF r n (t : Int) * 2000 + 1000) (by omega) (by omega) (by omega) (by omega) (fun i hi => w4 i (by omega)) (fun i hi => by
    rw [w5 i (by omega)]
    have hk := (hmem _ (gx_mem (l := gx rows (t : Int)) (k := (i : Int)) ⟨by omega, by omega⟩)).1
    exact (h.sB _ hk.1 hk.2).1) h.gx1
  rw [x1, Option.bind_some]
  obtain ⟨o, o1, o2, o3, o4⟩ := put_eq (out := out) (row := gx rows (t : Int)) (xs := xs) (R := (t : Int)) (y := y) rfl (by omega) (by omega) hnd (fun k hk => by
    have := (hmem k hk).1
    exact ⟨this.1, by rw [ho]; exact this.2⟩)
  rw [o1, Option.bind_some, bnd_eq]
  have hhb : 0 ≤ high ∧ high ≤ 1000 := by
    refine ⟨w6.1, ?_⟩
    rcases w6.2.2 with e | ⟨k, k1, k2⟩
    · omega
    · have hk := (hmem k k1).1
      have := (h.sB k hk.1 hk.2).2
      omega
  have hye := hs.ye
  have hyb := hs.yb
  simp only at hye hyb
  rw [Wk (n := high + gapy) (by omega) (by omega), Wk (by omega) (by omega)]
  have hhigh : high = hF sizes (rowF r n (t : Int)) := w6.uni (hF_high sizes _) (fun k => hp.mem_iff)
  have hat : ∀ k : Int, 0 ≤ k → k < n → gx r k = (t : Int) → ∃ i : Nat, i < (gx rows (t : Int)).length ∧ gx (gx rows (t : Int)) (i : Int) = k := fun k k0 k1 k2 => by
    obtain ⟨i, hi, e⟩ := List.getElem_of_mem (hp.mem_iff.2 (mem_rowF.2 ⟨⟨k0, k1⟩, k2⟩))
    exact ⟨i, hi, by rw [gx_nat hi, e]⟩
  have hold : ∀ k : Int, 0 ≤ k → k < n → gx r k ≠ (t : Int) → gx o k = gx out k := fun k k0 k1 k2 => o4 k k0 (fun hk => k2 (hmem k hk).2)
  refine ⟨_, rfl, by simp [o2, ho], ?_, ?_, fun k k0 k1 k2 => ?_, fun k k0 k1 k2 => ?_, fun j k j0 j1 k0 k1 hjk hr hj => ?_⟩
  · show y + (high + gapy) = yF sizes r n gapy (t + 1)
    rw [hhigh, hye]; rfl
  · simp only; push_cast; omega
  · simp only
    by_cases c : gx r k = (t : Int)
    · obtain ⟨i, i1, i2⟩ := hat k k0 k1 c
      have := o3 i i1
      rw [i2] at this
      rw [this, c, hye]; simp
    · rw [hold k k0 k1 c]
      exact hs.at_ k k0 k1 (by push_cast at k2; omega)
  · simp only
    push_cast at k2
    have hpc : ((t + 1 : Nat) : Int) = (t : Int) + 1 := by push_cast; rfl
    rw [hpc]
    by_cases c : gx r k = (t : Int)
    · obtain ⟨i, i1, i2⟩ := hat k k0 k1 c
      have := o3 i i1
      rw [i2] at this
      rw [this]
      have := x3 i (by omega)
      simp only
      rw [w2] at this
      omega
    · rw [hold k k0 k1 c]
      have := hs.xB k k0 k1 (by omega)
      simp only at this
      omega
  · simp only
    push_cast at hj
    by_cases c : gx r j = (t : Int)
    · obtain ⟨a, a1, a2⟩ := hat j j0 j1 c
      obtain ⟨b, b1, b2⟩ := hat k k0 k1 (by omega)
      have ea := o3 a a1
      have eb := o3 b b1
      rw [a2] at ea
      rw [b2] at eb
      have sa := w5 a (by omega)
      have sb := w5 b (by omega)
      rw [a2] at sa
      rw [b2] at sb
      rw [ea, eb, ← sa, ← sb]
      simp only
      rcases Nat.lt_trichotomy a b with q | q | q
      · exact .inl (x4 a b q (by omega))
      · subst q; exact absurd (a2.symm.trans b2) hjk
      · exact .inr (x4 b a q (by omega))
    · rw [hold j j0 j1 c, hold k k0 k1 (by omega)]
      exact hs.gap j k j0 j1 k0 k1 hjk hr (by omega)
end
end Go.DB
