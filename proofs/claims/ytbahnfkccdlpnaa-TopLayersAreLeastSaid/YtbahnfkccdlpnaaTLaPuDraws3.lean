/-
  Draw's parts: links that are turned around, rows, what is highest, numbers of nodes.
-/
import Derived.Test.YtbahnfkccdlpnaaTLaPuDraws2b
import Derived.Test.YtbahnfkccdlpnaaTLaPuNear1
set_option linter.unusedSimpArgs false
set_option linter.unusedVariables false
namespace Go.DB
open Go Go.RowKit

/-- Links turned around in their places. -/
theorem flips_eq {l : List Link} {t : List Int} (hl : l.length ≤ 200) (ht : t.length ≤ 200) (hnd : t.Nodup) (hr : ∀ j ∈ t, inR l j) : ∃ m, rfor (t.length : Int) (layer_Draw_L2 t) l = some m ∧ m.length = l.length ∧ ∀ j, inR l j → gx m j = if j ∈ t then flip (gx l j) else gx l j := by
  obtain ⟨m, h1, h2, h3⟩ := rfor_inv (n := (t.length : Int)) (step := layer_Draw_L2 t) (s0 := l) (fun i m => m.length = l.length ∧ ∀ j, inR l j → gx m j = if j ∈ t.take i then flip (gx l j) else gx l j) (by omega) ⟨rfl, fun j hj => by simp⟩ (fun i m hi hI => by
    have hi' : i < t.length := by omega
    obtain ⟨h2, h3⟩ := hI
    have htr := hr _ (List.getElem_mem hi')
    have hmr : inR m t[i] := ⟨htr.1, by rw [h2]; exact htr.2⟩
    unfold layer_Draw_L2
    rw [need_of ⟨by omega, hi⟩, gx_nat hi']
    simp only [bnd_eq]
    rw [need_of hmr, need_of hmr, need_of hmr]
    refine ⟨_, rfl, by simp [h2], fun j hj => ?_⟩
    rw [List.take_succ_eq_append_getElem hi']
    have hnot : ¬ t[i] ∈ t.take i := fun hm => by
      obtain ⟨k, hk, e⟩ := List.getElem_of_mem hm
      have hk' : k < i := by simp at hk; omega
      rw [List.getElem_take] at e
      exact absurd ((List.getElem_inj hnd).1 e) (by omega)
    have hv : (⟨(gx m t[i]).To, (gx m t[i]).From⟩ : Link) = flip (gx l t[i]) := by rw [h3 _ htr, if_neg hnot]; rfl
    rw [hv]
    have hg : gx (m.set (t[i]).toNat (flip (gx l t[i]))) j = if j = t[i] then flip (gx l t[i]) else gx m j := by
      unfold gx
      rw [List.getElem?_set]
      have := hj.1; have := htr.1; have := hmr.2
      by_cases h : j = t[i]
      · rw [h]
        have : (t[i]).toNat < m.length := by omega
        simp [this]
      · have : ¬ (t[i]).toNat = j.toNat := by omega
        simp [this, h]
    rw [hg, h3 j hj]
    have hm : j ∈ t.take i ++ [t[i]] ↔ j ∈ t.take i ∨ j = t[i] := by simp only [List.mem_append, List.mem_singleton]
    by_cases h : j = t[i]
    · rw [if_pos h, if_pos (hm.2 (.inr h)), h]
    · rw [if_neg h]
      by_cases h7 : j ∈ t.take i
      · rw [if_pos h7, if_pos (hm.2 (.inl h7))]
      · rw [if_neg h7, if_neg (fun h8 => (hm.1 h8).elim h7 h)])
  rw [h1]
  exact ⟨m, rfl, h2, fun j hj => by rw [h3 j hj]; simp⟩

theorem Max_eqD {out : List Int} (hp : 0 < out.length) (hl : out.length ≤ 1000000) : ∃ m, slices_Max_int out = some m ∧ m ∈ out ∧ ∀ x ∈ out, x ≤ m := by
  unfold slices_Max_int
  have e1 : decide ((out.length : Int) < 1) = false := by simp; omega
  simp only [e1, cond_false, bnd_eq]
  rw [need_of ⟨by omega, by omega⟩]
  obtain ⟨m, h1, h2, h3⟩ := loop_inv (body := slices_Max_int_L1 out) (s0 := (gx out 0, (1 : Int))) (fun s => ∃ i : Nat, s.2 = (i : Int) ∧ 1 ≤ i ∧ i ≤ out.length ∧ s.1 ∈ out ∧ ∀ j : Nat, j < i → gx out (j : Int) ≤ s.1) (fun s => (out.length - s.2).toNat) (fun m => m ∈ out ∧ ∀ x ∈ out, x ≤ m)
    ⟨1, rfl, by omega, by omega, gx_mem ⟨by omega, by omega⟩, fun j hj => by have : j = 0 := by omega
                                                                             subst this; exact Int.le_refl _⟩ (fun s hI => by
    obtain ⟨i, i1, i2, i3, i4, i5⟩ := hI
    unfold slices_Max_int_L1
    rw [i1]
    by_cases c : i < out.length
    · left
      have e1 : decide ((i : Int) < (out.length : Int)) = true := by simp; omega
      simp only [e1, cond_true, bnd_eq]
      rw [need_of ⟨by omega, by omega⟩, Wk (by omega) (by omega)]
      have hm := gx_mem (l := out) (k := (i : Int)) ⟨by omega, by omega⟩
      refine ⟨_, rfl, ⟨i + 1, by simp, by omega, by omega, ?_, fun j hj => ?_⟩, by simp only; omega⟩
      · simp only
        by_cases c2 : s.1 ≤ gx out (i : Int)
        · rw [Int.max_eq_right c2]; exact hm
        · rw [Int.max_eq_left (by omega)]; exact i4
      · simp only
        by_cases c2 : j < i
        · have := i5 j c2; omega
        · have : j = i := by omega
          subst this; omega
    · right
      have e1 : decide ((i : Int) < (out.length : Int)) = false := by simp; omega
      simp only [e1, cond_false]
      refine ⟨_, rfl, i4, fun x hx => ?_⟩
      obtain ⟨k, hk, rfl⟩ := List.getElem_of_mem hx
      have := i5 k (by omega)
      rw [gx_nat hk] at this
      exact this)
  rw [h1, Option.bind_some]
  exact ⟨m, rfl, h2, h3⟩

/-- The nodes of a rank, in order. -/
def rowF (r : List Int) (n : Nat) (y : Int) : List Int := ((List.range n).map (fun k : Nat => (k : Int))).filter (fun k => decide (gx r k = y))
theorem mem_rowF {r : List Int} {n : Nat} {y k : Int} : k ∈ rowF r n y ↔ (0 ≤ k ∧ k < n) ∧ gx r k = y := by
  unfold rowF
  rw [List.mem_filter, List.mem_map, decide_eq_true_iff]
  constructor
  · rintro ⟨⟨a, ha, rfl⟩, h2⟩
    exact ⟨⟨by omega, by have := List.mem_range.1 ha; omega⟩, h2⟩
  · rintro ⟨⟨h0, h1⟩, h2⟩
    exact ⟨⟨k.toNat, List.mem_range.2 (by omega), by omega⟩, h2⟩
theorem rowF_nodup {r : List Int} {n : Nat} {y : Int} : (rowF r n y).Nodup := by
  unfold rowF
  exact List.Pairwise.filter _ (List.Pairwise.map _ (fun a b h e => h (by omega)) List.nodup_range)
theorem rowF_succ {r : List Int} {n : Nat} {y : Int} : rowF r (n + 1) y = rowF r n y ++ if gx r (n : Int) = y then [(n : Int)] else [] := by
  unfold rowF
  rw [List.range_succ, List.map_append, List.filter_append]
  congr 1
  by_cases c : gx r (n : Int) = y
  · simp [c]
  · simp [c]
def cntF (r : List Int) (n : Nat) (y : Int) : Int := sm (fun k : Nat => if gx r (k : Int) < y then 1 else 0) n
theorem rowF_len {r : List Int} {y : Int} : ∀ {n : Nat}, ((rowF r n y).length : Int) = sm (fun k : Nat => if gx r (k : Int) = y then 1 else 0) n
  | 0 => rfl
  | n + 1 => by
    rw [rowF_succ, List.length_append, Int.natCast_add, rowF_len]
    show _ = sm _ n + _
    congr 1
    by_cases c : gx r (n : Int) = y
    · simp [c]
    · simp [c]
theorem cntF_step {r : List Int} {n : Nat} {y : Int} : cntF r n (y + 1) = cntF r n y + ((rowF r n y).length : Int) := by
  unfold cntF
  rw [rowF_len, ← sm_add]
  refine sm_congr fun k _ => ?_
  by_cases a : gx r (k : Int) < y
  · rw [if_pos a, if_pos (by omega), if_neg (by omega)]; rfl
  · rw [if_neg a]
    by_cases b : gx r (k : Int) = y
    · rw [if_pos b, if_pos (by omega)]; rfl
    · rw [if_neg b, if_neg (by omega)]; rfl
theorem sm_one_le {f : Nat → Int} : ∀ {n : Nat}, (∀ i, i < n → 0 ≤ f i ∧ f i ≤ 1) → 0 ≤ sm f n ∧ sm f n ≤ n
  | 0, _ => by simp [sm]
  | n + 1, h => by
    have := sm_one_le (fun i hi => h i (Nat.lt_succ_of_lt hi))
    have := h n (Nat.lt_succ_self n)
    show 0 ≤ sm f n + f n ∧ sm f n + f n ≤ _
    push_cast; omega
theorem cntF_bd {r : List Int} {n : Nat} {y : Int} : 0 ≤ cntF r n y ∧ cntF r n y ≤ n := sm_one_le fun i _ => by by_cases c : gx r (i : Int) < y <;> simp [c]
theorem rowF_few {r : List Int} {n : Nat} {y : Int} : (rowF r n y).length ≤ n := by
  have := (sm_one_le (f := fun k : Nat => if gx r (k : Int) = y then 1 else 0) (n := n) fun i _ => by by_cases c : gx r (i : Int) = y <;> simp [c]).2
  rw [← rowF_len] at this
  omega
/-- Rows by ranks. -/
theorem rows_eq {r : List Int} {n : Nat} {R : Int} (hn : n ≤ 60) (hlen : r.length = n) (hb : ∀ k : Int, 0 ≤ k → k < n → 0 ≤ gx r k ∧ gx r k ≤ R) (hR : 0 ≤ R ∧ R ≤ 60) :
    ∃ rows, rfor (n : Int) (layer_Draw_L3 r) (List.replicate (R + 1).toNat ([] : List Int)) = some rows ∧ (rows.length : Int) = R + 1 ∧ ∀ y : Int, 0 ≤ y → y ≤ R → gx rows y = rowF r n y := by
  obtain ⟨rows, h1, h2, h3⟩ := rfor_inv (n := (n : Int)) (step := layer_Draw_L3 r) (s0 := List.replicate (R + 1).toNat ([] : List Int)) (fun i s => (s.length : Int) = R + 1 ∧ ∀ y : Int, 0 ≤ y → y ≤ R → gx s y = rowF r i y) (by omega)
    ⟨by simp; omega, fun y y0 y1 => by
      unfold gx
      rw [List.getElem?_replicate, if_pos (by omega)]; rfl⟩ (fun i s hi hI => by
      obtain ⟨i1, i2⟩ := hI
      have hbi := hb (i : Int) (by omega) hi
      have hin : inR s (gx r (i : Int)) := ⟨hbi.1, by omega⟩
      have hri : inR r (i : Int) := ⟨by omega, by omega⟩
      have hfew := rowF_few (r := r) (n := i) (y := gx r (i : Int))
      unfold layer_Draw_L3
      rw [need_of hin, need_of hri, need_of hri, need_of hin, i2 _ hbi.1 hbi.2, need_of (by rw [room_iff]; simp; omega), need_of hin]
      refine ⟨_, rfl, by simp [i1], fun y y0 y1 => ?_⟩
      rw [gx_setL hin y0, rowF_succ]
      by_cases c : y = gx r (i : Int)
      · rw [if_pos c, if_pos c.symm, c]
      · rw [if_neg c, if_neg (fun e => c e.symm), i2 y y0 y1, List.append_nil])
  simp only [Int.toNat_natCast] at h3
  exact ⟨rows, h1, h2, h3⟩

/-- The greatest height of some nodes. -/
def IsHigh (sizes : List Point) (P : Int → Prop) (v : Int) : Prop := 0 ≤ v ∧ (∀ k, P k → (gx sizes k).Y ≤ v) ∧ (v = 0 ∨ ∃ k, P k ∧ (gx sizes k).Y = v)
theorem IsHigh.uni {sizes : List Point} {P Q : Int → Prop} {v w : Int} (h : IsHigh sizes P v) (h' : IsHigh sizes Q w) (hPQ : ∀ k, P k ↔ Q k) : v = w := by
  obtain ⟨a1, a2, a3⟩ := h
  obtain ⟨b1, b2, b3⟩ := h'
  have e1 : v ≤ w := by
    rcases a3 with e | ⟨k, k1, k2⟩
    · omega
    · have := b2 k ((hPQ k).1 k1); omega
  have e2 : w ≤ v := by
    rcases b3 with e | ⟨k, k1, k2⟩
    · omega
    · have := a2 k ((hPQ k).2 k1); omega
  omega
theorem IsHigh.step {sizes : List Point} {P : Int → Prop} {v k : Int} (h : IsHigh sizes P v) : IsHigh sizes (fun j => P j ∨ j = k) (max v (gx sizes k).Y) := by
  obtain ⟨a1, a2, a3⟩ := h
  refine ⟨by omega, fun j hj => ?_, ?_⟩
  · rcases hj with hj | rfl
    · have := a2 j hj; omega
    · omega
  · rcases Int.lt_or_le v (gx sizes k).Y with c | c
    · exact .inr ⟨k, .inr rfl, by omega⟩
    · rcases a3 with e | ⟨j, j1, j2⟩
      · exact .inl (by omega)
      · exact .inr ⟨j, .inl j1, by omega⟩
theorem IsHigh.none {sizes : List Point} {P : Int → Prop} (h : ∀ k, ¬ P k) : IsHigh sizes P 0 := ⟨Int.le_refl _, fun k hk => absurd hk (h k), .inl rfl⟩
theorem IsHigh.congr {sizes : List Point} {P Q : Int → Prop} {v : Int} (h : IsHigh sizes P v) (hPQ : ∀ k, P k ↔ Q k) : IsHigh sizes Q v :=
  ⟨h.1, fun k hk => h.2.1 k ((hPQ k).2 hk), h.2.2.imp id (fun ⟨k, k1, k2⟩ => ⟨k, (hPQ k).1 k1, k2⟩)⟩
def hF (sizes : List Point) : List Int → Int
  | [] => 0
  | k :: l => max (hF sizes l) (gx sizes k).Y
theorem hF_high (sizes : List Point) : ∀ l : List Int, IsHigh sizes (fun k => k ∈ l) (hF sizes l)
  | [] => .none (by simp)
  | k :: l => ((hF_high sizes l).step (k := k)).congr fun j => by simp [or_comm]
/-- The place of a row. -/
def yF (sizes : List Point) (r : List Int) (n : Nat) (gapy : Int) : Nat → Int
  | 0 => 0
  | t + 1 => yF sizes r n gapy t + (hF sizes (rowF r n (t : Int)) + gapy)
end Go.DB
