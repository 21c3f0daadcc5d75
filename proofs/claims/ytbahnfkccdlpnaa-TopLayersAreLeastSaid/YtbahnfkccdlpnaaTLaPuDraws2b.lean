/-
  Rows that are swept: they stay the same nodes.
-/
import Derived.Test.YtbahnfkccdlpnaaTLaPuDraws2
import Derived.Test.YtbahnfkccdlpnaaTLaPuLinkF
set_option linter.unusedSimpArgs false
set_option linter.unusedVariables false
namespace Go.DB
open Go Go.RowKit

theorem crossings_some {a b : List Int} {l : List Link} (ha : a.length ≤ 60) (hb : b.length ≤ 60) (hl : l.length ≤ 200) : ∃ k, layer_crossings a b l = some k := by
  unfold layer_crossings
  obtain ⟨U, u1, _⟩ := places_eq (row := a) (by omega)
  obtain ⟨V, v1, _⟩ := places_eq (row := b) (by omega)
  rw [u1, Option.bind_some, v1, Option.bind_some]
  obtain ⟨k, k1, _⟩ := rfor_inv (n := (l.length : Int)) (step := layer_crossings_L1 l U V) (s0 := 0) (fun _ _ => True) (by omega) trivial (fun i s hi _ => by
    unfold layer_crossings_L1
    rw [need_of ⟨by omega, hi⟩, bnd_eq, need_of ⟨by omega, by omega, by omega⟩, bnd_eq]
    have hs : (seg l 0 (i : Int)).length ≤ 200 := by simp [seg]; omega
    obtain ⟨s', s1, _⟩ := rfor_inv (n := ((seg l 0 (i : Int)).length : Int)) (step := layer_crossings_L2 (gx l (i : Int)) (seg l 0 (i : Int)) U V) (s0 := s) (fun _ _ => True) (by omega) trivial (fun j z hj _ => by
      unfold layer_crossings_L2
      rw [need_of ⟨by omega, hj⟩, bnd_eq]
      cases decide (W (W (U.getD (gx l (i : Int)).From 0 - U.getD (gx (seg l 0 (i : Int)) (j : Int)).From 0) * W (V.getD (gx l (i : Int)).To 0 - V.getD (gx (seg l 0 (i : Int)) (j : Int)).To 0)) < 0) with
      | true => exact ⟨_, rfl, trivial⟩
      | false => exact ⟨_, rfl, trivial⟩)
    exact ⟨s', s1, trivial⟩)
  rw [k1, Option.bind_some]
  exact ⟨k, rfl⟩
/-- Rows of few nodes. -/
def RowsOK (rows : List (List Int)) : Prop := rows.length ≤ 1000 ∧ ∀ k : Int, 0 ≤ k → k < rows.length → (gx rows k).length ≤ 60 ∧ (gx rows k).Nodup
theorem all_some {rows : List (List Int)} {l : List Link} (hr : RowsOK rows) (hl : l.length ≤ 200) : ∃ k, layer_all rows l = some k := by
  obtain ⟨h0, h1⟩ := hr
  unfold layer_all
  obtain ⟨k, k1, _⟩ := loop_inv (body := layer_all_L1 l rows) (s0 := ((0 : Int), (1 : Int))) (fun st => 1 ≤ st.2 ∧ st.2 ≤ 1001) (fun st => (1001 - st.2).toNat) (fun _ => True) ⟨by simp, by simp⟩ (fun st hI => by
    obtain ⟨i1, i2⟩ := hI
    obtain ⟨s, i⟩ := st
    simp only at i1 i2
    unfold layer_all_L1
    simp only
    by_cases c : i < rows.length
    · left
      obtain ⟨a1, a2⟩ := h1 (i - 1) (by omega) (by omega)
      obtain ⟨b1, b2⟩ := h1 i (by omega) c
      obtain ⟨U, u1, _⟩ := places_eq (row := gx rows (i - 1)) (by omega)
      obtain ⟨V, v1, _⟩ := places_eq (row := gx rows i) (by omega)
      rw [decide_eq_true c, cond_true, Wk (n := i - 1) (by omega) (by omega), need_of ⟨by omega, by omega⟩, u1, Option.bind_some, need_of ⟨by omega, c⟩, v1, Option.bind_some, Clone_Link_eq (by omega), Option.bind_some,
        DeleteFunc_Link_eq l (fun x0 => layer_all_1 x0 U V) (fun x => (!(U.has x.From)) || (!(V.has x.To))) (by omega) (fun x _ => rfl), Option.bind_some, need_of ⟨by omega, by omega⟩, need_of ⟨by omega, c⟩]
      obtain ⟨z, z1⟩ := crossings_some (l := l.filter (fun x => !((!(U.has x.From)) || (!(V.has x.To))))) a1 b1 (Nat.le_trans (List.length_filter_le _ _) hl)
      rw [z1, Option.bind_some, bnd_eq, Wk (n := i + 1) (by omega) (by omega), bnd_eq]
      exact ⟨_, rfl, ⟨by simp only; omega, by simp only; omega⟩, by simp only; omega⟩
    · right
      rw [decide_eq_false c, cond_false]
      exact ⟨_, rfl, trivial⟩)
  rw [k1, Option.bind_some]
  exact ⟨k, rfl⟩
def RowP (rows rows' : List (List Int)) : Prop := rows'.length = rows.length ∧ ∀ k : Int, 0 ≤ k → k < rows.length → (gx rows' k).Perm (gx rows k)
theorem RowP.refl {rows : List (List Int)} : RowP rows rows := ⟨rfl, fun _ _ _ => .refl _⟩
theorem RowP.ok {rows rows' : List (List Int)} (h : RowP rows rows') (hr : RowsOK rows) : RowsOK rows' := ⟨by rw [h.1]; exact hr.1, fun k k0 k1 => by
  have hp := h.2 k k0 (by rw [← h.1]; exact k1)
  obtain ⟨a, b⟩ := hr.2 k k0 (by rw [← h.1]; exact k1)
  exact ⟨by rw [hp.length_eq]; exact a, hp.nodup_iff.2 b⟩⟩
theorem gx_setL {s : List (List Int)} {i : Int} (hi : inR s i) {v : List Int} {k : Int} (k0 : 0 ≤ k) : gx (s.set i.toNat v) k = if k = i then v else gx s k := by
  obtain ⟨h0, h1⟩ := hi
  unfold gx
  rw [List.getElem?_set]
  by_cases h : k = i
  · subst h
    have : k.toNat < s.length := by omega
    simp [this]
  · have : ¬ i.toNat = k.toNat := by omega
    simp [this, h]
theorem RowP.put {rows s : List (List Int)} (h : RowP rows s) {i : Int} (i0 : 0 ≤ i) (i1 : i < rows.length) {v : List Int} (hv : v.Perm (gx s i)) : RowP rows (s.set i.toNat v) := by
  have hi : inR s i := ⟨i0, by rw [h.1]; exact i1⟩
  refine ⟨by simp [h.1], fun k k0 k1 => ?_⟩
  rw [gx_setL hi k0]
  by_cases c : k = i
  · rw [if_pos c, c]; exact hv.trans (h.2 i i0 i1)
  · rw [if_neg c]; exact h.2 k k0 k1
theorem keep_some {now best : List (List Int)} {l : List Link} {least : Int} (hr : RowsOK now) (hl : l.length ≤ 200) : ∃ b' k, layer_sweep_1 now l least best = some (now, k, b') ∧ (b' = now ∨ b' = best) := by
  obtain ⟨n, n1⟩ := all_some hr hl
  have h1 := hr.1
  unfold layer_sweep_1
  rw [n1, Option.bind_some]
  by_cases c : n < least
  · rw [decide_eq_true c, cond_true]
    have : slices_Clone_Lint_own now = some (now, now) := by unfold slices_Clone_Lint_own; rw [need_of (by omega)]
    rw [this, Option.bind_some]
    exact ⟨_, _, rfl, .inl rfl⟩
  · rw [decide_eq_false c, cond_false]
    exact ⟨_, _, rfl, .inr rfl⟩
theorem down_some {rows now : List (List Int)} {l : List Link} (hr : RowsOK rows) (hl : l.length ≤ 200) (h : RowP rows now) : ∃ s, loop (layer_sweep_L2 l) (1, now) = some s ∧ RowP rows s := by
  refine loop_inv (body := layer_sweep_L2 l) (s0 := ((1 : Int), now)) (fun st => 1 ≤ st.1 ∧ st.1 ≤ 1001 ∧ RowP rows st.2) (fun st => (1001 - st.1).toNat) _ ⟨by simp, by simp, h⟩ (fun st hI => ?_)
  obtain ⟨i1, i2, i3⟩ := hI
  obtain ⟨i, s⟩ := st
  simp only at i1 i2 i3
  have hs := i3.ok hr
  have hsl := i3.1
  have h0 := hr.1
  unfold layer_sweep_L2
  simp only
  by_cases c : i < s.length
  · left
    obtain ⟨a1, a2⟩ := hs.2 (i - 1) (by omega) (by omega)
    obtain ⟨b1, b2⟩ := hs.2 i (by omega) c
    obtain ⟨o, o1, o2⟩ := sorted_perm (row := gx s i) (other := gx s (i - 1)) (l := l) (ends := layer_sweep_2) b1 a1 a2 hl (fun x => ⟨_, rfl⟩)
    rw [decide_eq_true c, cond_true, need_of ⟨by omega, c⟩, Wk (n := i - 1) (by omega) (by omega), need_of ⟨by omega, by omega⟩, o1, Option.bind_some, need_of ⟨by omega, c⟩, bnd_eq, Wk (by omega) (by omega), bnd_eq]
    exact ⟨_, rfl, ⟨by simp only; omega, by simp only; omega, i3.put (by omega) (by omega) o2⟩, by simp only; omega⟩
  · right
    rw [decide_eq_false c, cond_false]
    exact ⟨_, rfl, i3⟩
theorem up_some {rows now : List (List Int)} {l : List Link} {i0 : Int} (hr : RowsOK rows) (hl : l.length ≤ 200) (h : RowP rows now) (h0 : -10 ≤ i0 ∧ i0 + 1 < rows.length ∨ i0 < 0 ∧ -10 ≤ i0) : ∃ s, loop (layer_sweep_L3 l) (i0, now) = some s ∧ RowP rows s := by
  refine loop_inv (body := layer_sweep_L3 l) (s0 := (i0, now)) (fun st => (-10 ≤ st.1 ∧ st.1 + 1 < rows.length ∨ st.1 < 0 ∧ -10 ≤ st.1) ∧ RowP rows st.2) (fun st => (st.1 + 11).toNat) _ ⟨h0, h⟩ (fun st hI => ?_)
  obtain ⟨i2, i3⟩ := hI
  obtain ⟨i, s⟩ := st
  simp only at i2 i3
  have hs := i3.ok hr
  have hsl := i3.1
  have hrl := hr.1
  unfold layer_sweep_L3
  simp only
  by_cases c : 0 ≤ i
  · left
    obtain ⟨a1, a2⟩ := hs.2 (i + 1) (by omega) (by omega)
    obtain ⟨b1, b2⟩ := hs.2 i c (by omega)
    obtain ⟨o, o1, o2⟩ := sorted_perm (row := gx s i) (other := gx s (i + 1)) (l := l) (ends := layer_sweep_3) b1 a1 a2 hl (fun x => ⟨_, rfl⟩)
    rw [decide_eq_true c, cond_true, need_of ⟨c, by omega⟩, Wk (n := i + 1) (by omega) (by omega), need_of ⟨by omega, by omega⟩, o1, Option.bind_some, need_of ⟨c, by omega⟩, bnd_eq, Wk (by omega) (by omega), bnd_eq]
    exact ⟨_, rfl, ⟨by simp only; omega, i3.put c (by omega) o2⟩, by simp only; omega⟩
  · right
    rw [decide_eq_false c, cond_false]
    exact ⟨_, rfl, i3⟩
theorem Clone_Lint_eq {l : List (List Int)} (hl : l.length ≤ 1073741824) : slices_Clone_Lint l = some l := by
  unfold slices_Clone_Lint
  rw [need_of (by rw [room_iff]; simpa using hl)]
  simp only [bnd_eq, List.nil_append]
  unfold nilc
  by_cases h : l = []
  · simp [h]
  · rw [if_neg h]
/-- Rows that are swept stay the same nodes. -/
theorem sweep_some {rows : List (List Int)} {l : List Link} (hr : RowsOK rows) (hl : l.length ≤ 200) : ∃ out k, layer_sweep rows l 4 = some (out, k) ∧ RowP rows out := by
  have hr0 := hr.1
  have hlen : rows.length ≤ 1073741824 := by omega
  obtain ⟨a, ha⟩ := all_some hr hl
  unfold layer_sweep
  have ho : slices_Clone_Lint_own rows = some (rows, rows) := by unfold slices_Clone_Lint_own; rw [need_of hlen]
  rw [Clone_Lint_eq hlen, Option.bind_some, ho, Option.bind_some, ha, Option.bind_some]
  obtain ⟨s, s1, s2, s3⟩ := rfor_inv (n := (4 : Int)) (step := layer_sweep_L1 l) (s0 := (rows, rows, a)) (fun _ s => RowP rows s.1 ∧ RowP rows s.2.1) (by omega) ⟨.refl, .refl⟩ (fun i s _ hI => by
    obtain ⟨i1, i2⟩ := hI
    unfold layer_sweep_L1
    obtain ⟨d, d1, d2⟩ := down_some hr hl i1
    obtain ⟨b, k, k1, k2⟩ := keep_some (l := l) (best := s.2.1) (least := s.2.2) (d2.ok hr) hl
    have hdl := d2.1
    rw [d1, Option.bind_some, k1, Option.bind_some, bnd_eq]
    simp only
    rw [Wk (by omega) (by omega)]
    obtain ⟨u, u1, u2⟩ := up_some (i0 := (d.length : Int) - 2) hr hl d2 (by omega)
    have hb : RowP rows b := by
      rcases k2 with e | e
      · rw [e]; exact d2
      · rw [e]; exact i2
    obtain ⟨b', k', q1, q2⟩ := keep_some (l := l) (best := b) (least := k) (u2.ok hr) hl
    rw [u1, Option.bind_some, q1, Option.bind_some]
    refine ⟨_, rfl, u2, ?_⟩
    rcases q2 with e | e
    · simp only; rw [e]; exact u2
    · simp only; rw [e]; exact hb)
  rw [s1, Option.bind_some]
  obtain ⟨t, t1, t2⟩ := rfor_inv (n := (s.2.1.length : Int)) (step := layer_sweep_L4) (s0 := s.2.1) (fun _ t => t = s.2.1) (by have := s3.1; omega) rfl (fun i t hi hI => by
    subst hI
    unfold layer_sweep_L4
    have hin : inR s.2.1 (i : Int) := ⟨by omega, hi⟩
    have hrow := (s3.ok hr).2 (i : Int) (by omega) hi
    rw [need_of hin, Clone_int_eqR (by have := hrow.1; omega), Option.bind_some, need_of hin]
    refine ⟨_, rfl, ?_⟩
    have h2 : i < s.2.1.length := by have := hin.2; omega
    rw [gx_nat h2, Int.toNat_natCast]
    exact List.set_getElem_self h2)
  rw [t1, Option.bind_some, t2]
  exact ⟨_, _, rfl, s3⟩
end Go.DB
