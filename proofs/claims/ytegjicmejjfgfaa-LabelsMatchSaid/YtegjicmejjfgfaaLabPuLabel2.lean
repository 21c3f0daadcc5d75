/-
  Places of labels: the law.
-/
import Derived.Test.YtegjicmejjfgfaaLabPuLabel
set_option linter.unusedSimpArgs false
set_option linter.unusedVariables false
namespace Go.DB
open Go Go.RowKit

section
variable {l : List Point} {w h : Int} {walls : List Box}

theorem Nof_bd (hL : Lb l w h walls) : 0 ≤ Nof l ∧ Nof l ≤ 4000000000 := by
  have := lenUpto_bd (pathErr_zero.1 hL.path).1 l.length (Nat.le_refl _)
  have := (ptsErr_zero.1 (pathErr_zero.1 hL.path).1).1
  unfold Nof; omega
theorem far_eq (hL : Lb l w h walls) {k : Int} (h0 : 0 ≤ k) (h1 : k ≤ Nof l) : route_Label_1 k (Nof l) = some (farN (Nof l) k) := by
  have := Nof_bd hL
  unfold route_Label_1 farN
  rw [Wk (n := 2 * k) (by omega) (by omega), Wk (by omega) (by omega), Wk (by omega) (by omega)]

/-- The round over the places of a stretch. -/
theorem tries_eq (hL : Lb l w h walls) {i : Nat} (i1 : 1 ≤ i) (i2 : i < l.length) {cs : List Int} (hcs : cs.length ≤ 2000) {S : Int → Prop} {r4 : List Int} {s21 : Int × Bool × Int × Int × Box}
    (hl : s21.2.2.1 = lenUpto l i) (hc : r4 ++ [0, farI (gx l ((i : Int) - 1)) (gx l (i : Int)), W (((Nof l).tdiv 2) - lenUpto l i), W ((W (((Nof l).tdiv 2) - lenUpto l i)) + 1)] = cs)
    {best : Int} {sm : Bool} {box : Box} (hB : Bst (Nof l) (fitK l w h walls) (mkK l w h) S best sm box) :
    ∃ s', rfor (cs.length : Int) (route_Label_L3 (Nof l, 0) (farI (gx l ((i : Int) - 1)) (gx l (i : Int)), 0) (wayI (gx l ((i : Int) - 1)) (gx l (i : Int))) r4 (⟨w, h, walls⟩ : Route_tag) (gx l ((i : Int) - 1)) s21) (best, sm, box) = some s' ∧
      Bst (Nof l) (fitK l w h walls) (mkK l w h) (fun k => S k ∨ ∃ n ∈ cs, 0 ≤ n ∧ n ≤ farI (gx l ((i : Int) - 1)) (gx l (i : Int)) ∧ k = lenUpto l i + n) s'.1 s'.2.1 s'.2.2 := by
  have hN := Nof_bd hL
  have hnext := lenUpto_next (l := l) i1
  have hmono := lenUpto_mono hL.path (i := i + 1) (by omega) l.length (by omega) (Nat.le_refl _)
  have hl0 : 0 ≤ lenUpto l i := (lenUpto_bd (pathErr_zero.1 hL.path).1 i (by omega)).1
  obtain ⟨ka, kb, _⟩ := stretch hL.path i1 i2
  obtain ⟨ss, hss, hw⟩ := stretch_way hL.path i1 i2
  obtain ⟨s', g1, g2⟩ := rfor_inv (n := (cs.length : Int)) (step := route_Label_L3 (Nof l, 0) (farI (gx l ((i : Int) - 1)) (gx l (i : Int)), 0) (wayI (gx l ((i : Int) - 1)) (gx l (i : Int))) r4 (⟨w, h, walls⟩ : Route_tag) (gx l ((i : Int) - 1)) s21) (s0 := (best, sm, box))
    (fun j s => Bst (Nof l) (fitK l w h walls) (mkK l w h) (fun k => S k ∨ ∃ n ∈ cs.take j, 0 ≤ n ∧ n ≤ farI (gx l ((i : Int) - 1)) (gx l (i : Int)) ∧ k = lenUpto l i + n) s.1 s.2.1 s.2.2) (by omega)
    (hB.mono (fun k hk => by simpa using hk)) (fun j s hj hI => by
    have hj' : j < cs.length := by omega
    obtain ⟨b, m, x⟩ := s
    simp only at hI
    have hte : cs.take (j + 1) = cs.take j ++ [gx cs (j : Int)] := by rw [List.take_add_one, gx_nat hj', List.getElem?_eq_getElem hj']; rfl
    unfold route_Label_L3
    simp only [hl, hc, bnd_eq]
    rw [need_of ⟨by omega, hj⟩, hte]
    generalize gx cs (j : Int) = n
    by_cases c : n < 0 ∨ farI (gx l ((i : Int) - 1)) (gx l (i : Int)) < n
    · have e1 : (decide (n < 0) || decide (farI (gx l ((i : Int) - 1)) (gx l (i : Int)) < n)) = true := by simpa using c
      simp only [e1, cond_true]
      refine ⟨_, rfl, hI.mono (fun k hk => ?_)⟩
      rcases hk with hk | ⟨n', hn', q1, q2, q3⟩
      · exact .inl hk
      · rcases List.mem_append.1 hn' with hn' | hn'
        · exact .inr ⟨n', hn', q1, q2, q3⟩
        · simp at hn'; subst hn'; omega
    · have e1 : (decide (n < 0) || decide (farI (gx l ((i : Int) - 1)) (gx l (i : Int)) < n)) = false := by simp; omega
      have hk0 : 0 ≤ lenUpto l i + n := by omega
      have hk1 : lenUpto l i + n ≤ Nof l := by unfold Nof; omega
      have hn0 : 0 ≤ n := by omega
      have hn1 : n ≤ farI (gx l ((i : Int) - 1)) (gx l (i : Int)) := by omega
      simp only [e1, cond_false]
      rw [Wk (n := lenUpto l i + n) (by omega) (by omega), far_eq hL hk0 hk1, far_eq hL hI.b0 hI.b1]
      have hsub : ∀ k, (S k ∨ ∃ n' ∈ cs.take j ++ [n], 0 ≤ n' ∧ n' ≤ farI (gx l ((i : Int) - 1)) (gx l (i : Int)) ∧ k = lenUpto l i + n') → ((S k ∨ ∃ n' ∈ cs.take j, 0 ≤ n' ∧ n' ≤ farI (gx l ((i : Int) - 1)) (gx l (i : Int)) ∧ k = lenUpto l i + n') ∨ k = lenUpto l i + n) := fun k hk => by
        rcases hk with hk | ⟨n', hn', q1, q2, q3⟩
        · exact .inl (.inl hk)
        · rcases List.mem_append.1 hn' with hn' | hn'
          · exact .inl (.inr ⟨n', hn', q1, q2, q3⟩)
          · simp at hn'; subst hn'; exact .inr q3
      -- whether it is tried at all
      have htry : ∀ s'' : Int × Bool × Box, (s'' = if m = true ∧ lexle (Nof l) b (lenUpto l i + n) then (b, m, x) else if fitK l w h walls (lenUpto l i + n) = true then (lenUpto l i + n, true, mkK l w h (lenUpto l i + n)) else (b, m, x)) →
          Bst (Nof l) (fitK l w h walls) (mkK l w h) (fun k => S k ∨ ∃ n' ∈ cs.take j ++ [n], 0 ≤ n' ∧ n' ≤ farI (gx l ((i : Int) - 1)) (gx l (i : Int)) ∧ k = lenUpto l i + n') s''.1 s''.2.1 s''.2.2 := by
        intro s'' hs''
        subst hs''
        by_cases c1 : m = true ∧ lexle (Nof l) b (lenUpto l i + n)
        · rw [if_pos c1]
          obtain ⟨rfl, c1⟩ := c1
          exact (hI.skip c1).mono hsub
        · rw [if_neg c1]
          by_cases c2 : fitK l w h walls (lenUpto l i + n) = true
          · rw [if_pos c2]
            exact (hI.take hk0 hk1 c2 (fun hm hle => c1 ⟨hm, hle⟩)).mono hsub
          · rw [if_neg c2]
            exact (hI.not (by simpa using c2)).mono hsub
      refine ⟨_, ?_, htry _ rfl⟩
      have hway : route_away (gx l ((i : Int) - 1)) (wayI (gx l ((i : Int) - 1)) (gx l (i : Int))) n = some (ptI l i n) := by
        have hok := ptI_ok hL.path i1 i2 hn0 hn1
        have hf := farI_bd ka kb
        unfold route_away
        simp only [bnd_eq]
        unfold ptI okP at *
        rcases hw with ⟨e1, _, _⟩ | ⟨e1, _, _⟩ <;> rw [e1] at hok ⊢ <;> simp only [Int.mul_zero, Int.add_zero] at hok ⊢
        · rw [Wk (n := n * ss) (by rcases hss with rfl | rfl <;> omega) (by rcases hss with rfl | rfl <;> omega), Wk (n := (0 : Int)) (by omega) (by omega)]
          simp only [Int.add_zero]
          rw [Wk (by omega) (by omega), Wk (by omega) (by omega)]
        · rw [Wk (n := n * ss) (by rcases hss with rfl | rfl <;> omega) (by rcases hss with rfl | rfl <;> omega), Wk (n := (0 : Int)) (by omega) (by omega)]
          simp only [Int.add_zero]
          rw [Wk (by omega) (by omega), Wk (by omega) (by omega)]
      have hok := ptI_ok hL.path i1 i2 hn0 hn1
      have hpt := pt_eq hL.path i1 i2 hn0 hn1
      have hrest : (Option.bind (route_away (gx l ((i : Int) - 1)) (wayI (gx l ((i : Int) - 1)) (gx l (i : Int))) n) fun r9 => Option.bind (route_tag_fits (⟨w, h, walls⟩ : Route_tag) r9) fun r10 => bif r10 then (Option.bind (route_tag_at (⟨w, h, walls⟩ : Route_tag) r9) fun r11 => some (lenUpto l i + n, true, r11)) else some (b, m, x)) =
          some (if fitK l w h walls (lenUpto l i + n) = true then (lenUpto l i + n, true, mkK l w h (lenUpto l i + n)) else (b, m, x)) := by
        rw [hway]
        simp only [bind_sm]
        rw [fits_eq hL hok, at_eq hL hok]
        simp only [bind_sm]
        unfold fitK mkK
        rw [hpt]
        cases fitB w h walls (ptI l i n) <;> simp
      cases m with
      | false =>
        simp only [gd_false, bind_sm, Bool.false_and, cond_false, Bool.false_eq_true, false_and, if_false]
        exact hrest
      | true =>
        simp only [gd_true, bind_sm, Bool.true_and, true_and]
        by_cases c1 : farN (Nof l) b < farN (Nof l) (lenUpto l i + n)
        · have d1 : decide (farN (Nof l) b < farN (Nof l) (lenUpto l i + n)) = true := by simpa using c1
          have d2 : lexle (Nof l) b (lenUpto l i + n) := .inl c1
          simp only [d1, Bool.not_true, gd_false, bind_sm, Bool.true_or, cond_true, if_pos d2]
        · have d1 : decide (farN (Nof l) b < farN (Nof l) (lenUpto l i + n)) = false := by simpa using c1
          simp only [d1, Bool.not_false, gd_true, bind_sm, Bool.false_or]
          by_cases c2 : farN (Nof l) (lenUpto l i + n) = farN (Nof l) b ∧ b ≤ lenUpto l i + n
          · have d2 : (decide (farN (Nof l) (lenUpto l i + n) = farN (Nof l) b) && decide (b ≤ lenUpto l i + n)) = true := by simpa using c2
            have d3 : lexle (Nof l) b (lenUpto l i + n) := .inr ⟨c2.1.symm, c2.2⟩
            simp only [d2, cond_true, if_pos d3]
          · have d2 : (decide (farN (Nof l) (lenUpto l i + n) = farN (Nof l) b) && decide (b ≤ lenUpto l i + n)) = false := by simpa using c2
            have d3 : ¬ lexle (Nof l) b (lenUpto l i + n) := by unfold lexle; omega
            simp only [d2, cond_false, if_neg d3]
            exact hrest)
  refine ⟨s', g1, g2.mono (fun k hk => ?_)⟩
  simpa using hk

theorem seg2 {i : Nat} (i1 : 1 ≤ i) (i2 : i < l.length) : seg l ((i : Int) - 1) ((i : Int) + 1) = [gx l ((i : Int) - 1), gx l (i : Int)] := by
  obtain ⟨j, rfl⟩ : ∃ j, i = j + 1 := ⟨i - 1, by omega⟩
  have e1 : (((j + 1 : Nat) : Int) - 1).toNat = j := by omega
  have e2 : (((j + 1 : Nat) : Int) + 1).toNat = j + 2 := by omega
  have e3 : ((j + 1 : Nat) : Int) - 1 = (j : Int) := by omega
  unfold seg
  rw [e1, e2, e3, gx_nat (show j < l.length by omega), gx_nat i2]
  apply List.ext_getElem
  · simp; omega
  · intro k k1 k2
    simp at k2
    rw [List.getElem_drop, List.getElem_take]
    match k, k2 with
    | 0, _ => rfl
    | 1, _ => rfl

/-- A stretch alone is a path. -/
theorem long_eq (hL : Lb l w h walls) {i : Nat} (i1 : 1 ≤ i) (i2 : i < l.length) : geom_Length [gx l ((i : Int) - 1), gx l (i : Int)] = some (farI (gx l ((i : Int) - 1)) (gx l (i : Int)), 0) := by
  obtain ⟨ka, kb, h3⟩ := stretch hL.path i1 i2
  generalize gx l ((i : Int) - 1) = a at *
  generalize gx l (i : Int) = b at *
  have hp : pathErr [a, b] = 0 := by
    refine pathErr_zero.2 ⟨ptsErr_zero.2 ⟨by simp, fun p hp => ?_⟩, isPath_iff.2 ⟨by simp, fun j j1 j2 => ?_⟩⟩
    · simp at hp; rcases hp with rfl | rfl <;> assumption
    · have : j = 1 := by simp at j2; omega
      subst this
      unfold badAt
      have e0 : gx [a, b] (((1 : Nat) : Int) - 1) = a := rfl
      have e1 : gx [a, b] ((1 : Nat) : Int) = b := rfl
      rw [e0, e1]
      rcases h3 with ⟨q1, q2⟩ | ⟨q1, q2⟩
      · simp [q1, q2]
      · simp [q1, q2]
  rw [Length_eq, hp]
  simp only [if_true]
  have : lenUpto [a, b] [a, b].length = farI a b := by
    show lenUpto [a, b] (1 + 1) = _
    rw [lenUpto_next (by omega)]
    have e0 : gx [a, b] (((1 : Nat) : Int) - 1) = a := rfl
    have e1 : gx [a, b] ((1 : Nat) : Int) = b := rfl
    rw [e0, e1]; simp [lenUpto]
  rw [this]

theorem Label_loop (hL : Lb l w h walls) : ∃ e, loop (route_Label_L2 l (Nof l, 0) (⟨w, h, walls⟩ : Route_tag)) (0, false, 0, 1, (⟨0, 0, 0, 0⟩ : Box)) = some e ∧ ∃ best, Bst (Nof l) (fitK l w h walls) (mkK l w h) (Seen l w h walls l.length) best e.1 e.2 := by
  have hp := (isPath_iff.1 (pathErr_zero.1 hL.path).2).1
  have hlen := (ptsErr_zero.1 (pathErr_zero.1 hL.path).1).1
  have hN := Nof_bd hL
  refine loop_inv (fun s => ∃ i : Nat, 1 ≤ i ∧ i ≤ l.length ∧ s.2.2.2.1 = (i : Int) ∧ s.2.2.1 = lenUpto l i ∧ Bst (Nof l) (fitK l w h walls) (mkK l w h) (Seen l w h walls i) s.1 s.2.1 s.2.2.2.2) (fun s => l.length - s.2.2.2.1.toNat) _
    ⟨1, by omega, by omega, rfl, by simp [lenUpto], by simp only; omega, by simp only; omega, fun _ k hk => by obtain ⟨i, h1, h2, _⟩ := hk; omega, fun e => by simp at e⟩ (fun s hI => ?_)
  obtain ⟨i, i1, i2, e1, e2, hB⟩ := hI
  obtain ⟨best, sm, along, ii, box⟩ := s
  simp only at e1 e2 hB
  subst e1 e2
  unfold route_Label_L2
  simp only
  by_cases c : i < l.length
  · left
    have d1 : decide ((i : Int) < (l.length : Int)) = true := by simp; omega
    have e2 : W ((i : Int) - 1) = (i : Int) - 1 := Wk (by omega) (by omega)
    have e3 : W ((i : Int) + 1) = (i : Int) + 1 := Wk (by omega) (by omega)
    simp only [d1, cond_true, e2, e3, bnd_eq]
    have g1 : inR l ((i : Int) - 1) := ⟨by omega, by omega⟩
    have g2 : inR l (i : Int) := ⟨by omega, by omega⟩
    have ka := okP_at (pathErr_zero.1 hL.path).1 g1
    have kb := okP_at (pathErr_zero.1 hL.path).1 g2
    obtain ⟨ss, hss, hw⟩ := stretch_way hL.path i1 c
    have hnext := lenUpto_next (l := l) i1
    have hmono := lenUpto_mono hL.path (i := i + 1) (by omega) l.length (by omega) (Nat.le_refl _)
    have hl0 : 0 ≤ lenUpto l i := (lenUpto_bd (pathErr_zero.1 hL.path).1 i (by omega)).1
    have hfp := far_pos hL.path i1 c
    have hfb := farI_bd ka kb
    have hNl : lenUpto l (i + 1) ≤ Nof l := by unfold Nof; omega
    rw [need_of g1, need_of g2, need_of (by rw [segR_iff]; omega), seg2 i1 c, long_eq hL i1 c]
    simp only [bind_sm]
    rw [heading_eq ka kb]
    simp only [bind_sm]
    -- what is tried
    have hch : ∃ out, route_tag_changes (⟨w, h, walls⟩ : Route_tag) (gx l ((i : Int) - 1)) (gx l (i : Int)) = some out ∧ out.length ≤ 1000 ∧
        ((wayI (gx l ((i : Int) - 1)) (gx l (i : Int))).X = 0 → ∀ P ∈ placeOf (h / 2) h fY walls, W (W (P - (gx l ((i : Int) - 1)).Y) * W ((wayI (gx l ((i : Int) - 1)) (gx l (i : Int))).X + (wayI (gx l ((i : Int) - 1)) (gx l (i : Int))).Y)) ∈ out) ∧
        ((wayI (gx l ((i : Int) - 1)) (gx l (i : Int))).Y = 0 → ∀ P ∈ placeOf (w / 2) w fX walls, W (W (P - (gx l ((i : Int) - 1)).X) * W ((wayI (gx l ((i : Int) - 1)) (gx l (i : Int))).X + (wayI (gx l ((i : Int) - 1)) (gx l (i : Int))).Y)) ∈ out) := by
      rcases hw with ⟨q1, _, _⟩ | ⟨q1, _, _⟩
      · obtain ⟨out, k1, k2, k3⟩ := changes_eq hL ka kb (half := h / 2) (long := h) (from_ := (gx l ((i : Int) - 1)).Y) (f := fY) (.inl ⟨by rw [q1], rfl, rfl, rfl, rfl⟩)
        refine ⟨out, k1, k2, fun _ => k3, fun h0 => ?_⟩
        rw [q1] at h0; simp only at h0; omega
      · obtain ⟨out, k1, k2, k3⟩ := changes_eq hL ka kb (half := w / 2) (long := w) (from_ := (gx l ((i : Int) - 1)).X) (f := fX) (.inr ⟨by rw [q1]; simp only; omega, rfl, rfl, rfl, rfl⟩)
        refine ⟨out, k1, k2, fun h0 => ?_, fun _ => k3⟩
        rw [q1] at h0; simp only at h0; omega
    obtain ⟨out, k1, k2, k3, k4⟩ := hch
    rw [k1]
    simp only [bind_sm]
    rw [need_of (by rw [room_iff]; simp; omega)]
    obtain ⟨s', t1, t2⟩ := tries_eq hL i1 c (cs := out ++ [0, farI (gx l ((i : Int) - 1)) (gx l (i : Int)), W (((Nof l).tdiv 2) - lenUpto l i), W ((W (((Nof l).tdiv 2) - lenUpto l i)) + 1)]) (by simp; omega) (s21 := (best, sm, lenUpto l i, (i : Int), box)) rfl rfl hB
    rw [t1]
    simp only [bind_sm]
    rw [Wk (n := lenUpto l i + farI (gx l ((i : Int) - 1)) (gx l (i : Int))) (by omega) (by omega)]
    refine ⟨_, rfl, ⟨i + 1, by omega, by omega, by simp, by simp only; rw [hnext], t2.mono (fun k hk => ?_)⟩, by simp only; omega⟩
    obtain ⟨j, j1, j2, n, hT, n0, n1, rfl⟩ := hk
    by_cases hji : j < i
    · exact .inl ⟨j, j1, hji, n, hT, n0, n1, rfl⟩
    · have : j = i := by omega
      subst this
      refine .inr ⟨n, ?_, n0, n1, rfl⟩
      have hh2 : (Nof l).tdiv 2 = Nof l / 2 := Int.tdiv_eq_ediv_of_nonneg hN.1
      rw [hh2, Wk (n := Nof l / 2 - lenUpto l j) (by omega) (by omega), Wk (n := Nof l / 2 - lenUpto l j + 1) (by omega) (by omega)]
      rcases hT with rfl | rfl | rfl | rfl | ⟨q1, P, hP, rfl⟩ | ⟨q1, P, hP, rfl⟩
      · simp
      · simp
      · simp
      · simp
      · refine List.mem_append_left _ ?_
        have hin := k3 q1 P hP
        have hs : (wayI (gx l ((j : Int) - 1)) (gx l (j : Int))).Y = 1 ∨ (wayI (gx l ((j : Int) - 1)) (gx l (j : Int))).Y = -1 := by
          rcases hw with ⟨q2, _, _⟩ | ⟨q2, _, _⟩
          · rw [q2]; exact hss
          · rw [q2] at q1; simp only at q1; omega
        have hPb : -3000000 ≤ P ∧ P ≤ 3000000 := by
          have a1 := hL.w1; have a2 := hL.w2; have a3 := hL.h1; have a4 := hL.h2
          unfold placeOf at hP
          rcases List.mem_append.1 hP with hP | hP
          · simp at hP; omega
          · obtain ⟨x, hx, hP⟩ := List.mem_flatMap.1 hP
            have ho := hL.ok x hx
            unfold okB at ho
            simp [fY] at hP; omega
        unfold okP at ka
        rw [q1, Int.zero_add] at hin
        rcases hs with e | e <;> rw [e] at hin ⊢ <;> rw [Wk (n := P - (gx l ((j : Int) - 1)).Y) (by omega) (by omega)] at hin
        · rw [Wk (n := (1 : Int)) (by omega) (by omega), Wk (by omega) (by omega)] at hin; exact hin
        · rw [Wk (n := (-1 : Int)) (by omega) (by omega), Wk (by omega) (by omega)] at hin; exact hin
      · refine List.mem_append_left _ ?_
        have hin := k4 q1 P hP
        have hs : (wayI (gx l ((j : Int) - 1)) (gx l (j : Int))).X = 1 ∨ (wayI (gx l ((j : Int) - 1)) (gx l (j : Int))).X = -1 := by
          rcases hw with ⟨q2, _, _⟩ | ⟨q2, _, _⟩
          · rw [q2] at q1; simp only at q1; omega
          · rw [q2]; exact hss
        have hPb : -3000000 ≤ P ∧ P ≤ 3000000 := by
          have a1 := hL.w1; have a2 := hL.w2; have a3 := hL.h1; have a4 := hL.h2
          unfold placeOf at hP
          rcases List.mem_append.1 hP with hP | hP
          · simp at hP; omega
          · obtain ⟨x, hx, hP⟩ := List.mem_flatMap.1 hP
            have ho := hL.ok x hx
            unfold okB at ho
            simp [fX] at hP; omega
        unfold okP at ka
        rw [q1, Int.add_zero] at hin
        rcases hs with e | e <;> rw [e] at hin ⊢ <;> rw [Wk (n := P - (gx l ((j : Int) - 1)).X) (by omega) (by omega)] at hin
        · rw [Wk (n := (1 : Int)) (by omega) (by omega), Wk (by omega) (by omega)] at hin; exact hin
        · rw [Wk (n := (-1 : Int)) (by omega) (by omega), Wk (by omega) (by omega)] at hin; exact hin
  · right
    have d1 : decide ((i : Int) < (l.length : Int)) = false := by simp; omega
    simp only [d1, cond_false]
    have : i = l.length := by omega
    subst this
    exact ⟨_, rfl, best, hB⟩

theorem LabelOf_eq (hL : Lb l w h walls) : ∃ box sm best, ref_LabelOf l w h walls = some (box, sm) ∧ Bst (Nof l) (fitK l w h walls) (mkK l w h) (fun k => 0 ≤ k ∧ k ≤ Nof l) best sm box := by
  have hN := Nof_bd hL
  have hp := (isPath_iff.1 (pathErr_zero.1 hL.path).2).1
  have a1 := hL.w1; have a2 := hL.w2; have a3 := hL.h1; have a4 := hL.h2
  have hm := hL.many
  unfold ref_LabelOf
  simp only [bnd_eq]
  rw [LengthOf_eq (pathErr_zero.1 hL.path).1 (by omega), show lenUpto l l.length = Nof l from rfl]
  simp only [bind_sm]
  obtain ⟨e, k1, best, k2⟩ := loop_inv (body := ref_LabelOf_L1 h l (Nof l) w walls) (s0 := (false, 0, 0, (⟨0, 0, 0, 0⟩ : Box))) (fun s => 0 ≤ s.2.2.1 ∧ s.2.2.1 ≤ Nof l + 1 ∧ s.2.1 ≤ s.2.2.1 ∧ Bst (Nof l) (fitK l w h walls) (mkK l w h) (fun k => 0 ≤ k ∧ k < s.2.2.1) s.2.1 s.1 s.2.2.2) (fun s => (Nof l + 1 - s.2.2.1).toNat)
    (fun e => ∃ best, Bst (Nof l) (fitK l w h walls) (mkK l w h) (fun k => 0 ≤ k ∧ k ≤ Nof l) best e.1 e.2)
    ⟨by simp, by simp only; omega, by simp, by simp, by simp only; omega, fun _ k hk => by simp only at hk; omega, fun e => by simp at e⟩ (fun s hI => by
    obtain ⟨found, at_, d, box⟩ := s
    obtain ⟨d0, d1, dat, hB⟩ := hI
    simp only at d0 d1 dat hB
    unfold ref_LabelOf_L1
    simp only
    by_cases c : d ≤ Nof l
    · left
      have e1 : decide (d ≤ Nof l) = true := by simpa using c
      obtain ⟨i, i1, i2, i3, i4⟩ := stretch_of hL.path d0 c
      have hn0 : 0 ≤ d - lenUpto l i := by omega
      have hn1 : d - lenUpto l i ≤ farI (gx l ((i : Int) - 1)) (gx l (i : Int)) := by rw [lenUpto_next i1] at i4; omega
      have hok := ptI_ok hL.path i1 i2 hn0 hn1
      have hpt : pt l d = ptI l i (d - lenUpto l i) := by
        have := pt_eq hL.path i1 i2 hn0 hn1
        rw [← this]; congr 1; omega
      simp only [e1, cond_true]
      rw [AtOf_at hL.path i1 i2 i3 i4, Down_eq (by omega) (by omega) (by omega) (by omega), Down_eq (by omega) (by omega) (by omega) (by omega)]
      simp only [bind_sm, bnd_eq]
      rw [← hpt] at hok ⊢
      have hbx : (⟨W ((pt l d).X - w / 2), W ((pt l d).Y - h / 2), w, h⟩ : Box) = mkK l w h d := by
        unfold okP at hok
        unfold mkK lblBox
        rw [Wk (by omega) (by omega), Wk (by omega) (by omega)]
      rw [hbx]
      have hcm : ∀ x ∈ walls, ref_LabelOf_1 x (mkK l w h d) = some (ovl (mkK l w h d) x) := fun x hx => by
        have ho := hL.ok x hx
        unfold okP at hok
        unfold okB at ho
        unfold ref_LabelOf_1 ref_CommonOf
        simp only [bnd_eq]
        unfold mkK lblBox ovl
        simp only
        have qx : -1100000 ≤ (pt l d).X - w / 2 ∧ (pt l d).X - w / 2 ≤ 1100000 := by omega
        have qy : -1100000 ≤ (pt l d).Y - h / 2 ∧ (pt l d).Y - h / 2 ≤ 1100000 := by omega
        generalize (pt l d).X - w / 2 = bx at *
        generalize (pt l d).Y - h / 2 = by_ at *
        rw [Wk (n := bx + w) (by omega) (by omega), Wk (n := x.X + x.W_) (by omega) (by omega), Wk (n := by_ + h) (by omega) (by omega), Wk (n := x.Y + x.H) (by omega) (by omega), Wk (n := min (bx + w) (x.X + x.W_) - max bx x.X) (by omega) (by omega), Wk (n := min (by_ + h) (x.Y + x.H) - max by_ x.Y) (by omega) (by omega)]
        by_cases cc : (decide (min (bx + w) (x.X + x.W_) - max bx x.X < 1) || decide (min (by_ + h) (x.Y + x.H) - max by_ x.Y < 1)) = true
        · simp only [cc, cond_true, bind_sm]
          congr 1
          simp only [Bool.or_eq_true, decide_eq_true_eq] at cc
          symm
          rw [Bool.eq_false_iff]
          intro hh
          simp only [Bool.and_eq_true, decide_eq_true_eq] at hh
          omega
        · simp only [Bool.not_eq_true] at cc
          simp only [cc, cond_false, bind_sm]
          congr 1
          simp only [Bool.or_eq_false_iff, decide_eq_false_iff_not] at cc
          symm
          simp only [Bool.and_eq_true, decide_eq_true_eq]
          omega
      rw [ContainsFunc_Box_eq walls _ (ovl (mkK l w h d)) (by omega) hcm, BoxError_eq]
      simp only [bind_sm]
      have hfit : ((!decide (boxErr (mkK l w h d) = 0)) || walls.any (ovl (mkK l w h d))) = !fitK l w h walls d := by
        have hz := boxErr_zero (b := mkK l w h d)
        unfold fitK fitB
        show _ = !(decide (okB (mkK l w h d)) && !walls.any (ovl (mkK l w h d)))
        by_cases c1 : okB (mkK l w h d)
        · simp [c1, hz.2 c1]
        · have : ¬ boxErr (mkK l w h d) = 0 := fun e => c1 (hz.1 e)
          simp [c1, this]
      rw [hfit]
      rw [Wk (n := d + 1) (by omega) (by omega)]
      have hset : ∀ k, (0 ≤ k ∧ k < d + 1) → ((0 ≤ k ∧ k < d) ∨ k = d) := fun k hk => by omega
      cases hfd : fitK l w h walls d with
      | false =>
        simp only [Bool.not_false, cond_true, bind_sm]
        exact ⟨_, rfl, ⟨by simp only; omega, by simp only; omega, by simp only; omega, (hB.not hfd).mono hset⟩, by simp only; omega⟩
      | true =>
        simp only [Bool.not_true, cond_false]
        cases found with
        | false =>
          simp only [Bool.not_false, Bool.not_true, gd_false, bind_sm, Bool.true_or, cond_true]
          exact ⟨_, rfl, ⟨by simp only; omega, by simp only; omega, by simp only; omega, (hB.take d0 c hfd (fun e => by cases e)).mono hset⟩, by simp only; omega⟩
        | true =>
          have hb0 := hB.b0
          have hb1 := hB.b1
          have hfar : ∀ k, 0 ≤ k → k ≤ Nof l → ref_Abs (W (W (2 * k) - Nof l)) = some (farN (Nof l) k) := fun k k0 k1 => by
            rw [Wk (n := 2 * k) (by omega) (by omega), Wk (by omega) (by omega), Abs_eq (by omega) (by omega)]
            unfold farN; congr 1; omega
          simp only [Bool.not_true, Bool.not_false, gd_true, Bool.false_or]
          rw [hfar d d0 c, hfar at_ hb0 hb1]
          simp only [bind_sm]
          by_cases c2 : farN (Nof l) d < farN (Nof l) at_
          · have e2 : decide (farN (Nof l) d < farN (Nof l) at_) = true := by simpa using c2
            simp only [e2, cond_true, bind_sm]
            exact ⟨_, rfl, ⟨by simp only; omega, by simp only; omega, by simp only; omega, (hB.take d0 c hfd (fun _ hle => by unfold lexle at hle; omega)).mono hset⟩, by simp only; omega⟩
          · have e2 : decide (farN (Nof l) d < farN (Nof l) at_) = false := by simpa using c2
            simp only [e2, cond_false, bind_sm]
            refine ⟨_, rfl, ⟨by simp only; omega, by simp only; omega, by simp only; omega, ?_⟩, by simp only; omega⟩
            exact (hB.skip (by unfold lexle; omega)).mono hset
    · right
      have e1 : decide (d ≤ Nof l) = false := by simpa using c
      simp only [e1, cond_false]
      refine ⟨_, rfl, at_, hB.mono (fun k hk => by omega)⟩)
  rw [k1]
  exact ⟨_, _, best, rfl, k2⟩
end

noncomputable def lblErr (l : List Point) (w h : Int) (walls : List Box) : Int := firstErr [pathErr l, if 1 ≤ w ∧ w ≤ 20000 ∧ 1 ≤ h ∧ h ≤ 20000 then 0 else 3, if 100 < walls.length then 4 else 0, firstErr (walls.map boxErr)]
theorem Lb_of {l : List Point} {w h : Int} {walls : List Box} (e : lblErr l w h walls = 0) : Lb l w h walls := by
  unfold lblErr at e
  rw [firstErr_zero] at e
  have e1 := e (pathErr l) (by simp)
  have e2 := e (if 1 ≤ w ∧ w ≤ 20000 ∧ 1 ≤ h ∧ h ≤ 20000 then 0 else 3) (by simp)
  have e3 := e (if 100 < walls.length then 4 else 0) (by simp)
  have e4 := e (firstErr (walls.map boxErr)) (by simp)
  by_cases c : 1 ≤ w ∧ w ≤ 20000 ∧ 1 ≤ h ∧ h ≤ 20000
  · by_cases c2 : 100 < walls.length
    · simp [c2] at e3
    · exact ⟨e1, c.1, c.2.1, c.2.2.1, c.2.2.2, by omega, boxes_ok e4⟩
  · simp [c] at e2
theorem Label_err {l : List Point} {w h : Int} {walls : List Box} (e : lblErr l w h walls ≠ 0) : route_Label l w h walls = some (⟨0, 0, 0, 0⟩, lblErr l w h walls) := by
  unfold route_Label
  simp only [bnd_eq]
  rw [Length_eq]
  simp only [bind_sm]
  unfold lblErr at e ⊢
  by_cases c1 : pathErr l = 0
  · by_cases c2 : 1 ≤ w ∧ w ≤ 20000 ∧ 1 ≤ h ∧ h ≤ 20000
    · have d2 : (((decide (w < 1) || decide (20000 < w)) || decide (h < 1)) || decide (20000 < h)) = false := by simp; omega
      by_cases c3 : 100 < walls.length
      · have d3 : decide ((100 : Int) < (walls.length : Int)) = true := by simp; omega
        simp only [c1, d2, d3, decide_true, Bool.not_true, cond_false, cond_true, firstErr_cons, if_true, if_pos c2, if_pos c3]
        rfl
      · have d3 : decide ((100 : Int) < (walls.length : Int)) = false := by simp; omega
        simp only [c1, d2, d3, decide_true, Bool.not_true, cond_false, firstErr_cons, if_true, if_pos c2, if_neg c3] at e ⊢
        rw [rforE_err boxErr (fun e => (Res.ab ((⟨0, 0, 0, 0⟩ : Box), e) : Res Unit (Box × Int))) (by omega) (fun i hi => by
          unfold route_Label_L1
          rw [need_of hi]
          simp only [bnd_eq, CheckBox_eq, bind_sm]
          by_cases c : boxErr (gx walls i) = 0 <;> simp [c])]
        by_cases c4 : firstErr (walls.map boxErr) = 0
        · simp [c4] at e
        · simp [c4]
    · have d2 : (((decide (w < 1) || decide (20000 < w)) || decide (h < 1)) || decide (20000 < h)) = true := by simp; omega
      simp [c1, d2, c2]
  · simp [c1]
theorem Label_ok {l : List Point} {w h : Int} {walls : List Box} (e : lblErr l w h walls = 0) : ∃ sm box best, route_Label l w h walls = some (bif sm then (box, 0) else (⟨0, 0, 0, 0⟩, 10)) ∧ Bst (Nof l) (fitK l w h walls) (mkK l w h) (Seen l w h walls l.length) best sm box := by
  have hL := Lb_of e
  obtain ⟨r, k1, best, k2⟩ := Label_loop hL
  refine ⟨r.1, r.2, best, ?_, k2⟩
  have a1 := hL.w1; have a2 := hL.w2; have a3 := hL.h1; have a4 := hL.h2
  have hm := hL.many
  unfold route_Label
  simp only [bnd_eq]
  rw [Length_eq]
  simp only [bind_sm]
  have d2 : (((decide (w < 1) || decide (20000 < w)) || decide (h < 1)) || decide (20000 < h)) = false := by simp; omega
  have d3 : decide ((100 : Int) < (walls.length : Int)) = false := by simp; omega
  have c4 : firstErr (walls.map boxErr) = 0 := firstErr_zero.2 (fun e he => by
    obtain ⟨b, hb, rfl⟩ := List.mem_map.1 he
    exact boxErr_zero.2 (hL.ok b hb))
  simp only [hL.path, d2, d3, decide_true, Bool.not_true, cond_false, if_true]
  rw [rforE_err boxErr (fun e => (Res.ab ((⟨0, 0, 0, 0⟩ : Box), e) : Res Unit (Box × Int))) (by omega) (fun i hi => by
    unfold route_Label_L1
    rw [need_of hi]
    simp only [bnd_eq, CheckBox_eq, bind_sm]
    by_cases c : boxErr (gx walls i) = 0 <;> simp [c])]
  simp only [c4, if_true, bindR_nx]
  rw [show lenUpto l l.length = Nof l from rfl, k1]
  simp only [bind_sm]
  cases r.1 <;> rfl

theorem LabelsMatch_true (l : List Point) (w h : Int) (walls : List Box) (hl : fits l) (hb : fits walls) : law_LabelsMatch l w h walls = some true := by
  have hll := (fits_list.1 hl).1
  have hF : ∀ a b c d : Int, ref_First [a, b, c, d] = some (firstErr [a, b, c, d]) := fun a b c d => First_eq (by simp)
  unfold law_LabelsMatch
  rw [PathError_eq (by omega)]
  simp only [In_eq, When_eq, BoxesError_eq, bind_sm, hF, routes_eq, gd_true, Bool.true_and]
  have e2 : ∀ z : Bool, z = (bif !decide (1 ≤ w ∧ w ≤ 20000) then false else decide (1 ≤ h ∧ h ≤ 20000)) → (if ((!decide (1 ≤ w ∧ w ≤ 20000)) || !z) = true then (3 : Int) else 0) = if 1 ≤ w ∧ w ≤ 20000 ∧ 1 ≤ h ∧ h ≤ 20000 then 0 else 3 := fun z hz => by
    subst hz
    by_cases c : 1 ≤ w ∧ w ≤ 20000
    · by_cases c2 : 1 ≤ h ∧ h ≤ 20000 <;> simp [c, c2] <;> omega
    · have : ¬ (1 ≤ w ∧ w ≤ 20000 ∧ 1 ≤ h ∧ h ≤ 20000) := fun x => c ⟨x.1, x.2.1⟩
      simp [c, this]
  have e1 : gd (!!decide (1 ≤ w ∧ w ≤ 20000)) (some (decide (1 ≤ h ∧ h ≤ 20000))) = some (bif !decide (1 ≤ w ∧ w ≤ 20000) then false else decide (1 ≤ h ∧ h ≤ 20000)) := by
    cases decide (1 ≤ w ∧ w ≤ 20000) <;> rfl
  rw [e1]
  simp only [bind_sm, e2 _ rfl]
  have e3 : firstErr [pathErr l, if 1 ≤ w ∧ w ≤ 20000 ∧ 1 ≤ h ∧ h ≤ 20000 then (0 : Int) else 3, if decide ((100 : Int) < (walls.length : Int)) = true then (4 : Int) else 0, if 1000 < walls.length then (4 : Int) else firstErr (walls.map boxErr)] = lblErr l w h walls := by
    unfold lblErr
    have : (if decide ((100 : Int) < (walls.length : Int)) = true then (4 : Int) else 0) = if 100 < walls.length then (4 : Int) else 0 := by by_cases c : 100 < walls.length <;> simp [c] <;> omega
    rw [this]
    by_cases c : 100 < walls.length
    · simp [c]
    · have : ¬ 1000 < walls.length := by omega
      simp [this]
  rw [e3]
  by_cases he : lblErr l w h walls = 0
  · obtain ⟨sm, box, best, k1, k2⟩ := Label_ok he
    have hL := Lb_of he
    obtain ⟨box2, sm2, best2, k3, k4⟩ := LabelOf_eq hL
    obtain ⟨q1, q2⟩ := Bst.same k2 k4 (fun k h0 h1 hf hb => best_seen hL h0 h1 hf hb)
    rw [k1]
    simp only [bind_sm, he, decide_true, gd_true, Bool.true_and]
    rw [LengthOf_eq (pathErr_zero.1 hL.path).1 (by have := (isPath_iff.1 (pathErr_zero.1 hL.path).2).1; omega), show lenUpto l l.length = Nof l from rfl]
    simp only [bind_sm]
    by_cases c : 3000 < Nof l
    · have d1 : decide (3000 < Nof l) = true := by simpa using c
      simp only [d1, cond_true]
      cases sm <;> rfl
    · have d1 : decide (3000 < Nof l) = false := by simpa using c
      simp only [d1, cond_false, cond_true, bnd_eq]
      rw [k3]
      simp only [bind_sm]
      unfold law_LabelsMatch_1 law_is_Box
      subst q1
      cases sm with
      | false => simp [bnd_eq]
      | true =>
        have := q2 rfl
        subst this
        simp [bnd_eq]
  · rw [Label_err he]
    have d0 : decide (lblErr l w h walls = 0) = false := by simpa using he
    simp only [bind_sm, d0, gd_false, Bool.false_and, cond_false, bnd_eq]
    unfold law_is_Box
    simp [d0]

end Go.DB
