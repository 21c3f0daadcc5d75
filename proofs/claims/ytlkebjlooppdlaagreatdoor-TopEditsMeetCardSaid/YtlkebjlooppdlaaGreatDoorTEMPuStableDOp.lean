/-
  The library's stable sort (over DOp): what it leaves is sorted, and ties are as they were.
-/
import Derived.Test.YtlkebjlooppdlaaGreatDoorTEMPuOrd
import Derived.Test.YtlkebjlooppdlaaGreatDoorTEMLi1
set_option linter.unusedSimpArgs false
set_option linter.unusedVariables false
namespace Go.DB.StbOp
open Go Go.RowKit Go.DB

section
variable {S : DOp → Prop} {lt : DOp → DOp → Bool} {f : DOp → DOp → Option Int}

/-! Sorting by insertion. -/

theorem ins_loop (hw : Swo S lt f) {P Q : List DOp} {x : DOp} (hx : S x) : ∀ (n : Nat) (L L2 : List DOp), L.length = n → (∀ y ∈ L, S y) → P.length + n + L2.length ≤ 1073741824 → (∀ y ∈ L2, lt x y = true) →
    ∃ L1 L3, L = L1 ++ L3 ∧ (∀ y ∈ L3, lt x y = true) ∧ (∀ L0 y, L1 = L0 ++ [y] → lt x y = false) ∧
      loop (slices_insertionSortCmpFunc_Op_L2 (P.length : Int) f) (((P.length + n : Nat) : Int), P ++ (L ++ x :: (L2 ++ Q))) = some (P ++ (L1 ++ x :: (L3 ++ L2 ++ Q)))
  | 0, L, L2, hL, hS, hlen, h2 => by
    have : L = [] := List.length_eq_zero_iff.1 hL
    subst this
    refine ⟨[], [], rfl, by simp, fun L0 y h => by simp at h, ?_⟩
    rw [loop_eq]
    unfold slices_insertionSortCmpFunc_Op_L2
    have e1 : decide ((P.length : Int) < ((P.length + 0 : Nat) : Int)) = false := by simp
    simp only [e1, gd_false, bind_sm, Bool.false_and, cond_false]
    rw [need_of (by simp), need_of (by simp)]
    simp
  | n + 1, L, L2, hL, hS, hlen, h2 => by
    obtain ⟨L', y, rfl⟩ : ∃ L' y, L = L' ++ [y] := by
      rcases List.eq_nil_or_concat L with h | ⟨L', y, h⟩
      · rw [h] at hL; simp at hL
      · exact ⟨L', y, by rw [h, List.concat_eq_append]⟩
    have hL' : L'.length = n := by simpa using hL
    have hd : P ++ ((L' ++ [y]) ++ x :: (L2 ++ Q)) = (P ++ L') ++ y :: x :: (L2 ++ Q) := by simp
    rw [hd]
    have hj : (((P.length + (n + 1) : Nat) : Int)) = ((P ++ L').length : Int) + 1 := by simp; omega
    obtain ⟨g1, g2, g3, g4, g5, _⟩ := swap_app (U := P ++ L') (V := L2 ++ Q) (x := x) (y := y) hj
    obtain ⟨c, hc, hcl⟩ := hw.cmp x y hx (hS y (by simp))
    have e1 : decide ((P.length : Int) < ((P.length + (n + 1) : Nat) : Int)) = true := by rw [decide_eq_true_eq]; omega
    have ew : W (((P.length + (n + 1) : Nat) : Int) - 1) = ((P.length + (n + 1) : Nat) : Int) - 1 := Wk (by omega) (by omega)
    have hbody : slices_insertionSortCmpFunc_Op_L2 (P.length : Int) f (((P.length + (n + 1) : Nat) : Int), (P ++ L') ++ y :: x :: (L2 ++ Q)) =
        some (if lt x y = true then .again (((P.length + n : Nat) : Int), P ++ (L' ++ x :: ((y :: L2) ++ Q))) else .done ((P ++ L') ++ y :: x :: (L2 ++ Q))) := by
      unfold slices_insertionSortCmpFunc_Op_L2
      simp only [e1, ew, gd_true, Bool.true_and]
      rw [need_of (fun _ => g3), need_of (fun _ => g4), g1, g2, hc]
      simp only [bind_sm, hcl]
      cases hl : lt x y with
      | true =>
        simp only [cond_true, if_true, bnd_eq]
        have g6 : inR (((P ++ L') ++ y :: x :: (L2 ++ Q)).set (((P.length + (n + 1) : Nat) : Int)).toNat y) (((P.length + (n + 1) : Nat) : Int) - 1) := ⟨g4.1, by rw [List.length_set]; exact g4.2⟩
        rw [need_of g4, need_of g3, need_of g3, need_of g6, g5]
        congr 3
        · omega
        · simp
      | false => simp
    rw [loop_eq, hbody]
    cases hl : lt x y with
    | true =>
      simp only [if_true]
      obtain ⟨L1, L3, k1, k2, k3, k4⟩ := ins_loop hw (P := P) (Q := Q) hx n L' (y :: L2) hL' (fun z hz => hS z (by simp [hz])) (by simp; omega) (fun z hz => by
        rcases List.mem_cons.1 hz with rfl | hz
        · exact hl
        · exact h2 z hz)
      refine ⟨L1, L3 ++ [y], by rw [k1]; simp, fun z hz => ?_, k3, ?_⟩
      · rcases List.mem_append.1 hz with hz | hz
        · exact k2 z hz
        · simp at hz; rw [hz]; exact hl
      · rw [k4]; simp
    | false =>
      simp only [Bool.false_eq_true, if_false]
      refine ⟨L' ++ [y], [], by simp, by simp, fun L0 z h => ?_, by simp⟩
      have := List.append_inj' h (by simp)
      have e : y = z := by simpa using this.2
      rw [← e]; exact hl

theorem ins_sort (hw : Swo S lt f) {P M Q : List DOp} (hS : ∀ x ∈ M, S x) (hlen : P.length + M.length ≤ 1073741824) :
    ∃ M', Sd lt M M' ∧ slices_insertionSortCmpFunc_Op (P ++ (M ++ Q)) (P.length : Int) ((P.length + M.length : Nat) : Int) f = some (P ++ (M' ++ Q)) := by
  unfold slices_insertionSortCmpFunc_Op
  simp only [bnd_eq]
  rw [Wk (n := (P.length : Int) + 1) (by omega) (by omega)]
  cases M with
  | nil =>
    refine ⟨[], Sd.refl srt_nil, ?_⟩
    rw [loop_eq]
    unfold slices_insertionSortCmpFunc_Op_L1
    have e1 : decide ((P.length : Int) + 1 < ((P.length + ([] : List DOp).length : Nat) : Int)) = false := by simp; omega
    simp only [e1, cond_false]
  | cons z M0 =>
    obtain ⟨e, h1, h2⟩ := loop_inv (body := slices_insertionSortCmpFunc_Op_L1 (P.length : Int) ((P.length + (z :: M0).length : Nat) : Int) f) (s0 := ((P.length : Int) + 1, P ++ ((z :: M0) ++ Q)))
      (fun s => ∃ (A A' B : List DOp), z :: M0 = A ++ B ∧ A ≠ [] ∧ Sd lt A A' ∧ s = (((P.length + A.length : Nat) : Int), P ++ (A' ++ (B ++ Q)))) (fun s => (((P.length + (z :: M0).length : Nat) : Int) - s.1).toNat) (fun e => ∃ M', Sd lt (z :: M0) M' ∧ e = P ++ (M' ++ Q))
      ⟨[z], [z], M0, rfl, by simp, Sd.refl (srt_one z), by simp⟩ (fun s hI => by
      obtain ⟨A, A', B, hM, hA0, hA, rfl⟩ := hI
      unfold slices_insertionSortCmpFunc_Op_L1
      have hlM : (z :: M0).length = A.length + B.length := by rw [hM, List.length_append]
      cases B with
      | nil =>
        right
        have e1 : decide (((P.length + A.length : Nat) : Int) < ((P.length + (z :: M0).length : Nat) : Int)) = false := by rw [hlM]; simp
        simp only [e1, cond_false]
        refine ⟨_, rfl, A', ?_, by simp⟩
        rw [hM, List.append_nil]; exact hA
      | cons x B' =>
        left
        have hlM' : (z :: M0).length = A.length + (B'.length + 1) := by rw [hlM]; rfl
        have e1 : decide (((P.length + A.length : Nat) : Int) < ((P.length + (z :: M0).length : Nat) : Int)) = true := by rw [decide_eq_true_eq]; omega
        simp only [e1, cond_true]
        have hSA : ∀ y ∈ A', S y := fun y hy => hS y (by rw [hM]; exact List.mem_append_left _ (hA.mem.1 hy))
        have hSx : S x := hS x (by rw [hM]; simp)
        obtain ⟨L1, L3, k1, k2, k3, k4⟩ := ins_loop hw (P := P) (Q := B' ++ Q) hSx A.length A' [] hA.len hSA (by simp; rw [hlM] at hlen; simp at hlen; omega) (by simp)
        have hd : P ++ (A' ++ ((x :: B') ++ Q)) = P ++ (A' ++ x :: ([] ++ (B' ++ Q))) := by simp
        rw [hd, k4]
        simp only [bind_sm, bnd_eq]
        rw [Wk (n := ((P.length + A.length : Nat) : Int) + 1) (by omega) (by omega)]
        have hins : Sd lt (A' ++ [x]) (L1 ++ x :: L3) := by
          rw [k1]
          refine Sd.insert hw (by rw [← k1]; exact hSA) hSx (by rw [← k1]; exact hA.srtd) (fun y hy => ?_) k2
          have hs := hA.srtd
          rw [k1] at hs
          rcases List.eq_nil_or_concat L1 with h | ⟨L0, w, h⟩
          · rw [h] at hy; cases hy
          · rw [List.concat_eq_append] at h
            have hw1 := k3 L0 w h
            rw [h] at hy
            rcases List.mem_append.1 hy with hy | hy
            · have hs1 := srt_left hs
              unfold srt at hs1
              rw [h, List.pairwise_append] at hs1
              have := hs1.2.2 y hy w (by simp)
              exact hw.ntr x w y hSx (hSA w (by rw [k1, h]; simp)) (hSA y (by rw [k1, h]; simp [hy])) hw1 this
            · simp at hy; rw [hy]; exact hw1
        refine ⟨_, rfl, ⟨A ++ [x], L1 ++ x :: L3, B', by rw [hM]; simp, by simp, ⟨?_, hins.srtd, fun tb h => ?_⟩, ?_⟩, by simp only; omega⟩
        · exact hins.perm.trans (hA.perm.append_right [x])
        · refine hins.kept tb ?_
          unfold kept2 at *
          rw [List.pairwise_append] at h ⊢
          exact ⟨hA.kept tb h.1, h.2.1, fun a ha b hb => h.2.2 a (hA.mem.1 ha) b hb⟩
        · simp; omega)
    obtain ⟨M', h3, h4⟩ := h2
    exact ⟨M', h3, by rw [← h4, ← h1]⟩

/-! Parts change places. -/

theorem swap_range {P X Z Y Q : List DOp} (hxy : X.length = Y.length) (hlen : (P ++ (X ++ (Z ++ (Y ++ Q)))).length ≤ 1073741824) :
    slices_swapRangeCmpFunc_Op (P ++ (X ++ (Z ++ (Y ++ Q)))) (P.length : Int) ((P.length + X.length + Z.length : Nat) : Int) (X.length : Int) f = some (P ++ (Y ++ (Z ++ (X ++ Q)))) := by
  unfold slices_swapRangeCmpFunc_Op
  obtain ⟨e, h1, h2⟩ := loop_inv (body := slices_swapRangeCmpFunc_Op_L1 (P.length : Int) ((P.length + X.length + Z.length : Nat) : Int) (X.length : Int)) (s0 := (0, P ++ (X ++ (Z ++ (Y ++ Q)))))
    (fun s => ∃ (X1 X2 Y1 Y2 : List DOp), X = X1 ++ X2 ∧ Y = Y1 ++ Y2 ∧ X1.length = Y1.length ∧ s = ((X1.length : Int), P ++ (Y1 ++ (X2 ++ (Z ++ (X1 ++ (Y2 ++ Q))))))) (fun s => ((X.length : Int) - s.1).toNat) (fun e => e = P ++ (Y ++ (Z ++ (X ++ Q))))
    ⟨[], X, [], Y, rfl, rfl, rfl, by simp⟩ (fun s hI => by
    obtain ⟨X1, X2, Y1, Y2, hX, hY, h12, rfl⟩ := hI
    have lX : X.length = X1.length + X2.length := by rw [hX, List.length_append]
    have lY : Y.length = Y1.length + Y2.length := by rw [hY, List.length_append]
    simp only [List.length_append] at hlen
    unfold slices_swapRangeCmpFunc_Op_L1
    cases X2 with
    | nil =>
      right
      have e1 : decide ((X1.length : Int) < (X.length : Int)) = false := by rw [lX]; simp
      have hy2 : Y2 = [] := List.length_eq_zero_iff.1 (by simp at lX; omega)
      subst hy2
      simp only [e1, cond_false]
      refine ⟨_, rfl, ?_⟩
      rw [hX, hY]; simp
    | cons x X2' =>
      left
      obtain ⟨y, Y2', rfl⟩ : ∃ y Y2', Y2 = y :: Y2' := by
        cases Y2 with
        | nil => simp at lX lY; omega
        | cons y Y2' => exact ⟨y, Y2', rfl⟩
      simp only [List.length_cons] at lX lY
      have e1 : decide ((X1.length : Int) < (X.length : Int)) = true := by rw [decide_eq_true_eq]; omega
      simp only [e1, cond_true]
      rw [Wk (n := ((P.length + X.length + Z.length : Nat) : Int) + (X1.length : Int)) (by omega) (by omega), Wk (n := (P.length : Int) + (X1.length : Int)) (by omega) (by omega), Wk (n := (X1.length : Int) + 1) (by omega) (by omega)]
      have d1 : P ++ (Y1 ++ ((x :: X2') ++ (Z ++ (X1 ++ ((y :: Y2') ++ Q))))) = (P ++ Y1) ++ x :: (X2' ++ (Z ++ (X1 ++ ((y :: Y2') ++ Q)))) := by simp
      have d2 : ∀ v : DOp, (P ++ Y1) ++ v :: (X2' ++ (Z ++ (X1 ++ ((y :: Y2') ++ Q)))) = (P ++ Y1 ++ v :: (X2' ++ (Z ++ X1))) ++ y :: (Y2' ++ Q) := fun v => by simp
      have i1 : ((P.length : Int) + (X1.length : Int)) = ((P ++ Y1).length : Int) := by simp; omega
      have i2 : ∀ v : DOp, (((P.length + X.length + Z.length : Nat) : Int) + (X1.length : Int)) = ((P ++ Y1 ++ v :: (X2' ++ (Z ++ X1))).length : Int) := fun v => by simp; omega
      rw [d1]
      have r1 : inR ((P ++ Y1) ++ x :: (X2' ++ (Z ++ (X1 ++ ((y :: Y2') ++ Q))))) ((P.length : Int) + (X1.length : Int)) := inR_app i1
      have r2 : inR ((P ++ Y1) ++ x :: (X2' ++ (Z ++ (X1 ++ ((y :: Y2') ++ Q))))) (((P.length + X.length + Z.length : Nat) : Int) + (X1.length : Int)) := by rw [d2]; exact inR_app (i2 x)
      have v1 : gx ((P ++ Y1) ++ x :: (X2' ++ (Z ++ (X1 ++ ((y :: Y2') ++ Q))))) (((P.length + X.length + Z.length : Nat) : Int) + (X1.length : Int)) = y := by rw [d2]; exact gx_app (i2 x)
      have v2 : gx ((P ++ Y1) ++ x :: (X2' ++ (Z ++ (X1 ++ ((y :: Y2') ++ Q))))) ((P.length : Int) + (X1.length : Int)) = x := gx_app i1
      rw [need_of r2, v1]
      simp only [bnd_eq]
      rw [need_of r1, v2, need_of r1, set_app (by omega)]
      have r3 : inR ((P ++ Y1) ++ y :: (X2' ++ (Z ++ (X1 ++ ((y :: Y2') ++ Q))))) (((P.length + X.length + Z.length : Nat) : Int) + (X1.length : Int)) := by rw [d2]; exact inR_app (i2 y)
      rw [need_of r3, d2, set_app (by have := i2 y; omega)]
      refine ⟨_, rfl, ⟨X1 ++ [x], X2', Y1 ++ [y], Y2', by rw [hX]; simp, by rw [hY]; simp, by simp; omega, ?_⟩, by simp only; omega⟩
      simp)
  rw [h1, h2]

theorem rotate_eq {P X Y Q : List DOp} (hX : X ≠ []) (hY : Y ≠ []) (hlen : (P ++ (X ++ (Y ++ Q))).length ≤ 1073741824) :
    slices_rotateCmpFunc_Op (P ++ (X ++ (Y ++ Q))) (P.length : Int) ((P.length + X.length : Nat) : Int) ((P.length + X.length + Y.length : Nat) : Int) f = some (P ++ (Y ++ (X ++ Q))) := by
  unfold slices_rotateCmpFunc_Op
  simp only [bnd_eq]
  have hl2 : P.length + X.length + Y.length ≤ 1073741824 := by simp at hlen; omega
  rw [Wk (n := ((P.length + X.length : Nat) : Int) - (P.length : Int)) (by omega) (by omega), Wk (n := ((P.length + X.length + Y.length : Nat) : Int) - ((P.length + X.length : Nat) : Int)) (by omega) (by omega)]
  obtain ⟨e, h1, P', X', Y', Q', e1, e2, e3, e4, e5⟩ := loop_inv (body := slices_rotateCmpFunc_Op_L1 ((P.length + X.length : Nat) : Int) f) (s0 := (((P.length + X.length : Nat) : Int) - (P.length : Int), ((P.length + X.length + Y.length : Nat) : Int) - ((P.length + X.length : Nat) : Int), P ++ (X ++ (Y ++ Q))))
    (fun s => ∃ P' X' Y' Q' : List DOp, X' ≠ [] ∧ Y' ≠ [] ∧ s = ((X'.length : Int), (Y'.length : Int), P' ++ (X' ++ (Y' ++ Q'))) ∧ P'.length + X'.length = P.length + X.length ∧ P' ++ (Y' ++ (X' ++ Q')) = P ++ (Y ++ (X ++ Q)))
    (fun s => (s.1 + s.2.1).toNat) (fun e => ∃ P' X' Y' Q' : List DOp, X'.length = Y'.length ∧ X' ≠ [] ∧ e = ((X'.length : Int), P' ++ (X' ++ (Y' ++ Q'))) ∧ P'.length + X'.length = P.length + X.length ∧ P' ++ (Y' ++ (X' ++ Q')) = P ++ (Y ++ (X ++ Q)))
    ⟨P, X, Y, Q, hX, hY, Prod.ext (by simp only; omega) (Prod.ext (by simp only; omega) rfl), rfl, rfl⟩ (fun s hI => by
    obtain ⟨P', X', Y', Q', x0, y0, rfl, hm, ht⟩ := hI
    have hx0 := List.length_pos_iff.2 x0
    have hy0 := List.length_pos_iff.2 y0
    have hlt : (P' ++ (X' ++ (Y' ++ Q'))).length ≤ 1073741824 := by
      have := congrArg List.length ht
      simp only [List.length_append] at this hlen ⊢; omega
    unfold slices_rotateCmpFunc_Op_L1
    simp only
    by_cases c : X'.length = Y'.length
    · right
      have d1 : (!decide ((X'.length : Int) = (Y'.length : Int))) = false := by simp; omega
      simp only [d1, cond_false]
      exact ⟨_, rfl, P', X', Y', Q', c, x0, rfl, hm, ht⟩
    · left
      have d1 : (!decide ((X'.length : Int) = (Y'.length : Int))) = true := by simp; omega
      simp only [d1, cond_true]
      have hl3 : P'.length + X'.length + Y'.length ≤ 1073741824 := by simp at hlt; omega
      have ew : W (((P.length + X.length : Nat) : Int) - (X'.length : Int)) = (P'.length : Int) := by rw [Wk (by omega) (by omega)]; omega
      rw [ew]
      by_cases c2 : Y'.length < X'.length
      · have d2 : decide ((Y'.length : Int) < (X'.length : Int)) = true := by simp; omega
        simp only [d2, cond_true]
        obtain ⟨X1, X2, rfl, hx1⟩ := cut (A := X') (n := Y'.length) (by omega)
        have hsw := swap_range (f := f) (P := P') (X := X1) (Z := X2) (Y := Y') (Q := Q') hx1 (by simpa using hlt)
        have hd : P' ++ ((X1 ++ X2) ++ (Y' ++ Q')) = P' ++ (X1 ++ (X2 ++ (Y' ++ Q'))) := by simp
        have hmm : ((P.length + X.length : Nat) : Int) = ((P'.length + X1.length + X2.length : Nat) : Int) := by simp at hm; omega
        have hl12 : (X1 ++ X2).length = X1.length + X2.length := List.length_append
        rw [hd, hmm, ← hx1, hsw]
        simp only [bind_sm, bnd_eq]
        rw [Wk (by omega) (by omega)]
        refine ⟨_, rfl, ⟨P' ++ Y', X2, X1, Q', fun e => by have := congrArg List.length e; rw [List.length_nil] at this; omega, fun e => by have := congrArg List.length e; rw [List.length_nil] at this; omega, ?_, by rw [List.length_append]; omega, ?_⟩, by simp only; omega⟩
        · exact Prod.ext (by simp only; omega) (Prod.ext rfl (by simp))
        · rw [← ht]; simp
      · have d2 : decide ((Y'.length : Int) < (X'.length : Int)) = false := by simp; omega
        simp only [d2, cond_false]
        obtain ⟨Y1, Y2, rfl, hy1⟩ := cut (A := Y') (n := Y'.length - X'.length) (by omega)
        have hl12 : (Y1 ++ Y2).length = Y1.length + Y2.length := List.length_append
        have hy2 : X'.length = Y2.length := by omega
        have hsw := swap_range (f := f) (P := P') (X := X') (Z := Y1) (Y := Y2) (Q := Q') hy2 (by simpa using hlt)
        have hd : P' ++ (X' ++ ((Y1 ++ Y2) ++ Q')) = P' ++ (X' ++ (Y1 ++ (Y2 ++ Q'))) := by simp
        have hmm : W (W (((P.length + X.length : Nat) : Int) + ((Y1 ++ Y2).length : Int)) - (X'.length : Int)) = ((P'.length + X'.length + Y1.length : Nat) : Int) := by
          rw [Wk (n := ((P.length + X.length : Nat) : Int) + ((Y1 ++ Y2).length : Int)) (by omega) (by omega), Wk (by omega) (by omega)]; omega
        rw [hd, hmm, hsw]
        simp only [bind_sm, bnd_eq]
        rw [Wk (by omega) (by omega)]
        refine ⟨_, rfl, ⟨P', Y2, Y1, X' ++ Q', fun e => by have := congrArg List.length e; rw [List.length_nil] at this; omega, fun e => by have := congrArg List.length e; rw [List.length_nil] at this; omega, ?_, by omega, ?_⟩, by simp only; omega⟩
        · exact Prod.ext (by simp only; omega) (Prod.ext (by simp only; omega) (by simp))
        · rw [← ht]; simp)
  rw [h1]
  simp only [bind_sm]
  subst e3
  simp only
  have hlt : (P' ++ (X' ++ (Y' ++ Q'))).length ≤ 1073741824 := by
    have := congrArg List.length e5
    simp only [List.length_append] at this hlen ⊢; omega
  have hl3 : P'.length + X'.length + Y'.length ≤ 1073741824 := by simp at hlt; omega
  have ew : W (((P.length + X.length : Nat) : Int) - (X'.length : Int)) = (P'.length : Int) := by rw [Wk (by omega) (by omega)]; omega
  have hsw := swap_range (f := f) (P := P') (X := X') (Z := []) (Y := Y') (Q := Q') e1 (by simpa using hlt)
  have hmm : ((P.length + X.length : Nat) : Int) = ((P'.length + X'.length + ([] : List DOp).length : Nat) : Int) := by simp; omega
  rw [ew, hmm]
  simp only [List.nil_append] at hsw
  rw [hsw, e5]
  rfl
end

end Go.DB.StbOp
