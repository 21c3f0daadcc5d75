/- A part of the proof. -/
import Derived.Test.YtclcheggnlhamaaGreatDoorMovG1
import Derived.Test.YtclcheggnlhamaaGreatDoorMovLi1
set_option linter.unusedSimpArgs false
set_option linter.unusedVariables false
namespace Go.DB.Stbint
open Go Go.RowKit Go.DB
section
section
variable {S : Int → Prop} {lt : Int → Int → Bool} {f : Int → Int → Option Int}
theorem ins_loop (hw : Swo S lt f) {P Q : List Int} {x : Int} (hx : S x) : ∀ (n : Nat) (L L2 : List Int), L.length = n → (∀ y ∈ L, S y) → P.length + n + L2.length ≤ 1073741824 → (∀ y ∈ L2, lt x y = true) →
  ∃ L1 L3, L = L1 ++ L3 ∧ (∀ y ∈ L3, lt x y = true) ∧ (∀ L0 y, L1 = L0 ++ [y] → lt x y = false) ∧
   loop (slices_insertionSortCmpFunc_int_L2 (P.length : Int) f) (((P.length + n : Nat) : Int), P ++ (L ++ x :: (L2 ++ Q))) = some (P ++ (L1 ++ x :: (L3 ++ L2 ++ Q)))
 | 0, L, L2, hL, hS, hlen, h2 => by
  have : L = [] := List.length_eq_zero_iff.1 hL
  subst this
  refine ⟨[], [], rfl, by simp, fun L0 y h => by simp at h, ?_⟩
  rw [loop_eq]
  unfold slices_insertionSortCmpFunc_int_L2
  have e1 : decide ((P.length : Int) < ((P.length + 0 : Nat) : Int)) = false := by simp
  simp only [e1, gd_false, bind_sm, Bool.false_and, cond_false]
  rw [need_of (by simp), need_of (by simp)]
  simp
 | n + 1, L, L2, hL, hS, hlen, h2 => by
  obtain ⟨L', y, rfl⟩ : ∃ L' y, L = L' ++ [y] := by
   rcases List.eq_nil_or_concat L with h | ⟨L', y, h⟩
   ·
    rw [h] at hL; simp at hL
   ·
    exact ⟨L', y, by rw [h, List.concat_eq_append]⟩
  have hL' : L'.length = n := by simpa using hL
  have hd : P ++ ((L' ++ [y]) ++ x :: (L2 ++ Q)) = (P ++ L') ++ y :: x :: (L2 ++ Q) := by simp
  rw [hd]
  have hj : (((P.length + (n + 1) : Nat) : Int)) = ((P ++ L').length : Int) + 1 := by simp; omega
  obtain ⟨g1, g2, g3, g4, g5, _⟩ := swap_app (U := P ++ L') (V := L2 ++ Q) (x := x) (y := y) hj
  obtain ⟨c, hc, hcl⟩ := hw.cmp x y hx (hS y (by simp))
  have e1 : decide ((P.length : Int) < ((P.length + (n + 1) : Nat) : Int)) = true := by rw [decide_eq_true_eq]; omega
  have ew : W (((P.length + (n + 1) : Nat) : Int) - 1) = ((P.length + (n + 1) : Nat) : Int) - 1 := Wk (by omega) (by omega)
  have hbody : slices_insertionSortCmpFunc_int_L2 (P.length : Int) f (((P.length + (n + 1) : Nat) : Int), (P ++ L') ++ y :: x :: (L2 ++ Q)) =
    some (if lt x y = true then .again (((P.length + n : Nat) : Int), P ++ (L' ++ x :: ((y :: L2) ++ Q))) else .done ((P ++ L') ++ y :: x :: (L2 ++ Q))) := by
   unfold slices_insertionSortCmpFunc_int_L2
   simp only [e1, ew, gd_true, Bool.true_and]
   rw [need_of (fun _ => g3), need_of (fun _ => g4), g1, g2, hc]
   simp only [bind_sm, hcl]
   cases hl : lt x y with
   | true =>
    simp only [cond_true, if_true, bnd_eq]
    have g6 : inR (((P ++ L') ++ y :: x :: (L2 ++ Q)).set (((P.length + (n + 1) : Nat) : Int)).toNat y) (((P.length + (n + 1) : Nat) : Int) - 1) := ⟨g4.1, by rw [List.length_set]; exact g4.2⟩
    rw [need_of g4, need_of g3, need_of g3, need_of g6, g5]
    congr 3
    ·
     omega
    ·
     simp
   | false => simp
  rw [loop_eq, hbody]
  cases hl : lt x y with
  | true =>
   simp only [if_true]
   obtain ⟨L1, L3, k1, k2, k3, k4⟩ := ins_loop hw (P := P) (Q := Q) hx n L' (y :: L2) hL' (fun z hz => hS z (by simp [hz])) (by simp; omega) (fun z hz => by
    rcases List.mem_cons.1 hz with rfl | hz
    ·
     exact hl
    ·
     exact h2 z hz)
   refine ⟨L1, L3 ++ [y], by rw [k1]; simp, fun z hz => ?_, k3, ?_⟩
   ·
    rcases List.mem_append.1 hz with hz | hz
    ·
     exact k2 z hz
    ·
     simp at hz; rw [hz]; exact hl
   ·
    rw [k4]; simp
  | false =>
   simp only [Bool.false_eq_true, if_false]
   refine ⟨L' ++ [y], [], by simp, by simp, fun L0 z h => ?_, by simp⟩
   have := List.append_inj' h (by simp)
   have e : y = z := by simpa using this.2
   rw [← e]; exact hl
theorem ins_sort (hw : Swo S lt f) {P M Q : List Int} (hS : ∀ x ∈ M, S x) (hlen : P.length + M.length ≤ 1073741824) :
  ∃ M', Sd lt M M' ∧ slices_insertionSortCmpFunc_int (P ++ (M ++ Q)) (P.length : Int) ((P.length + M.length : Nat) : Int) f = some (P ++ (M' ++ Q)) := by
 unfold slices_insertionSortCmpFunc_int
 simp only [bnd_eq]
 rw [Wk (n := (P.length : Int) + 1) (by omega) (by omega)]
 cases M with
 | nil =>
  refine ⟨[], Sd.refl srt_nil, ?_⟩
  rw [loop_eq]
  unfold slices_insertionSortCmpFunc_int_L1
  have e1 : decide ((P.length : Int) + 1 < ((P.length + ([] : List Int).length : Nat) : Int)) = false := by simp; omega
  simp only [e1, cond_false]
 | cons z M0 =>
  obtain ⟨e, h1, h2⟩ := loop_inv (body := slices_insertionSortCmpFunc_int_L1 (P.length : Int) ((P.length + (z :: M0).length : Nat) : Int) f) (s0 := ((P.length : Int) + 1, P ++ ((z :: M0) ++ Q)))
   (fun s => ∃ (A A' B : List Int), z :: M0 = A ++ B ∧ A ≠ [] ∧ Sd lt A A' ∧ s = (((P.length + A.length : Nat) : Int), P ++ (A' ++ (B ++ Q)))) (fun s => (((P.length + (z :: M0).length : Nat) : Int) - s.1).toNat) (fun e => ∃ M', Sd lt (z :: M0) M' ∧ e = P ++ (M' ++ Q))
   ⟨[z], [z], M0, rfl, by simp, Sd.refl (srt_one z), by simp⟩ (fun s hI => by
   obtain ⟨A, A', B, hM, hA0, hA, rfl⟩ := hI
   unfold slices_insertionSortCmpFunc_int_L1
   have hlM : (z :: M0).length = A.length + B.length := by rw [hM, List.length_append]
   cases B with
   | nil =>
    right
    have e1 : decide (((P.length + A.length : Nat) : Int) < ((P.length + (z :: M0).length : Nat) : Int)) = false := by rw [hlM]; simp
    simp only [e1, cond_false]
    refine ⟨_, rfl, A', ?_, by simp⟩
    rw [hM, List.append_nil]; exact hA
   | cons x B' =>
    left
    have hlM' : (z :: M0).length = A.length + (B'.length + 1) := by rw [hlM]; rfl
    have e1 : decide (((P.length + A.length : Nat) : Int) < ((P.length + (z :: M0).length : Nat) : Int)) = true := by rw [decide_eq_true_eq]; omega
    simp only [e1, cond_true]
    have hSA : ∀ y ∈ A', S y := fun y hy => hS y (by rw [hM]; exact List.mem_append_left _ (hA.mem.1 hy))
    have hSx : S x := hS x (by rw [hM]; simp)
    obtain ⟨L1, L3, k1, k2, k3, k4⟩ := ins_loop hw (P := P) (Q := B' ++ Q) hSx A.length A' [] hA.len hSA (by simp; rw [hlM] at hlen; simp at hlen; omega) (by simp)
    have hd : P ++ (A' ++ ((x :: B') ++ Q)) = P ++ (A' ++ x :: ([] ++ (B' ++ Q))) := by simp
    rw [hd, k4]
    simp only [bind_sm, bnd_eq]
    rw [Wk (n := ((P.length + A.length : Nat) : Int) + 1) (by omega) (by omega)]
    have hins : Sd lt (A' ++ [x]) (L1 ++ x :: L3) := by
     rw [k1]
     refine Sd.insert hw (by rw [← k1]; exact hSA) hSx (by rw [← k1]; exact hA.srtd) (fun y hy => ?_) k2
     have hs := hA.srtd
     rw [k1] at hs
     rcases List.eq_nil_or_concat L1 with h | ⟨L0, w, h⟩
     ·
      rw [h] at hy; cases hy
     ·
      rw [List.concat_eq_append] at h
      have hw1 := k3 L0 w h
      rw [h] at hy
      rcases List.mem_append.1 hy with hy | hy
      ·
       have hs1 := srt_left hs
       unfold srt at hs1
       rw [h, List.pairwise_append] at hs1
       have := hs1.2.2 y hy w (by simp)
       exact hw.ntr x w y hSx (hSA w (by rw [k1, h]; simp)) (hSA y (by rw [k1, h]; simp [hy])) hw1 this
      ·
       simp at hy; rw [hy]; exact hw1
    refine ⟨_, rfl, ⟨A ++ [x], L1 ++ x :: L3, B', by rw [hM]; simp, by simp, ⟨?_, hins.srtd, fun tb h => ?_⟩, ?_⟩, by simp only; omega⟩
    ·
     exact hins.perm.trans (hA.perm.append_right [x])
    ·
     refine hins.kept tb ?_
     unfold kept2 at *
     rw [List.pairwise_append] at h ⊢
     exact ⟨hA.kept tb h.1, h.2.1, fun a ha b hb => h.2.2 a (hA.mem.1 ha) b hb⟩
    ·
     simp; omega)
  obtain ⟨M', h3, h4⟩ := h2
  exact ⟨M', h3, by rw [← h4, ← h1]⟩
theorem swap_range {P X Z Y Q : List Int} (hxy : X.length = Y.length) (hlen : (P ++ (X ++ (Z ++ (Y ++ Q)))).length ≤ 1073741824) :
  slices_swapRangeCmpFunc_int (P ++ (X ++ (Z ++ (Y ++ Q)))) (P.length : Int) ((P.length + X.length + Z.length : Nat) : Int) (X.length : Int) f = some (P ++ (Y ++ (Z ++ (X ++ Q)))) := by
 unfold slices_swapRangeCmpFunc_int
 obtain ⟨e, h1, h2⟩ := loop_inv (body := slices_swapRangeCmpFunc_int_L1 (P.length : Int) ((P.length + X.length + Z.length : Nat) : Int) (X.length : Int)) (s0 := (0, P ++ (X ++ (Z ++ (Y ++ Q)))))
  (fun s => ∃ (X1 X2 Y1 Y2 : List Int), X = X1 ++ X2 ∧ Y = Y1 ++ Y2 ∧ X1.length = Y1.length ∧ s = ((X1.length : Int), P ++ (Y1 ++ (X2 ++ (Z ++ (X1 ++ (Y2 ++ Q))))))) (fun s => ((X.length : Int) - s.1).toNat) (fun e => e = P ++ (Y ++ (Z ++ (X ++ Q))))
  ⟨[], X, [], Y, rfl, rfl, rfl, by simp⟩ (fun s hI => by
  obtain ⟨X1, X2, Y1, Y2, hX, hY, h12, rfl⟩ := hI
  have lX : X.length = X1.length + X2.length := by rw [hX, List.length_append]
  have lY : Y.length = Y1.length + Y2.length := by rw [hY, List.length_append]
  simp only [List.length_append] at hlen
  unfold slices_swapRangeCmpFunc_int_L1
  cases X2 with
  | nil =>
   right
   have e1 : decide ((X1.length : Int) < (X.length : Int)) = false := by rw [lX]; simp
   have hy2 : Y2 = [] := List.length_eq_zero_iff.1 (by simp at lX; omega)
   subst hy2
   simp only [e1, cond_false]
   refine ⟨_, rfl, ?_⟩
   rw [hX, hY]; simp
  | cons x X2' =>
   left
   obtain ⟨y, Y2', rfl⟩ : ∃ y Y2', Y2 = y :: Y2' := by
    cases Y2 with
    | nil => simp at lX lY; omega
    | cons y Y2' => exact ⟨y, Y2', rfl⟩
   simp only [List.length_cons] at lX lY
   have e1 : decide ((X1.length : Int) < (X.length : Int)) = true := by rw [decide_eq_true_eq]; omega
   simp only [e1, cond_true]
   rw [Wk (n := ((P.length + X.length + Z.length : Nat) : Int) + (X1.length : Int)) (by omega) (by omega), Wk (n := (P.length : Int) + (X1.length : Int)) (by omega) (by omega), Wk (n := (X1.length : Int) + 1) (by omega) (by omega)]
   have d1 : P ++ (Y1 ++ ((x :: X2') ++ (Z ++ (X1 ++ ((y :: Y2') ++ Q))))) = (P ++ Y1) ++ x :: (X2' ++ (Z ++ (X1 ++ ((y :: Y2') ++ Q)))) := by simp
   have d2 : ∀ v : Int, (P ++ Y1) ++ v :: (X2' ++ (Z ++ (X1 ++ ((y :: Y2') ++ Q)))) = (P ++ Y1 ++ v :: (X2' ++ (Z ++ X1))) ++ y :: (Y2' ++ Q) := fun v => by simp
   have i1 : ((P.length : Int) + (X1.length : Int)) = ((P ++ Y1).length : Int) := by simp; omega
   have i2 : ∀ v : Int, (((P.length + X.length + Z.length : Nat) : Int) + (X1.length : Int)) = ((P ++ Y1 ++ v :: (X2' ++ (Z ++ X1))).length : Int) := fun v => by simp; omega
   rw [d1]
   have r1 : inR ((P ++ Y1) ++ x :: (X2' ++ (Z ++ (X1 ++ ((y :: Y2') ++ Q))))) ((P.length : Int) + (X1.length : Int)) := inR_app i1
   have r2 : inR ((P ++ Y1) ++ x :: (X2' ++ (Z ++ (X1 ++ ((y :: Y2') ++ Q))))) (((P.length + X.length + Z.length : Nat) : Int) + (X1.length : Int)) := by rw [d2]; exact inR_app (i2 x)
   have v1 : gx ((P ++ Y1) ++ x :: (X2' ++ (Z ++ (X1 ++ ((y :: Y2') ++ Q))))) (((P.length + X.length + Z.length : Nat) : Int) + (X1.length : Int)) = y := by rw [d2]; exact gx_app (i2 x)
   have v2 : gx ((P ++ Y1) ++ x :: (X2' ++ (Z ++ (X1 ++ ((y :: Y2') ++ Q))))) ((P.length : Int) + (X1.length : Int)) = x := gx_app i1
   rw [need_of r2, v1]
   simp only [bnd_eq]
   rw [need_of r1, v2, need_of r1, set_app (by omega)]
   have r3 : inR ((P ++ Y1) ++ y :: (X2' ++ (Z ++ (X1 ++ ((y :: Y2') ++ Q))))) (((P.length + X.length + Z.length : Nat) : Int) + (X1.length : Int)) := by rw [d2]; exact inR_app (i2 y)
   rw [need_of r3, d2, set_app (by have := i2 y; omega)]
   refine ⟨_, rfl, ⟨X1 ++ [x], X2', Y1 ++ [y], Y2', by rw [hX]; simp, by rw [hY]; simp, by simp; omega, ?_⟩, by simp only; omega⟩
   simp)
 rw [h1, h2]
theorem rotate_eq {P X Y Q : List Int} (hX : X ≠ []) (hY : Y ≠ []) (hlen : (P ++ (X ++ (Y ++ Q))).length ≤ 1073741824) :
  slices_rotateCmpFunc_int (P ++ (X ++ (Y ++ Q))) (P.length : Int) ((P.length + X.length : Nat) : Int) ((P.length + X.length + Y.length : Nat) : Int) f = some (P ++ (Y ++ (X ++ Q))) := by
 unfold slices_rotateCmpFunc_int
 simp only [bnd_eq]
 have hl2 : P.length + X.length + Y.length ≤ 1073741824 := by simp at hlen; omega
 rw [Wk (n := ((P.length + X.length : Nat) : Int) - (P.length : Int)) (by omega) (by omega), Wk (n := ((P.length + X.length + Y.length : Nat) : Int) - ((P.length + X.length : Nat) : Int)) (by omega) (by omega)]
 obtain ⟨e, h1, P', X', Y', Q', e1, e2, e3, e4, e5⟩ := loop_inv (body := slices_rotateCmpFunc_int_L1 ((P.length + X.length : Nat) : Int) f) (s0 := (((P.length + X.length : Nat) : Int) - (P.length : Int), ((P.length + X.length + Y.length : Nat) : Int) - ((P.length + X.length : Nat) : Int), P ++ (X ++ (Y ++ Q))))
  (fun s => ∃ P' X' Y' Q' : List Int, X' ≠ [] ∧ Y' ≠ [] ∧ s = ((X'.length : Int), (Y'.length : Int), P' ++ (X' ++ (Y' ++ Q'))) ∧ P'.length + X'.length = P.length + X.length ∧ P' ++ (Y' ++ (X' ++ Q')) = P ++ (Y ++ (X ++ Q)))
  (fun s => (s.1 + s.2.1).toNat) (fun e => ∃ P' X' Y' Q' : List Int, X'.length = Y'.length ∧ X' ≠ [] ∧ e = ((X'.length : Int), P' ++ (X' ++ (Y' ++ Q'))) ∧ P'.length + X'.length = P.length + X.length ∧ P' ++ (Y' ++ (X' ++ Q')) = P ++ (Y ++ (X ++ Q)))
  ⟨P, X, Y, Q, hX, hY, Prod.ext (by simp only; omega) (Prod.ext (by simp only; omega) rfl), rfl, rfl⟩ (fun s hI => by
  obtain ⟨P', X', Y', Q', x0, y0, rfl, hm, ht⟩ := hI
  have hx0 := List.length_pos_iff.2 x0
  have hy0 := List.length_pos_iff.2 y0
  have hlt : (P' ++ (X' ++ (Y' ++ Q'))).length ≤ 1073741824 := by
   have := congrArg List.length ht
   simp only [List.length_append] at this hlen ⊢; omega
  unfold slices_rotateCmpFunc_int_L1
  simp only
  by_cases c : X'.length = Y'.length
  ·
   right
   have d1 : (!decide ((X'.length : Int) = (Y'.length : Int))) = false := by simp; omega
   simp only [d1, cond_false]
   exact ⟨_, rfl, P', X', Y', Q', c, x0, rfl, hm, ht⟩
  ·
   left
   have d1 : (!decide ((X'.length : Int) = (Y'.length : Int))) = true := by simp; omega
   simp only [d1, cond_true]
   have hl3 : P'.length + X'.length + Y'.length ≤ 1073741824 := by simp at hlt; omega
   have ew : W (((P.length + X.length : Nat) : Int) - (X'.length : Int)) = (P'.length : Int) := by rw [Wk (by omega) (by omega)]; omega
   rw [ew]
   by_cases c2 : Y'.length < X'.length
   ·
    have d2 : decide ((Y'.length : Int) < (X'.length : Int)) = true := by simp; omega
    simp only [d2, cond_true]
    obtain ⟨X1, X2, rfl, hx1⟩ := cut (A := X') (n := Y'.length) (by omega)
    have hsw := swap_range (f := f) (P := P') (X := X1) (Z := X2) (Y := Y') (Q := Q') hx1 (by simpa using hlt)
    have hd : P' ++ ((X1 ++ X2) ++ (Y' ++ Q')) = P' ++ (X1 ++ (X2 ++ (Y' ++ Q'))) := by simp
    have hmm : ((P.length + X.length : Nat) : Int) = ((P'.length + X1.length + X2.length : Nat) : Int) := by simp at hm; omega
    have hl12 : (X1 ++ X2).length = X1.length + X2.length := List.length_append
    rw [hd, hmm, ← hx1, hsw]
    simp only [bind_sm, bnd_eq]
    rw [Wk (by omega) (by omega)]
    refine ⟨_, rfl, ⟨P' ++ Y', X2, X1, Q', fun e => by have := congrArg List.length e; rw [List.length_nil] at this; omega, fun e => by have := congrArg List.length e; rw [List.length_nil] at this; omega, ?_, by rw [List.length_append]; omega, ?_⟩, by simp only; omega⟩
    ·
     exact Prod.ext (by simp only; omega) (Prod.ext rfl (by simp))
    ·
     rw [← ht]; simp
   ·
    have d2 : decide ((Y'.length : Int) < (X'.length : Int)) = false := by simp; omega
    simp only [d2, cond_false]
    obtain ⟨Y1, Y2, rfl, hy1⟩ := cut (A := Y') (n := Y'.length - X'.length) (by omega)
    have hl12 : (Y1 ++ Y2).length = Y1.length + Y2.length := List.length_append
    have hy2 : X'.length = Y2.length := by omega
    have hsw := swap_range (f := f) (P := P') (X := X') (Z := Y1) (Y := Y2) (Q := Q') hy2 (by simpa using hlt)
    have hd : P' ++ (X' ++ ((Y1 ++ Y2) ++ Q')) = P' ++ (X' ++ (Y1 ++ (Y2 ++ Q'))) := by simp
    have hmm : W (W (((P.length + X.length : Nat) : Int) + ((Y1 ++ Y2).length : Int)) - (X'.length : Int)) = ((P'.length + X'.length + Y1.length : Nat) : Int) := by
     rw [Wk (n := ((P.length + X.length : Nat) : Int) + ((Y1 ++ Y2).length : Int)) (by omega) (by omega), Wk (by omega) (by omega)]; omega
    rw [hd, hmm, hsw]
    simp only [bind_sm, bnd_eq]
    rw [Wk (by omega) (by omega)]
    refine ⟨_, rfl, ⟨P', Y2, Y1, X' ++ Q', fun e => by have := congrArg List.length e; rw [List.length_nil] at this; omega, fun e => by have := congrArg List.length e; rw [List.length_nil] at this; omega, ?_, by omega, ?_⟩, by simp only; omega⟩
    ·
     exact Prod.ext (by simp only; omega) (Prod.ext (by simp only; omega) (by simp))
    ·
     rw [← ht]; simp)
 rw [h1]
 simp only [bind_sm]
 subst e3
 simp only
 have hlt : (P' ++ (X' ++ (Y' ++ Q'))).length ≤ 1073741824 := by
  have := congrArg List.length e5
  simp only [List.length_append] at this hlen ⊢; omega
 have hl3 : P'.length + X'.length + Y'.length ≤ 1073741824 := by simp at hlt; omega
 have ew : W (((P.length + X.length : Nat) : Int) - (X'.length : Int)) = (P'.length : Int) := by rw [Wk (by omega) (by omega)]; omega
 have hsw := swap_range (f := f) (P := P') (X := X') (Z := []) (Y := Y') (Q := Q') e1 (by simpa using hlt)
 have hmm : ((P.length + X.length : Nat) : Int) = ((P'.length + X'.length + ([] : List Int).length : Nat) : Int) := by simp; omega
 rw [ew, hmm]
 simp only [List.nil_append] at hsw
 rw [hsw, e5]
 rfl
end
end
section
section
variable {S : Int → Prop} {lt : Int → Int → Bool} {f : Int → Int → Option Int}
theorem right_loop {P L Q : List Int} {x : Int} {e : Int} (he : e = ((P.length + L.length + 1 : Nat) : Int)) (hlen : P.length + L.length + 1 ≤ 1073741824) :
  loop (slices_symMergeCmpFunc_int_L2 e) ((P.length : Int), P ++ (x :: (L ++ Q))) = some (P ++ (L ++ x :: Q)) := by
 obtain ⟨r, h1, h2⟩ := loop_inv (body := slices_symMergeCmpFunc_int_L2 e) (s0 := ((P.length : Int), P ++ (x :: (L ++ Q)))) (fun s => ∃ L1 L2, L = L1 ++ L2 ∧ s = (((P.length + L1.length : Nat) : Int), P ++ (L1 ++ x :: (L2 ++ Q))))
  (fun s => (e - s.1).toNat) (fun r => r = P ++ (L ++ x :: Q)) ⟨[], L, rfl, by simp⟩ (fun s hI => by
  obtain ⟨L1, L2, hL, rfl⟩ := hI
  have lL : L.length = L1.length + L2.length := by rw [hL, List.length_append]
  unfold slices_symMergeCmpFunc_int_L2
  simp only
  rw [Wk (n := e - 1) (by omega) (by omega), Wk (n := ((P.length + L1.length : Nat) : Int) + 1) (by omega) (by omega)]
  cases L2 with
  | nil =>
   right
   have e1 : decide (((P.length + L1.length : Nat) : Int) < e - 1) = false := by rw [decide_eq_false_iff_not]; simp at lL; omega
   simp only [e1, cond_false]
   exact ⟨_, rfl, by rw [hL]; simp⟩
  | cons y L2' =>
   left
   simp only [List.length_cons] at lL
   have e1 : decide (((P.length + L1.length : Nat) : Int) < e - 1) = true := by rw [decide_eq_true_eq]; omega
   simp only [e1, cond_true]
   have hd : P ++ (L1 ++ x :: ((y :: L2') ++ Q)) = (P ++ L1) ++ x :: y :: (L2' ++ Q) := by simp
   obtain ⟨g1, g2, g3, g4, _, g6⟩ := swap_app (U := P ++ L1) (V := L2' ++ Q) (x := y) (y := x) (j := ((P.length + L1.length : Nat) : Int) + 1) (by simp)
   have ej : ((P.length + L1.length : Nat) : Int) + 1 - 1 = ((P.length + L1.length : Nat) : Int) := by omega
   rw [ej] at g2 g4 g6
   rw [hd, need_of g3, g1]
   simp only [bnd_eq]
   have g7 : inR (((P ++ L1) ++ x :: y :: (L2' ++ Q)).set (((P.length + L1.length : Nat) : Int)).toNat y) (((P.length + L1.length : Nat) : Int) + 1) := ⟨g3.1, by rw [List.length_set]; exact g3.2⟩
   rw [need_of g4, g2, need_of g4, need_of g7, g6]
   refine ⟨_, rfl, ⟨L1 ++ [y], L2', by rw [hL]; simp, Prod.ext (by simp; omega) (by simp)⟩, by simp only; omega⟩)
 rw [h1, h2]
theorem left_loop {P L Q : List Int} {x : Int} (hlen : P.length + L.length + 1 ≤ 1073741824) :
  loop (slices_symMergeCmpFunc_int_L4 (P.length : Int)) (((P.length + L.length : Nat) : Int), P ++ (L ++ x :: Q)) = some (P ++ (x :: (L ++ Q))) := by
 obtain ⟨r, h1, h2⟩ := loop_inv (body := slices_symMergeCmpFunc_int_L4 (P.length : Int)) (s0 := (((P.length + L.length : Nat) : Int), P ++ (L ++ x :: Q))) (fun s => ∃ L1 L2, L = L1 ++ L2 ∧ s = (((P.length + L1.length : Nat) : Int), P ++ (L1 ++ x :: (L2 ++ Q))))
  (fun s => (s.1 - P.length).toNat) (fun r => r = P ++ (x :: (L ++ Q))) ⟨L, [], by simp, by simp⟩ (fun s hI => by
  obtain ⟨L1, L2, hL, rfl⟩ := hI
  have lL : L.length = L1.length + L2.length := by rw [hL, List.length_append]
  unfold slices_symMergeCmpFunc_int_L4
  simp only
  rw [Wk (n := ((P.length + L1.length : Nat) : Int) - 1) (by omega) (by omega)]
  rcases List.eq_nil_or_concat L1 with h | ⟨L1', y, h⟩
  ·
   right
   subst h
   have e1 : decide ((P.length : Int) < ((P.length + ([] : List Int).length : Nat) : Int)) = false := by simp
   simp only [e1, cond_false]
   exact ⟨_, rfl, by rw [hL]; simp⟩
  ·
   left
   rw [List.concat_eq_append] at h
   subst h
   have hl1 : (L1' ++ [y]).length = L1'.length + 1 := by simp
   have e1 : decide ((P.length : Int) < ((P.length + (L1' ++ [y]).length : Nat) : Int)) = true := by rw [decide_eq_true_eq]; omega
   simp only [e1, cond_true]
   have hd : P ++ ((L1' ++ [y]) ++ x :: (L2 ++ Q)) = (P ++ L1') ++ y :: x :: (L2 ++ Q) := by simp
   obtain ⟨g1, g2, g3, g4, g5, _⟩ := swap_app (U := P ++ L1') (V := L2 ++ Q) (x := x) (y := y) (j := ((P.length + (L1' ++ [y]).length : Nat) : Int)) (by simp; omega)
   rw [hd, need_of g4, g2]
   simp only [bnd_eq]
   have g7 : inR (((P ++ L1') ++ y :: x :: (L2 ++ Q)).set (((P.length + (L1' ++ [y]).length : Nat) : Int)).toNat y) (((P.length + (L1' ++ [y]).length : Nat) : Int) - 1) := ⟨g4.1, by rw [List.length_set]; exact g4.2⟩
   rw [need_of g3, g1, need_of g3, need_of g7, g5]
   refine ⟨_, rfl, ⟨L1', y :: L2, by rw [hL]; simp, Prod.ext (by simp only; omega) (by simp)⟩, by simp only; omega⟩)
 rw [h1, h2]
theorem srt_get (hw : Swo S lt f) {A : List Int} (h : srt lt A) (hS : ∀ x ∈ A, S x) {i j : Nat} (hj : j < A.length) (hij : i ≤ j) : lt A[j] (A[i]'(by omega)) = false := by
 by_cases e : i = j
 ·
  subst e; exact hw.irr (hS _ (List.getElem_mem _))
 ·
  unfold srt at h
  rw [List.pairwise_iff_getElem] at h
  exact h i j (by omega) hj (by omega)
theorem merge_first (hw : Swo S lt f) {P B Q : List Int} {x : Int} (hB : B ≠ []) (hS : ∀ y ∈ x :: B, S y) (hs : srt lt B) (hlen : P.length + 1 + B.length ≤ 1073741824) :
  ∃ M, Sd lt (x :: B) M ∧ ∀ n, fixN slices_symMergeCmpFunc_int_body (n + 1) (P ++ (x :: (B ++ Q)), (P.length : Int), ((P.length + 1 : Nat) : Int), ((P.length + 1 + B.length : Nat) : Int), f) = some (P ++ (M ++ Q)) := by
 have hx : S x := hS x (by simp)
 have hSB : ∀ y ∈ B, S y := fun y hy => hS y (by simp [hy])
 obtain ⟨s, s1, s2, s3, s4, s5⟩ := bsearch (body := slices_symMergeCmpFunc_int_L1 (P ++ (x :: (B ++ Q)), (P.length : Int), ((P.length + 1 : Nat) : Int), ((P.length + 1 + B.length : Nat) : Int), f)) (fun h => if hh : P.length + 1 ≤ h ∧ h < P.length + 1 + B.length then lt (B[h - (P.length + 1)]'(by omega)) x else false) (lo := P.length + 1) (hi := P.length + 1 + B.length) (by omega)
  (fun i j i1 i2 i3 => by
   unfold slices_symMergeCmpFunc_int_L1
   have e1 : decide ((i : Int) < (j : Int)) = true := by rw [decide_eq_true_eq]; omega
   simp only [e1, cond_true]
   rw [half_eq (by omega)]
   simp only [bnd_eq]
   have hk : (i + j) / 2 - (P.length + 1) < B.length := by omega
   have hd : P ++ (x :: (B ++ Q)) = (P ++ [x]) ++ (B ++ Q) := by simp
   have hg1 : gx (P ++ (x :: (B ++ Q))) (((i + j) / 2 : Nat) : Int) = B[(i + j) / 2 - (P.length + 1)] := by rw [hd]; exact gx_part hk (by simp; omega)
   have hr1 : inR (P ++ (x :: (B ++ Q))) (((i + j) / 2 : Nat) : Int) := by rw [hd]; exact inR_part hk (by simp; omega)
   have hg2 : gx (P ++ (x :: (B ++ Q))) (P.length : Int) = x := gx_app rfl
   have hr2 : inR (P ++ (x :: (B ++ Q))) (P.length : Int) := inR_app rfl
   obtain ⟨c, hc, hcl⟩ := hw.cmp (B[(i + j) / 2 - (P.length + 1)]) x (hSB _ (List.getElem_mem _)) hx
   rw [need_of hr1, need_of hr2, hg1, hg2, hc]
   simp only [bind_sm, hcl]
   rw [dif_pos ⟨by omega, by omega⟩]
   rw [Wk (n := (((i + j) / 2 : Nat) : Int) + 1) (by omega) (by omega)]
   cases lt (B[(i + j) / 2 - (P.length + 1)]) x <;> simp)
  (fun i i1 i2 => by
   unfold slices_symMergeCmpFunc_int_L1
   have e1 : decide ((i : Int) < (i : Int)) = false := by simp
   simp only [e1, cond_false])
  (fun h k h1 h2 h3 hp => by
   rw [dif_pos ⟨by omega, h3⟩] at hp
   rw [dif_pos ⟨h1, by omega⟩]
   have hsrt := srt_get hw hs hSB (i := h - (P.length + 1)) (j := k - (P.length + 1)) (by omega) (by omega)
   cases hh : lt (B[h - (P.length + 1)]) x with
   | true => rfl
   | false =>
    have := hw.ntr _ _ _ (hSB _ (List.getElem_mem (show k - (P.length + 1) < B.length by omega))) (hSB _ (List.getElem_mem (show h - (P.length + 1) < B.length by omega))) hx hsrt hh
    rw [hp] at this; cases this)
 obtain ⟨B1, B2, hBB, hB1⟩ := cut (A := B) (n := s - (P.length + 1)) (by omega)
 have hlB : B.length = B1.length + B2.length := by rw [hBB, List.length_append]
 have hb1 : ∀ y ∈ B1, lt y x = true := fun y hy => by
  obtain ⟨i, hi, rfl⟩ := List.mem_iff_getElem.1 hy
  have := s3 (P.length + 1 + i) (by omega) (by omega)
  rw [dif_pos ⟨by omega, by omega⟩] at this
  have e : B[P.length + 1 + i - (P.length + 1)]'(by omega) = B1[i] := by simp only [hBB]; rw [List.getElem_append_left (by omega)]; congr 1; omega
  rwa [e] at this
 have hb2 : ∀ y ∈ B2, lt y x = false := fun y hy => by
  obtain ⟨i, hi, rfl⟩ := List.mem_iff_getElem.1 hy
  have := s4 (s + i) (by omega) (by omega)
  rw [dif_pos ⟨by omega, by omega⟩] at this
  have e : B[s + i - (P.length + 1)]'(by omega) = B2[i] := by simp only [hBB]; rw [List.getElem_append_right (by omega)]; congr 1; omega
  rwa [e] at this
 refine ⟨B1 ++ x :: B2, by rw [hBB]; exact Sd.insertF hw (by rw [← hBB]; exact hSB) hx (by rw [← hBB]; exact hs) hb1 hb2, fun n => ?_⟩
 show slices_symMergeCmpFunc_int_body (fixN slices_symMergeCmpFunc_int_body n) _ = _
 generalize fixN slices_symMergeCmpFunc_int_body n = slf
 unfold slices_symMergeCmpFunc_int_body
 have e1 : decide (W (((P.length + 1 : Nat) : Int) - (P.length : Int)) = 1) = true := by rw [Wk (by omega) (by omega), decide_eq_true_eq]; omega
 simp only [e1, cond_true, s5, bind_sm]
 have hr := right_loop (P := P) (L := B1) (Q := B2 ++ Q) (x := x) (e := (s : Int)) (by omega) (by omega)
 have hd : P ++ (x :: (B ++ Q)) = P ++ (x :: (B1 ++ (B2 ++ Q))) := by rw [hBB]; simp
 rw [hd, hr]
 simp
theorem merge_last (hw : Swo S lt f) {P A Q : List Int} {y : Int} (hA : 2 ≤ A.length) (hS : ∀ z ∈ A ++ [y], S z) (hs : srt lt A) (hlen : P.length + A.length + 1 ≤ 1073741824) :
  ∃ M, Sd lt (A ++ [y]) M ∧ ∀ n, fixN slices_symMergeCmpFunc_int_body (n + 1) (P ++ (A ++ y :: Q), (P.length : Int), ((P.length + A.length : Nat) : Int), ((P.length + A.length + 1 : Nat) : Int), f) = some (P ++ (M ++ Q)) := by
 have hy : S y := hS y (by simp)
 have hSA : ∀ z ∈ A, S z := fun z hz => hS z (by simp [hz])
 obtain ⟨s, s1, s2, s3, s4, s5⟩ := bsearch (body := slices_symMergeCmpFunc_int_L3 (P ++ (A ++ y :: Q), (P.length : Int), ((P.length + A.length : Nat) : Int), ((P.length + A.length + 1 : Nat) : Int), f)) (fun h => if hh : P.length ≤ h ∧ h < P.length + A.length then !lt y (A[h - P.length]'(by omega)) else false) (lo := P.length) (hi := P.length + A.length) (by omega)
  (fun i j i1 i2 i3 => by
   unfold slices_symMergeCmpFunc_int_L3
   have e1 : decide ((i : Int) < (j : Int)) = true := by rw [decide_eq_true_eq]; omega
   simp only [e1, cond_true]
   rw [half_eq (by omega)]
   simp only [bnd_eq]
   have hk : (i + j) / 2 - P.length < A.length := by omega
   have hg1 : gx (P ++ (A ++ y :: Q)) (((i + j) / 2 : Nat) : Int) = A[(i + j) / 2 - P.length] := gx_part hk (by omega)
   have hr1 : inR (P ++ (A ++ y :: Q)) (((i + j) / 2 : Nat) : Int) := inR_part hk (by omega)
   have hd : P ++ (A ++ y :: Q) = (P ++ A) ++ y :: Q := by simp
   have hg2 : gx (P ++ (A ++ y :: Q)) ((P.length + A.length : Nat) : Int) = y := by rw [hd]; exact gx_app (by simp)
   have hr2 : inR (P ++ (A ++ y :: Q)) ((P.length + A.length : Nat) : Int) := by rw [hd]; exact inR_app (by simp)
   obtain ⟨c, hc, hcl⟩ := hw.cmp y (A[(i + j) / 2 - P.length]) hy (hSA _ (List.getElem_mem _))
   rw [need_of hr2, need_of hr1, hg1, hg2, hc]
   simp only [bind_sm, hcl]
   rw [dif_pos ⟨by omega, by omega⟩]
   rw [Wk (n := (((i + j) / 2 : Nat) : Int) + 1) (by omega) (by omega)]
   cases lt y (A[(i + j) / 2 - P.length]) <;> simp)
  (fun i i1 i2 => by
   unfold slices_symMergeCmpFunc_int_L3
   have e1 : decide ((i : Int) < (i : Int)) = false := by simp
   simp only [e1, cond_false])
  (fun h k h1 h2 h3 hp => by
   rw [dif_pos ⟨by omega, h3⟩] at hp
   rw [dif_pos ⟨h1, by omega⟩]
   have hsrt := srt_get hw hs hSA (i := h - P.length) (j := k - P.length) (by omega) (by omega)
   simp only [Bool.not_eq_true'] at hp ⊢
   exact hw.ntr _ _ _ hy (hSA _ (List.getElem_mem (show k - P.length < A.length by omega))) (hSA _ (List.getElem_mem (show h - P.length < A.length by omega))) hp hsrt)
 obtain ⟨A1, A2, hAA, hA1⟩ := cut (A := A) (n := s - P.length) (by omega)
 have hlA : A.length = A1.length + A2.length := by rw [hAA, List.length_append]
 have ha1 : ∀ z ∈ A1, lt y z = false := fun z hz => by
  obtain ⟨i, hi, rfl⟩ := List.mem_iff_getElem.1 hz
  have := s3 (P.length + i) (by omega) (by omega)
  rw [dif_pos ⟨by omega, by omega⟩] at this
  have e : A[P.length + i - P.length]'(by omega) = A1[i] := by simp only [hAA]; rw [List.getElem_append_left (by omega)]; congr 1; omega
  rw [e] at this; simpa using this
 have ha2 : ∀ z ∈ A2, lt y z = true := fun z hz => by
  obtain ⟨i, hi, rfl⟩ := List.mem_iff_getElem.1 hz
  have := s4 (s + i) (by omega) (by omega)
  rw [dif_pos ⟨by omega, by omega⟩] at this
  have e : A[s + i - P.length]'(by omega) = A2[i] := by simp only [hAA]; rw [List.getElem_append_right (by omega)]; congr 1; omega
  rw [e] at this; simpa using this
 refine ⟨A1 ++ y :: A2, by rw [hAA]; exact Sd.insert hw (by rw [← hAA]; exact hSA) hy (by rw [← hAA]; exact hs) ha1 ha2, fun n => ?_⟩
 show slices_symMergeCmpFunc_int_body (fixN slices_symMergeCmpFunc_int_body n) _ = _
 generalize fixN slices_symMergeCmpFunc_int_body n = slf
 unfold slices_symMergeCmpFunc_int_body
 have e1 : decide (W (((P.length + A.length : Nat) : Int) - (P.length : Int)) = 1) = false := by rw [Wk (by omega) (by omega), decide_eq_false_iff_not]; omega
 have e2 : decide (W (((P.length + A.length + 1 : Nat) : Int) - ((P.length + A.length : Nat) : Int)) = 1) = true := by rw [Wk (by omega) (by omega), decide_eq_true_eq]; omega
 simp only [e1, e2, cond_true, cond_false, s5, bind_sm, bindR_nx]
 have hr := left_loop (P := P ++ A1) (L := A2) (Q := Q) (x := y) (by simp; omega)
 have hd : P ++ (A ++ y :: Q) = (P ++ A1) ++ (A2 ++ y :: Q) := by rw [hAA]; simp
 have hp1 : ((P ++ A1).length : Int) = (s : Int) := by simp; omega
 have hp2 : (((P ++ A1).length + A2.length : Nat) : Int) = ((P.length + A.length : Nat) : Int) := by simp; omega
 rw [hp1, hp2] at hr
 rw [hd, hr]
 simp
theorem sym_merge (hw : Swo S lt f) : ∀ (k : Nat) (P A B Q : List Int), A.length + B.length ≤ k → A ≠ [] → B ≠ [] → (∀ z ∈ A ++ B, S z) → srt lt A → srt lt B → (P ++ (A ++ (B ++ Q))).length ≤ 1073741824 →
  ∃ M, Sd lt (A ++ B) M ∧ ∀ n, k ≤ n → fixN slices_symMergeCmpFunc_int_body n (P ++ (A ++ (B ++ Q)), (P.length : Int), ((P.length + A.length : Nat) : Int), ((P.length + A.length + B.length : Nat) : Int), f) = some (P ++ (M ++ Q))
 | 0, P, A, B, Q, hk, hA, hB, hS, sA, sB, hlen => by
  have := List.length_pos_iff.2 hA; omega
 | k + 1, P, A, B, Q, hk, hA, hB, hS, sA, sB, hlen => by
  have hA0 := List.length_pos_iff.2 hA
  have hB0 := List.length_pos_iff.2 hB
  have hl3 : P.length + A.length + B.length ≤ 1073741824 := by simp at hlen; omega
  have hSA : ∀ z ∈ A, S z := fun z hz => hS z (by simp [hz])
  have hSB : ∀ z ∈ B, S z := fun z hz => hS z (by simp [hz])
  by_cases c1 : A.length = 1
  ·
   obtain ⟨x, rfl⟩ := List.length_eq_one_iff.1 c1
   obtain ⟨M, h1, h2⟩ := merge_first hw (P := P) (Q := Q) (x := x) hB (by simpa using hS) sB (by simp at hl3; omega)
   refine ⟨M, by simpa using h1, fun n hn => ?_⟩
   obtain ⟨n, rfl⟩ : ∃ m, n = m + 1 := ⟨n - 1, by omega⟩
   exact h2 n
  by_cases c2 : B.length = 1
  ·
   obtain ⟨y, rfl⟩ := List.length_eq_one_iff.1 c2
   obtain ⟨M, h1, h2⟩ := merge_last hw (P := P) (A := A) (Q := Q) (y := y) (by omega) hS sA (by simp at hl3; omega)
   refine ⟨M, h1, fun n hn => ?_⟩
   obtain ⟨n, rfl⟩ : ∃ m, n = m + 1 := ⟨n - 1, by omega⟩
   exact h2 n
  obtain ⟨a, ha⟩ : ∃ a, a = P.length := ⟨_, rfl⟩
  obtain ⟨m, hm⟩ : ∃ m, m = P.length + A.length := ⟨_, rfl⟩
  obtain ⟨b, hb⟩ : ∃ b, b = P.length + A.length + B.length := ⟨_, rfl⟩
  obtain ⟨mid, hmid⟩ : ∃ mid, mid = (a + b) / 2 := ⟨_, rfl⟩
  have hgA : ∀ c, a ≤ c → (hc : c < m) → gx (P ++ (A ++ (B ++ Q))) (c : Int) = A[c - a]'(by omega) ∧ inR (P ++ (A ++ (B ++ Q))) (c : Int) := fun c c1 c2 => ⟨gx_part (by omega) (by omega), inR_part (i := c - a) (by omega) (by omega)⟩
  have hgB : ∀ c, m ≤ c → (hc : c < b) → gx (P ++ (A ++ (B ++ Q))) (c : Int) = B[c - m]'(by omega) ∧ inR (P ++ (A ++ (B ++ Q))) (c : Int) := fun c c1 c2 => by
   have hd : P ++ (A ++ (B ++ Q)) = (P ++ A) ++ (B ++ Q) := by simp
   rw [hd]
   exact ⟨gx_part (by omega) (by simp; omega), inR_part (i := c - m) (by omega) (by simp; omega)⟩
  obtain ⟨lo, hlo⟩ : ∃ lo, lo = if mid < m then mid + m - b else a := ⟨_, rfl⟩
  obtain ⟨hi, hhi⟩ : ∃ hi, hi = if mid < m then mid else m := ⟨_, rfl⟩
  have hlh : a ≤ lo ∧ lo ≤ hi ∧ hi ≤ m ∧ hi ≤ mid ∧ (mid < m → lo = mid + m - b ∧ hi = mid) ∧ (m ≤ mid → lo = a ∧ hi = m) := by
   by_cases c : mid < m
   ·
    rw [if_pos c] at hlo hhi; omega
   ·
    rw [if_neg c] at hlo hhi; omega
  have hpl : ∀ c, lo ≤ c → c < hi → a ≤ c ∧ c < m ∧ m ≤ mid + m - 1 - c ∧ mid + m - 1 - c < b := fun c h1 h2 => by
   by_cases cm : mid < m
   ·
    have := hlh.2.2.2.2.1 cm; omega
   ·
    have := hlh.2.2.2.2.2 (by omega); omega
  obtain ⟨s, s1, s2, s3, s4, s5⟩ := bsearch (body := slices_symMergeCmpFunc_int_L5 (P ++ (A ++ (B ++ Q)), (P.length : Int), ((P.length + A.length : Nat) : Int), ((P.length + A.length + B.length : Nat) : Int), f) ((mid + m : Nat) : Int)) (fun c => if hh : lo ≤ c ∧ c < hi then !lt (B[mid + m - 1 - c - m]'(by have := hpl c hh.1 hh.2; omega)) (A[c - a]'(by have := hpl c hh.1 hh.2; omega)) else false) (lo := lo) (hi := hi) hlh.2.1
   (fun i j i1 i2 i3 => by
    unfold slices_symMergeCmpFunc_int_L5
    have e1 : decide ((i : Int) < (j : Int)) = true := by rw [decide_eq_true_eq]; omega
    simp only [e1, cond_true]
    rw [half_eq (by omega)]
    simp only [bnd_eq]
    obtain ⟨q1, q2, q3, q4⟩ := hpl ((i + j) / 2) (by omega) (by omega)
    rw [Wk (n := ((mid + m : Nat) : Int) - 1) (by omega) (by omega), Wk (n := ((mid + m : Nat) : Int) - 1 - (((i + j) / 2 : Nat) : Int)) (by omega) (by omega), Wk (n := (((i + j) / 2 : Nat) : Int) + 1) (by omega) (by omega)]
    have ec : ((mid + m : Nat) : Int) - 1 - (((i + j) / 2 : Nat) : Int) = ((mid + m - 1 - (i + j) / 2 : Nat) : Int) := by omega
    obtain ⟨g1, r1⟩ := hgA ((i + j) / 2) q1 q2
    obtain ⟨g2, r2⟩ := hgB (mid + m - 1 - (i + j) / 2) q3 q4
    obtain ⟨cc, hc, hcl⟩ := hw.cmp (B[mid + m - 1 - (i + j) / 2 - m]'(by omega)) (A[(i + j) / 2 - a]'(by omega)) (hSB _ (List.getElem_mem _)) (hSA _ (List.getElem_mem _))
    rw [ec, need_of r2, need_of r1, g1, g2, hc]
    simp only [bind_sm, hcl]
    rw [dif_pos ⟨by omega, by omega⟩]
    cases lt (B[mid + m - 1 - (i + j) / 2 - m]'(by omega)) (A[(i + j) / 2 - a]'(by omega)) <;> simp)
   (fun i i1 i2 => by
    unfold slices_symMergeCmpFunc_int_L5
    have e1 : decide ((i : Int) < (i : Int)) = false := by simp
    simp only [e1, cond_false])
   (fun h k h1 h2 h3 hp => by
    rw [dif_pos ⟨by omega, h3⟩] at hp
    rw [dif_pos ⟨h1, by omega⟩]
    obtain ⟨q1, q2, q3, q4⟩ := hpl h h1 (by omega)
    obtain ⟨w1, w2, w3, w4⟩ := hpl k (by omega) h3
    simp only [Bool.not_eq_true'] at hp ⊢
    have t1 := srt_get hw sB hSB (i := mid + m - 1 - k - m) (j := mid + m - 1 - h - m) (by omega) (by omega)
    have t2 := srt_get hw sA hSA (i := h - a) (j := k - a) (by omega) (by omega)
    have t3 := hw.ntr _ _ _ (hSB _ (List.getElem_mem (show mid + m - 1 - h - m < B.length by omega))) (hSB _ (List.getElem_mem (show mid + m - 1 - k - m < B.length by omega))) (hSA _ (List.getElem_mem (show k - a < A.length by omega))) t1 hp
    exact hw.ntr _ _ _ (hSB _ (List.getElem_mem (show mid + m - 1 - h - m < B.length by omega))) (hSA _ (List.getElem_mem (show k - a < A.length by omega))) (hSA _ (List.getElem_mem (show h - a < A.length by omega))) t3 t2)
  obtain ⟨A1, A2, hAA, hA1⟩ := cut (A := A) (n := s - a) (by omega)
  obtain ⟨B1, B2, hBB, hB1⟩ := cut (A := B) (n := mid - s) (by
   by_cases cm : mid < m
   ·
    have := hlh.2.2.2.2.1 cm; omega
   ·
    have := hlh.2.2.2.2.2 (by omega); omega)
  have hlA : A.length = A1.length + A2.length := by rw [hAA, List.length_append]
  have hlB : B.length = B1.length + B2.length := by rw [hBB, List.length_append]
  have gA1 : ∀ i, (hi : i < A1.length) → A1[i] = A[i]'(by omega) := fun i hi => by simp only [hAA]; rw [List.getElem_append_left hi]
  have gA2 : ∀ i, (hi : i < A2.length) → A2[i] = A[A1.length + i]'(by omega) := fun i hi => by simp only [hAA]; rw [List.getElem_append_right (by omega)]; congr 1; omega
  have gB1 : ∀ i, (hi : i < B1.length) → B1[i] = B[i]'(by omega) := fun i hi => by simp only [hBB]; rw [List.getElem_append_left hi]
  have gB2 : ∀ i, (hi : i < B2.length) → B2[i] = B[B1.length + i]'(by omega) := fun i hi => by simp only [hBB]; rw [List.getElem_append_right (by omega)]; congr 1; omega
  have hI : ∀ x ∈ A1, ∀ y ∈ B2, lt y x = false := fun x hx y hy => by
   obtain ⟨i, hi1, rfl⟩ := List.mem_iff_getElem.1 hx
   obtain ⟨j, hj1, rfl⟩ := List.mem_iff_getElem.1 hy
   by_cases cs : lo < s
   ·
    have h3 := s3 (s - 1) (by omega) (by omega)
    rw [dif_pos ⟨by omega, by omega⟩] at h3
    simp only [Bool.not_eq_true'] at h3
    obtain ⟨w1, w2, w3, w4⟩ := hpl (s - 1) (by omega) (by omega)
    have t1 := srt_get hw sB hSB (i := mid + m - 1 - (s - 1) - m) (j := B1.length + j) (by omega) (by omega)
    have t2 := srt_get hw sA hSA (i := i) (j := s - 1 - a) (by omega) (by omega)
    rw [gA1 i hi1, gB2 j hj1]
    have t3 := hw.ntr _ _ _ (hSB _ (List.getElem_mem (show B1.length + j < B.length by omega))) (hSB _ (List.getElem_mem (show mid + m - 1 - (s - 1) - m < B.length by omega))) (hSA _ (List.getElem_mem (show s - 1 - a < A.length by omega))) t1 h3
    exact hw.ntr _ _ _ (hSB _ (List.getElem_mem (show B1.length + j < B.length by omega))) (hSA _ (List.getElem_mem (show s - 1 - a < A.length by omega))) (hSA _ (List.getElem_mem (show i < A.length by omega))) t3 t2
   ·
    -- nothing of A is ahead, or nothing of B behind
    exfalso
    by_cases cm : mid < m
    ·
     have := hlh.2.2.2.2.1 cm; omega
    ·
     have := hlh.2.2.2.2.2 (by omega); omega
  have hII : ∀ y ∈ B1, ∀ x ∈ A2, lt y x = true := fun y hy x hx => by
   obtain ⟨i, hi1, rfl⟩ := List.mem_iff_getElem.1 hx
   obtain ⟨j, hj1, rfl⟩ := List.mem_iff_getElem.1 hy
   by_cases cs : s < hi
   ·
    have h4 := s4 s (Nat.le_refl _) cs
    rw [dif_pos ⟨by omega, cs⟩] at h4
    obtain ⟨w1, w2, w3, w4⟩ := hpl s (by omega) cs
    have h4 : lt (B[mid + m - 1 - s - m]'(by omega)) (A[s - a]'(by omega)) = true := by simpa using h4
    have t1 := srt_get hw sB hSB (i := j) (j := mid + m - 1 - s - m) (by omega) (by omega)
    have t2 := srt_get hw sA hSA (i := s - a) (j := A1.length + i) (by omega) (by omega)
    rw [gA2 i hi1, gB1 j hj1]
    have t3 := hw.tr (hSB _ (List.getElem_mem (show mid + m - 1 - s - m < B.length by omega))) (hSA _ (List.getElem_mem (show s - a < A.length by omega))) (hSA _ (List.getElem_mem (show A1.length + i < A.length by omega))) h4 t2
    cases hh : lt (B[j]'(by omega)) (A[A1.length + i]'(by omega)) with
    | true => rfl
    | false =>
     have := hw.ntr _ _ _ (hSB _ (List.getElem_mem (show mid + m - 1 - s - m < B.length by omega))) (hSB _ (List.getElem_mem (show j < B.length by omega))) (hSA _ (List.getElem_mem (show A1.length + i < A.length by omega))) t1 hh
     rw [t3] at this; cases this
   ·
    exfalso
    by_cases cm : mid < m
    ·
     have := hlh.2.2.2.2.1 cm; omega
    ·
     have := hlh.2.2.2.2.2 (by omega); omega
  have hSS : ∀ y ∈ (A1 ++ A2) ++ (B1 ++ B2), S y := by rw [← hAA, ← hBB]; exact hS
  have sA' : srt lt (A1 ++ A2) := by rw [← hAA]; exact sA
  have sB' : srt lt (B1 ++ B2) := by rw [← hBB]; exact sB
  have half1 : ∃ M1, Sd lt (A1 ++ B1) M1 ∧ ∀ (n : Nat), k ≤ n → (bif (decide ((a : Int) < (s : Int))) && (decide ((s : Int) < (mid : Int))) then (Option.bind (fixN slices_symMergeCmpFunc_int_body n (P ++ (A1 ++ (B1 ++ (A2 ++ (B2 ++ Q)))), (a : Int), (s : Int), (mid : Int), f)) fun r5 => some r5) else some (P ++ (A1 ++ (B1 ++ (A2 ++ (B2 ++ Q)))))) = some (P ++ (M1 ++ (A2 ++ (B2 ++ Q)))) := by
   by_cases c : A1 ≠ [] ∧ B1 ≠ []
   ·
    have x1 := List.length_pos_iff.2 c.1
    have x2 := List.length_pos_iff.2 c.2
    obtain ⟨M1, h1, h2⟩ := sym_merge hw k P A1 B1 (A2 ++ (B2 ++ Q)) (by omega) c.1 c.2 (fun z hz => hSS z (by rcases List.mem_append.1 hz with h | h <;> simp [h])) (srt_left sA') (srt_left sB') (by simp at hlen ⊢; omega)
    refine ⟨M1, h1, fun n hn => ?_⟩
    have e1 : ((decide ((a : Int) < (s : Int))) && (decide ((s : Int) < (mid : Int)))) = true := by simp; omega
    rw [e1]
    simp only [cond_true]
    have i1 : (a : Int) = (P.length : Int) := by omega
    have i2 : (s : Int) = ((P.length + A1.length : Nat) : Int) := by omega
    have i3 : (mid : Int) = ((P.length + A1.length + B1.length : Nat) : Int) := by omega
    rw [i1, i2, i3, h2 n hn]; rfl
   ·
    have c : A1 = [] ∨ B1 = [] := by
     by_cases c1 : A1 = []
     ·
      exact .inl c1
     ·
      by_cases c2 : B1 = []
      ·
       exact .inr c2
      ·
       exact absurd ⟨c1, c2⟩ c
    refine ⟨A1 ++ B1, ⟨List.Perm.refl _, ?_, fun _ h => h⟩, fun n hn => ?_⟩
    ·
     rcases c with c | c
     ·
      rw [c, List.nil_append]; exact srt_left sB'
     ·
      rw [c, List.append_nil]; exact srt_left sA'
    ·
     have e1 : ((decide ((a : Int) < (s : Int))) && (decide ((s : Int) < (mid : Int)))) = false := by
      rcases c with c | c
      ·
       have : A1.length = 0 := by rw [c]; rfl
       simp; omega
      ·
       have : B1.length = 0 := by rw [c]; rfl
       simp; omega
     rw [e1]; simp
  obtain ⟨M1, hM1, hm1⟩ := half1
  have hlM1 := hM1.len
  rw [List.length_append] at hlM1
  have half2 : ∃ M2, Sd lt (A2 ++ B2) M2 ∧ ∀ (n : Nat), k ≤ n → (bif (decide ((mid : Int) < ((mid + m - s : Nat) : Int))) && (decide (((mid + m - s : Nat) : Int) < (b : Int))) then (Option.bind (fixN slices_symMergeCmpFunc_int_body n (P ++ (M1 ++ (A2 ++ (B2 ++ Q))), (mid : Int), ((mid + m - s : Nat) : Int), (b : Int), f)) fun r6 => some r6) else some (P ++ (M1 ++ (A2 ++ (B2 ++ Q))))) = some (P ++ (M1 ++ (M2 ++ Q))) := by
   by_cases c : A2 ≠ [] ∧ B2 ≠ []
   ·
    have x1 := List.length_pos_iff.2 c.1
    have x2 := List.length_pos_iff.2 c.2
    obtain ⟨M2, h1, h2⟩ := sym_merge hw k (P ++ M1) A2 B2 Q (by omega) c.1 c.2 (fun z hz => hSS z (by rcases List.mem_append.1 hz with h | h <;> simp [h])) (srt_right sA') (srt_right sB') (by simp at hlen ⊢; omega)
    refine ⟨M2, h1, fun n hn => ?_⟩
    have e1 : ((decide ((mid : Int) < ((mid + m - s : Nat) : Int))) && (decide (((mid + m - s : Nat) : Int) < (b : Int)))) = true := by simp; omega
    rw [e1]
    simp only [cond_true]
    have i1 : (mid : Int) = ((P ++ M1).length : Int) := by simp; omega
    have i2 : ((mid + m - s : Nat) : Int) = (((P ++ M1).length + A2.length : Nat) : Int) := by simp; omega
    have i3 : (b : Int) = (((P ++ M1).length + A2.length + B2.length : Nat) : Int) := by simp; omega
    have hd : ∀ R : List Int, P ++ (M1 ++ R) = (P ++ M1) ++ R := fun R => by simp
    rw [i1, i2, i3, hd, h2 n hn]; simp
   ·
    have c : A2 = [] ∨ B2 = [] := by
     by_cases c1 : A2 = []
     ·
      exact .inl c1
     ·
      by_cases c2 : B2 = []
      ·
       exact .inr c2
      ·
       exact absurd ⟨c1, c2⟩ c
    refine ⟨A2 ++ B2, ⟨List.Perm.refl _, ?_, fun _ h => h⟩, fun n hn => ?_⟩
    ·
     rcases c with c | c
     ·
      rw [c, List.nil_append]; exact srt_right sB'
     ·
      rw [c, List.append_nil]; exact srt_right sA'
    ·
     have e1 : ((decide ((mid : Int) < ((mid + m - s : Nat) : Int))) && (decide (((mid + m - s : Nat) : Int) < (b : Int)))) = false := by
      rcases c with c | c
      ·
       have : A2.length = 0 := by rw [c]; rfl
       simp; omega
      ·
       have : B2.length = 0 := by rw [c]; rfl
       simp; omega
     rw [e1]; simp
  obtain ⟨M2, hM2, hm2⟩ := half2
  refine ⟨M1 ++ M2, by rw [hAA, hBB]; exact Sd.halves hw hSS sA' sB' hI hII hM1 hM2, fun n hn => ?_⟩
  obtain ⟨n, rfl⟩ : ∃ n', n = n' + 1 := ⟨n - 1, by omega⟩
  have hm1 := hm1 n (by omega)
  have hm2 := hm2 n (by omega)
  show slices_symMergeCmpFunc_int_body (fixN slices_symMergeCmpFunc_int_body n) _ = _
  generalize fixN slices_symMergeCmpFunc_int_body n = slf at hm1 hm2 ⊢
  unfold slices_symMergeCmpFunc_int_body
  have w1 : decide (W (((P.length + A.length : Nat) : Int) - (P.length : Int)) = 1) = false := by rw [Wk (by omega) (by omega), decide_eq_false_iff_not]; omega
  have w2 : decide (W (((P.length + A.length + B.length : Nat) : Int) - ((P.length + A.length : Nat) : Int)) = 1) = false := by rw [Wk (by omega) (by omega), decide_eq_false_iff_not]; omega
  simp only [w1, w2, cond_false, bindR_nx]
  rw [half_eq (by omega)]
  have i1 : (P.length : Int) = (a : Int) := by omega
  have i2 : ((P.length + A.length : Nat) : Int) = (m : Int) := by omega
  have i3 : ((P.length + A.length + B.length : Nat) : Int) = (b : Int) := by omega
  have i4 : (((P.length + (P.length + A.length + B.length)) / 2 : Nat) : Int) = (mid : Int) := by omega
  rw [i1, i2, i3] at s5
  simp only [bnd_eq, i1, i2, i3, i4]
  rw [Wk (n := (mid : Int) + (m : Int)) (by omega) (by omega)]
  have hnn : (mid : Int) + (m : Int) = ((mid + m : Nat) : Int) := by omega
  rw [hnn]
  have hsr : (bif decide ((mid : Int) < (m : Int)) then some (W (((mid + m : Nat) : Int) - (b : Int)), (mid : Int)) else some ((a : Int), (m : Int))) = some ((lo : Int), (hi : Int)) := by
   by_cases cm : mid < m
   ·
    have e : decide ((mid : Int) < (m : Int)) = true := by simp; omega
    have := hlh.2.2.2.2.1 cm
    rw [e, Wk (by omega) (by omega)]
    simp only [cond_true]
    congr 2 <;> omega
   ·
    have e : decide ((mid : Int) < (m : Int)) = false := by simp; omega
    have := hlh.2.2.2.2.2 (by omega)
    rw [e]
    simp only [cond_false]
    congr 2 <;> omega
  rw [hsr]
  simp only [bind_sm]
  rw [s5]
  simp only [bind_sm]
  rw [Wk (n := ((mid + m : Nat) : Int) - (s : Int)) (by omega) (by omega)]
  have hend : ((mid + m : Nat) : Int) - (s : Int) = ((mid + m - s : Nat) : Int) := by omega
  rw [hend]
  have hrot : (bif (decide ((s : Int) < (m : Int))) && (decide ((m : Int) < ((mid + m - s : Nat) : Int))) then (Option.bind (slices_rotateCmpFunc_int (P ++ (A ++ (B ++ Q))) (s : Int) (m : Int) ((mid + m - s : Nat) : Int) f) fun r4 => some r4) else some (P ++ (A ++ (B ++ Q)))) = some (P ++ (A1 ++ (B1 ++ (A2 ++ (B2 ++ Q))))) := by
   by_cases c : A2 ≠ [] ∧ B1 ≠ []
   ·
    have x1 := List.length_pos_iff.2 c.1
    have x2 := List.length_pos_iff.2 c.2
    have e1 : ((decide ((s : Int) < (m : Int))) && (decide ((m : Int) < ((mid + m - s : Nat) : Int)))) = true := by simp; omega
    rw [e1]
    simp only [cond_true]
    have hd : P ++ (A ++ (B ++ Q)) = (P ++ A1) ++ (A2 ++ (B1 ++ (B2 ++ Q))) := by rw [hAA, hBB]; simp
    have hr := rotate_eq (f := f) (P := P ++ A1) (X := A2) (Y := B1) (Q := B2 ++ Q) c.1 c.2 (by rw [← hd]; exact hlen)
    have j1 : ((P ++ A1).length : Int) = (s : Int) := by simp; omega
    have j2 : (((P ++ A1).length + A2.length : Nat) : Int) = (m : Int) := by simp; omega
    have j3 : (((P ++ A1).length + A2.length + B1.length : Nat) : Int) = ((mid + m - s : Nat) : Int) := by simp; omega
    rw [j1, j2, j3] at hr
    rw [hd, hr]; simp
   ·
    have c : A2 = [] ∨ B1 = [] := by
     by_cases c1 : A2 = []
     ·
      exact .inl c1
     ·
      by_cases c2 : B1 = []
      ·
       exact .inr c2
      ·
       exact absurd ⟨c1, c2⟩ c
    have e1 : ((decide ((s : Int) < (m : Int))) && (decide ((m : Int) < ((mid + m - s : Nat) : Int)))) = false := by
     rcases c with c | c
     ·
      have : A2.length = 0 := by rw [c]; rfl
      simp; omega
     ·
      have : B1.length = 0 := by rw [c]; rfl
      simp; omega
    rw [e1, hAA, hBB]
    rcases c with c | c <;> rw [c] <;> simp
  rw [hrot]
  simp only [bind_sm]
  rw [hm1]
  simp only [bind_sm]
  rw [hm2]
  simp
end
end
section
section
variable {S : Int → Prop} {lt : Int → Int → Bool} {f : Int → Int → Option Int}
theorem merge_call (hw : Swo S lt f) {P A B Q : List Int} (hA : A ≠ []) (hB : B ≠ []) (hS : ∀ z ∈ A ++ B, S z) (sA : srt lt A) (sB : srt lt B) (hlen : (P ++ (A ++ (B ++ Q))).length ≤ 1073741824) :
  ∃ M, Sd lt (A ++ B) M ∧ slices_symMergeCmpFunc_int (P ++ (A ++ (B ++ Q))) (P.length : Int) ((P.length + A.length : Nat) : Int) ((P.length + A.length + B.length : Nat) : Int) f = some (P ++ (M ++ Q)) := by
 obtain ⟨M, h1, h2⟩ := sym_merge hw (A.length + B.length) P A B Q (Nat.le_refl _) hA hB hS sA sB hlen
 exact ⟨M, h1, fixp_of _ h2⟩
theorem blocks_eq (hw : Swo S lt f) {D : List Int} (hS : ∀ x ∈ D, S x) (hlen : D.length ≤ 1000000000) :
  ∃ (P R : List Int), loop (slices_stableCmpFunc_int_L1 (D.length : Int) f) (0, 20, D) = some ((P.length : Int), P ++ R) ∧ BlF lt 20 P ∧ R.length ≤ 20 ∧ Pk lt D (P ++ R) := by
 obtain ⟨e, h1, P, R, rfl, h3, h4, h5⟩ := loop_inv (body := slices_stableCmpFunc_int_L1 (D.length : Int) f) (s0 := (0, 20, D)) (fun s => ∃ P R : List Int, s = ((P.length : Int), (P.length : Int) + 20, P ++ R) ∧ BlF lt 20 P ∧ Pk lt D (P ++ R)) (fun s => ((D.length : Int) + 20 - s.2.1).toNat)
  (fun e => ∃ P R : List Int, e = ((P.length : Int), P ++ R) ∧ BlF lt 20 P ∧ R.length ≤ 20 ∧ Pk lt D (P ++ R)) ⟨[], D, by simp, .nil, Pk.refl D⟩ (fun s hI => by
  obtain ⟨P, R, rfl, hP, hPk⟩ := hI
  have hl := hPk.len
  rw [List.length_append] at hl
  unfold slices_stableCmpFunc_int_L1
  simp only
  by_cases c : 20 ≤ R.length
  ·
   left
   have e1 : decide ((P.length : Int) + 20 ≤ (D.length : Int)) = true := by rw [decide_eq_true_eq]; omega
   obtain ⟨A, R', rfl, hA⟩ := cut c
   obtain ⟨M, m1, m2⟩ := ins_sort hw (P := P) (M := A) (Q := R') (fun x hx => hPk.all hS x (by simp [hx])) (by omega)
   have i2 : ((P.length + A.length : Nat) : Int) = (P.length : Int) + 20 := by omega
   rw [i2] at m2
   simp only [e1, cond_true]
   rw [m2]
   simp only [bind_sm, bnd_eq]
   rw [Wk (by omega) (by omega)]
   have hml := m1.len
   refine ⟨_, rfl, ⟨P ++ M, R', Prod.ext (by simp; omega) (Prod.ext (by simp; omega) (by simp)), .snoc hP (by omega) m1.srtd, ?_⟩, by simp only; omega⟩
   have := hPk.trans (m1.pk.mid P R')
   simpa using this
  ·
   right
   have e1 : decide ((P.length : Int) + 20 ≤ (D.length : Int)) = false := by rw [decide_eq_false_iff_not]; omega
   simp only [e1, cond_false]
   exact ⟨_, rfl, P, R, rfl, hP, by omega, hPk⟩)
 exact ⟨P, R, h1, h3, h4, h5⟩
theorem pass_eq (hw : Swo S lt f) {D : List Int} {b : Nat} (hb : 1 ≤ b) (hS : ∀ x ∈ D, S x) (hlen : D.length ≤ 1000000000) (hbn : b < D.length) (hD : Bl lt b D) {x7 : Int × List Int} (hx7 : x7.1 = (b : Int)) :
  ∃ (P R : List Int), loop (slices_stableCmpFunc_int_L3 (D.length : Int) x7 f) (0, 2 * (b : Int), D) = some ((P.length : Int), P ++ R) ∧ BlF lt (2 * b) P ∧ R.length < 2 * b ∧ Bl lt b R ∧ Pk lt D (P ++ R) := by
 obtain ⟨e, h1, P, R, rfl, h3, h4, h5, h6⟩ := loop_inv (body := slices_stableCmpFunc_int_L3 (D.length : Int) x7 f) (s0 := (0, 2 * (b : Int), D)) (fun s => ∃ P R : List Int, s = ((P.length : Int), (P.length : Int) + 2 * (b : Int), P ++ R) ∧ BlF lt (2 * b) P ∧ Bl lt b R ∧ Pk lt D (P ++ R)) (fun s => ((D.length : Int) + 2 * (b : Int) - s.2.1).toNat)
  (fun e => ∃ P R : List Int, e = ((P.length : Int), P ++ R) ∧ BlF lt (2 * b) P ∧ R.length < 2 * b ∧ Bl lt b R ∧ Pk lt D (P ++ R)) ⟨[], D, by simp, .nil, hD, Pk.refl D⟩ (fun s hI => by
  obtain ⟨P, R, rfl, hP, hR, hPk⟩ := hI
  have hl := hPk.len
  rw [List.length_append] at hl
  unfold slices_stableCmpFunc_int_L3
  simp only [hx7]
  by_cases c : 2 * b ≤ R.length
  ·
   left
   have e1 : decide ((P.length : Int) + 2 * (b : Int) ≤ (D.length : Int)) = true := by rw [decide_eq_true_eq]; omega
   obtain ⟨A, R1, rfl, hA, sA, hR1⟩ := hR.first (by omega)
   rw [List.length_append] at c hl
   obtain ⟨B, R', rfl, hB, sB, hR'⟩ := hR1.first (by omega)
   rw [List.length_append] at c hl
   obtain ⟨M, m1, m2⟩ := merge_call hw (P := P) (A := A) (B := B) (Q := R') (fun e => by have := congrArg List.length e; rw [List.length_nil] at this; omega) (fun e => by have := congrArg List.length e; rw [List.length_nil] at this; omega) (fun x hx => hPk.all hS x (by rcases List.mem_append.1 hx with h | h <;> simp [h])) sA sB (by simp; omega)
   have i2 : ((P.length + A.length : Nat) : Int) = (P.length : Int) + (b : Int) := by omega
   have i3 : ((P.length + A.length + B.length : Nat) : Int) = (P.length : Int) + 2 * (b : Int) := by omega
   rw [i2, i3] at m2
   simp only [e1, cond_true]
   rw [Wk (n := (P.length : Int) + (b : Int)) (by omega) (by omega), m2]
   simp only [bind_sm, bnd_eq]
   rw [Wk (n := 2 * (b : Int)) (by omega) (by omega), Wk (by omega) (by omega)]
   have hml := m1.len
   rw [List.length_append] at hml
   refine ⟨_, rfl, ⟨P ++ M, R', Prod.ext (by simp; omega) (Prod.ext (by simp; omega) (by simp)), .snoc hP (by omega) m1.srtd, hR', ?_⟩, by simp only; omega⟩
   have := hPk.trans (by have := m1.pk.mid P R'; simpa using this)
   simpa using this
  ·
   right
   have e1 : decide ((P.length : Int) + 2 * (b : Int) ≤ (D.length : Int)) = false := by rw [decide_eq_false_iff_not]; omega
   simp only [e1, cond_false]
   exact ⟨_, rfl, P, R, rfl, hP, by omega, hR, hPk⟩)
 exact ⟨P, R, h1, h3, h4, h5, h6⟩
theorem stable_eq (hw : Swo S lt f) {D : List Int} (hS : ∀ x ∈ D, S x) (hlen : D.length ≤ 100000000) : ∃ M, Sd lt D M ∧ slices_SortStableFunc_int D f = some M := by
 unfold slices_SortStableFunc_int slices_stableCmpFunc_int
 obtain ⟨P, R, h1, h2, h3, h4⟩ := blocks_eq hw hS (by omega)
 have hl := h4.len
 rw [List.length_append] at hl
 rw [h1]
 simp only [bind_sm]
 obtain ⟨R', r1, r2⟩ := ins_sort hw (P := P) (M := R) (Q := []) (fun x hx => h4.all hS x (by simp [hx])) (by omega)
 have i1 : ((P.length + R.length : Nat) : Int) = (D.length : Int) := by omega
 rw [i1] at r2
 simp only [List.append_nil] at r2
 rw [r2]
 simp only [bind_sm]
 have hB : Bl lt 20 (P ++ R') := h2.bl (.last (by rw [r1.len]; exact h3) r1.srtd)
 have hPk : Pk lt D (P ++ R') := h4.trans (by have := r1.pk.mid P []; simpa using this)
 obtain ⟨e, g1, g2⟩ := loop_inv (body := slices_stableCmpFunc_int_L2 (D.length : Int) f) (s0 := (20, P ++ R')) (fun s => ∃ (b : Nat) (E : List Int), s = ((b : Int), E) ∧ 1 ≤ b ∧ b ≤ 400000000 ∧ Bl lt b E ∧ Pk lt D E) (fun s => (2 * (D.length : Int) - s.1).toNat) (fun e => Sd lt D e)
  ⟨20, P ++ R', rfl, by omega, by omega, hB, hPk⟩ (fun s hI => by
  obtain ⟨b, E, rfl, b1, b2, hE, hk⟩ := hI
  have hlE := hk.len
  unfold slices_stableCmpFunc_int_L2
  simp only
  by_cases c : b < D.length
  ·
   left
   have e1 : decide ((b : Int) < (D.length : Int)) = true := by rw [decide_eq_true_eq]; omega
   simp only [e1, cond_true, bnd_eq]
   rw [Wk (n := 2 * (b : Int)) (by omega) (by omega)]
   obtain ⟨P2, R2, q1, q2, q3, q4, q5⟩ := pass_eq hw (x7 := ((b : Int), E)) b1 (hk.all hS) (by omega) (by omega) hE rfl
   rw [hlE] at q1
   have hl2 := q5.len
   rw [List.length_append] at hl2
   rw [q1]
   simp only [bind_sm]
   rw [Wk (n := (P2.length : Int) + (b : Int)) (by omega) (by omega), Wk (n := (b : Int) * 2) (by omega) (by omega)]
   have hb2 : (b : Int) * 2 = ((2 * b : Nat) : Int) := by omega
   by_cases c2 : b < R2.length
   ·
    have e2 : decide ((P2.length : Int) + (b : Int) < (D.length : Int)) = true := by rw [decide_eq_true_eq]; omega
    simp only [e2, cond_true]
    obtain ⟨A, B, rfl, hA, sA, hBl⟩ := q4.first (by omega)
    rw [List.length_append] at c2 q3 hl2
    have sB := hBl.all (by omega)
    obtain ⟨M, m1, m2⟩ := merge_call hw (P := P2) (A := A) (B := B) (Q := []) (fun e => by have := congrArg List.length e; rw [List.length_nil] at this; omega) (fun e => by have := congrArg List.length e; rw [List.length_nil] at this; omega) (fun x hx => q5.all (hk.all hS) x (List.mem_append_right _ hx)) sA sB (by simp; omega)
    have i2 : ((P2.length + A.length : Nat) : Int) = (P2.length : Int) + (b : Int) := by omega
    have i3 : ((P2.length + A.length + B.length : Nat) : Int) = (D.length : Int) := by omega
    rw [i2, i3] at m2
    simp only [List.append_nil] at m2
    rw [m2]
    simp only [bind_sm]
    have hml := m1.len
    rw [List.length_append] at hml
    refine ⟨_, rfl, ⟨2 * b, P2 ++ M, Prod.ext hb2 rfl, by omega, by omega, q2.bl (.last (by omega) m1.srtd), ?_⟩, by simp only; omega⟩
    exact (hk.trans q5).trans (by have := m1.pk.mid P2 []; simpa using this)
   ·
    have e2 : decide ((P2.length : Int) + (b : Int) < (D.length : Int)) = false := by rw [decide_eq_false_iff_not]; omega
    simp only [e2, cond_false, bind_sm]
    refine ⟨_, rfl, ⟨2 * b, P2 ++ R2, Prod.ext hb2 rfl, by omega, by omega, q2.bl (.last (by omega) (q4.all (by omega))), hk.trans q5⟩, by simp only; omega⟩
  ·
   right
   have e1 : decide ((b : Int) < (D.length : Int)) = false := by rw [decide_eq_false_iff_not]; omega
   simp only [e1, cond_false]
   exact ⟨_, rfl, hk.sd (hE.all (by omega))⟩)
 rw [g1]
 exact ⟨e, g2, rfl⟩
end
end
end Go.DB.Stbint
namespace Go.DB.Stbentry
open Go Go.RowKit Go.DB
section
section
variable {S : Ref_entry → Prop} {lt : Ref_entry → Ref_entry → Bool} {f : Ref_entry → Ref_entry → Option Int}
theorem ins_loop (hw : Swo S lt f) {P Q : List Ref_entry} {x : Ref_entry} (hx : S x) : ∀ (n : Nat) (L L2 : List Ref_entry), L.length = n → (∀ y ∈ L, S y) → P.length + n + L2.length ≤ 1073741824 → (∀ y ∈ L2, lt x y = true) →
  ∃ L1 L3, L = L1 ++ L3 ∧ (∀ y ∈ L3, lt x y = true) ∧ (∀ L0 y, L1 = L0 ++ [y] → lt x y = false) ∧
   loop (slices_insertionSortCmpFunc_entry_L2 (P.length : Int) f) (((P.length + n : Nat) : Int), P ++ (L ++ x :: (L2 ++ Q))) = some (P ++ (L1 ++ x :: (L3 ++ L2 ++ Q)))
 | 0, L, L2, hL, hS, hlen, h2 => by
  have : L = [] := List.length_eq_zero_iff.1 hL
  subst this
  refine ⟨[], [], rfl, by simp, fun L0 y h => by simp at h, ?_⟩
  rw [loop_eq]
  unfold slices_insertionSortCmpFunc_entry_L2
  have e1 : decide ((P.length : Int) < ((P.length + 0 : Nat) : Int)) = false := by simp
  simp only [e1, gd_false, bind_sm, Bool.false_and, cond_false]
  rw [need_of (by simp), need_of (by simp)]
  simp
 | n + 1, L, L2, hL, hS, hlen, h2 => by
  obtain ⟨L', y, rfl⟩ : ∃ L' y, L = L' ++ [y] := by
   rcases List.eq_nil_or_concat L with h | ⟨L', y, h⟩
   ·
    rw [h] at hL; simp at hL
   ·
    exact ⟨L', y, by rw [h, List.concat_eq_append]⟩
  have hL' : L'.length = n := by simpa using hL
  have hd : P ++ ((L' ++ [y]) ++ x :: (L2 ++ Q)) = (P ++ L') ++ y :: x :: (L2 ++ Q) := by simp
  rw [hd]
  have hj : (((P.length + (n + 1) : Nat) : Int)) = ((P ++ L').length : Int) + 1 := by simp; omega
  obtain ⟨g1, g2, g3, g4, g5, _⟩ := swap_app (U := P ++ L') (V := L2 ++ Q) (x := x) (y := y) hj
  obtain ⟨c, hc, hcl⟩ := hw.cmp x y hx (hS y (by simp))
  have e1 : decide ((P.length : Int) < ((P.length + (n + 1) : Nat) : Int)) = true := by rw [decide_eq_true_eq]; omega
  have ew : W (((P.length + (n + 1) : Nat) : Int) - 1) = ((P.length + (n + 1) : Nat) : Int) - 1 := Wk (by omega) (by omega)
  have hbody : slices_insertionSortCmpFunc_entry_L2 (P.length : Int) f (((P.length + (n + 1) : Nat) : Int), (P ++ L') ++ y :: x :: (L2 ++ Q)) =
    some (if lt x y = true then .again (((P.length + n : Nat) : Int), P ++ (L' ++ x :: ((y :: L2) ++ Q))) else .done ((P ++ L') ++ y :: x :: (L2 ++ Q))) := by
   unfold slices_insertionSortCmpFunc_entry_L2
   simp only [e1, ew, gd_true, Bool.true_and]
   rw [need_of (fun _ => g3), need_of (fun _ => g4), g1, g2, hc]
   simp only [bind_sm, hcl]
   cases hl : lt x y with
   | true =>
    simp only [cond_true, if_true, bnd_eq]
    have g6 : inR (((P ++ L') ++ y :: x :: (L2 ++ Q)).set (((P.length + (n + 1) : Nat) : Int)).toNat y) (((P.length + (n + 1) : Nat) : Int) - 1) := ⟨g4.1, by rw [List.length_set]; exact g4.2⟩
    rw [need_of g4, need_of g3, need_of g3, need_of g6, g5]
    congr 3
    ·
     omega
    ·
     simp
   | false => simp
  rw [loop_eq, hbody]
  cases hl : lt x y with
  | true =>
   simp only [if_true]
   obtain ⟨L1, L3, k1, k2, k3, k4⟩ := ins_loop hw (P := P) (Q := Q) hx n L' (y :: L2) hL' (fun z hz => hS z (by simp [hz])) (by simp; omega) (fun z hz => by
    rcases List.mem_cons.1 hz with rfl | hz
    ·
     exact hl
    ·
     exact h2 z hz)
   refine ⟨L1, L3 ++ [y], by rw [k1]; simp, fun z hz => ?_, k3, ?_⟩
   ·
    rcases List.mem_append.1 hz with hz | hz
    ·
     exact k2 z hz
    ·
     simp at hz; rw [hz]; exact hl
   ·
    rw [k4]; simp
  | false =>
   simp only [Bool.false_eq_true, if_false]
   refine ⟨L' ++ [y], [], by simp, by simp, fun L0 z h => ?_, by simp⟩
   have := List.append_inj' h (by simp)
   have e : y = z := by simpa using this.2
   rw [← e]; exact hl
theorem ins_sort (hw : Swo S lt f) {P M Q : List Ref_entry} (hS : ∀ x ∈ M, S x) (hlen : P.length + M.length ≤ 1073741824) :
  ∃ M', Sd lt M M' ∧ slices_insertionSortCmpFunc_entry (P ++ (M ++ Q)) (P.length : Int) ((P.length + M.length : Nat) : Int) f = some (P ++ (M' ++ Q)) := by
 unfold slices_insertionSortCmpFunc_entry
 simp only [bnd_eq]
 rw [Wk (n := (P.length : Int) + 1) (by omega) (by omega)]
 cases M with
 | nil =>
  refine ⟨[], Sd.refl srt_nil, ?_⟩
  rw [loop_eq]
  unfold slices_insertionSortCmpFunc_entry_L1
  have e1 : decide ((P.length : Int) + 1 < ((P.length + ([] : List Ref_entry).length : Nat) : Int)) = false := by simp; omega
  simp only [e1, cond_false]
 | cons z M0 =>
  obtain ⟨e, h1, h2⟩ := loop_inv (body := slices_insertionSortCmpFunc_entry_L1 (P.length : Int) ((P.length + (z :: M0).length : Nat) : Int) f) (s0 := ((P.length : Int) + 1, P ++ ((z :: M0) ++ Q)))
   (fun s => ∃ (A A' B : List Ref_entry), z :: M0 = A ++ B ∧ A ≠ [] ∧ Sd lt A A' ∧ s = (((P.length + A.length : Nat) : Int), P ++ (A' ++ (B ++ Q)))) (fun s => (((P.length + (z :: M0).length : Nat) : Int) - s.1).toNat) (fun e => ∃ M', Sd lt (z :: M0) M' ∧ e = P ++ (M' ++ Q))
   ⟨[z], [z], M0, rfl, by simp, Sd.refl (srt_one z), by simp⟩ (fun s hI => by
   obtain ⟨A, A', B, hM, hA0, hA, rfl⟩ := hI
   unfold slices_insertionSortCmpFunc_entry_L1
   have hlM : (z :: M0).length = A.length + B.length := by rw [hM, List.length_append]
   cases B with
   | nil =>
    right
    have e1 : decide (((P.length + A.length : Nat) : Int) < ((P.length + (z :: M0).length : Nat) : Int)) = false := by rw [hlM]; simp
    simp only [e1, cond_false]
    refine ⟨_, rfl, A', ?_, by simp⟩
    rw [hM, List.append_nil]; exact hA
   | cons x B' =>
    left
    have hlM' : (z :: M0).length = A.length + (B'.length + 1) := by rw [hlM]; rfl
    have e1 : decide (((P.length + A.length : Nat) : Int) < ((P.length + (z :: M0).length : Nat) : Int)) = true := by rw [decide_eq_true_eq]; omega
    simp only [e1, cond_true]
    have hSA : ∀ y ∈ A', S y := fun y hy => hS y (by rw [hM]; exact List.mem_append_left _ (hA.mem.1 hy))
    have hSx : S x := hS x (by rw [hM]; simp)
    obtain ⟨L1, L3, k1, k2, k3, k4⟩ := ins_loop hw (P := P) (Q := B' ++ Q) hSx A.length A' [] hA.len hSA (by simp; rw [hlM] at hlen; simp at hlen; omega) (by simp)
    have hd : P ++ (A' ++ ((x :: B') ++ Q)) = P ++ (A' ++ x :: ([] ++ (B' ++ Q))) := by simp
    rw [hd, k4]
    simp only [bind_sm, bnd_eq]
    rw [Wk (n := ((P.length + A.length : Nat) : Int) + 1) (by omega) (by omega)]
    have hins : Sd lt (A' ++ [x]) (L1 ++ x :: L3) := by
     rw [k1]
     refine Sd.insert hw (by rw [← k1]; exact hSA) hSx (by rw [← k1]; exact hA.srtd) (fun y hy => ?_) k2
     have hs := hA.srtd
     rw [k1] at hs
     rcases List.eq_nil_or_concat L1 with h | ⟨L0, w, h⟩
     ·
      rw [h] at hy; cases hy
     ·
      rw [List.concat_eq_append] at h
      have hw1 := k3 L0 w h
      rw [h] at hy
      rcases List.mem_append.1 hy with hy | hy
      ·
       have hs1 := srt_left hs
       unfold srt at hs1
       rw [h, List.pairwise_append] at hs1
       have := hs1.2.2 y hy w (by simp)
       exact hw.ntr x w y hSx (hSA w (by rw [k1, h]; simp)) (hSA y (by rw [k1, h]; simp [hy])) hw1 this
      ·
       simp at hy; rw [hy]; exact hw1
    refine ⟨_, rfl, ⟨A ++ [x], L1 ++ x :: L3, B', by rw [hM]; simp, by simp, ⟨?_, hins.srtd, fun tb h => ?_⟩, ?_⟩, by simp only; omega⟩
    ·
     exact hins.perm.trans (hA.perm.append_right [x])
    ·
     refine hins.kept tb ?_
     unfold kept2 at *
     rw [List.pairwise_append] at h ⊢
     exact ⟨hA.kept tb h.1, h.2.1, fun a ha b hb => h.2.2 a (hA.mem.1 ha) b hb⟩
    ·
     simp; omega)
  obtain ⟨M', h3, h4⟩ := h2
  exact ⟨M', h3, by rw [← h4, ← h1]⟩
theorem swap_range {P X Z Y Q : List Ref_entry} (hxy : X.length = Y.length) (hlen : (P ++ (X ++ (Z ++ (Y ++ Q)))).length ≤ 1073741824) :
  slices_swapRangeCmpFunc_entry (P ++ (X ++ (Z ++ (Y ++ Q)))) (P.length : Int) ((P.length + X.length + Z.length : Nat) : Int) (X.length : Int) f = some (P ++ (Y ++ (Z ++ (X ++ Q)))) := by
 unfold slices_swapRangeCmpFunc_entry
 obtain ⟨e, h1, h2⟩ := loop_inv (body := slices_swapRangeCmpFunc_entry_L1 (P.length : Int) ((P.length + X.length + Z.length : Nat) : Int) (X.length : Int)) (s0 := (0, P ++ (X ++ (Z ++ (Y ++ Q)))))
  (fun s => ∃ (X1 X2 Y1 Y2 : List Ref_entry), X = X1 ++ X2 ∧ Y = Y1 ++ Y2 ∧ X1.length = Y1.length ∧ s = ((X1.length : Int), P ++ (Y1 ++ (X2 ++ (Z ++ (X1 ++ (Y2 ++ Q))))))) (fun s => ((X.length : Int) - s.1).toNat) (fun e => e = P ++ (Y ++ (Z ++ (X ++ Q))))
  ⟨[], X, [], Y, rfl, rfl, rfl, by simp⟩ (fun s hI => by
  obtain ⟨X1, X2, Y1, Y2, hX, hY, h12, rfl⟩ := hI
  have lX : X.length = X1.length + X2.length := by rw [hX, List.length_append]
  have lY : Y.length = Y1.length + Y2.length := by rw [hY, List.length_append]
  simp only [List.length_append] at hlen
  unfold slices_swapRangeCmpFunc_entry_L1
  cases X2 with
  | nil =>
   right
   have e1 : decide ((X1.length : Int) < (X.length : Int)) = false := by rw [lX]; simp
   have hy2 : Y2 = [] := List.length_eq_zero_iff.1 (by simp at lX; omega)
   subst hy2
   simp only [e1, cond_false]
   refine ⟨_, rfl, ?_⟩
   rw [hX, hY]; simp
  | cons x X2' =>
   left
   obtain ⟨y, Y2', rfl⟩ : ∃ y Y2', Y2 = y :: Y2' := by
    cases Y2 with
    | nil => simp at lX lY; omega
    | cons y Y2' => exact ⟨y, Y2', rfl⟩
   simp only [List.length_cons] at lX lY
   have e1 : decide ((X1.length : Int) < (X.length : Int)) = true := by rw [decide_eq_true_eq]; omega
   simp only [e1, cond_true]
   rw [Wk (n := ((P.length + X.length + Z.length : Nat) : Int) + (X1.length : Int)) (by omega) (by omega), Wk (n := (P.length : Int) + (X1.length : Int)) (by omega) (by omega), Wk (n := (X1.length : Int) + 1) (by omega) (by omega)]
   have d1 : P ++ (Y1 ++ ((x :: X2') ++ (Z ++ (X1 ++ ((y :: Y2') ++ Q))))) = (P ++ Y1) ++ x :: (X2' ++ (Z ++ (X1 ++ ((y :: Y2') ++ Q)))) := by simp
   have d2 : ∀ v : Ref_entry, (P ++ Y1) ++ v :: (X2' ++ (Z ++ (X1 ++ ((y :: Y2') ++ Q)))) = (P ++ Y1 ++ v :: (X2' ++ (Z ++ X1))) ++ y :: (Y2' ++ Q) := fun v => by simp
   have i1 : ((P.length : Int) + (X1.length : Int)) = ((P ++ Y1).length : Int) := by simp; omega
   have i2 : ∀ v : Ref_entry, (((P.length + X.length + Z.length : Nat) : Int) + (X1.length : Int)) = ((P ++ Y1 ++ v :: (X2' ++ (Z ++ X1))).length : Int) := fun v => by simp; omega
   rw [d1]
   have r1 : inR ((P ++ Y1) ++ x :: (X2' ++ (Z ++ (X1 ++ ((y :: Y2') ++ Q))))) ((P.length : Int) + (X1.length : Int)) := inR_app i1
   have r2 : inR ((P ++ Y1) ++ x :: (X2' ++ (Z ++ (X1 ++ ((y :: Y2') ++ Q))))) (((P.length + X.length + Z.length : Nat) : Int) + (X1.length : Int)) := by rw [d2]; exact inR_app (i2 x)
   have v1 : gx ((P ++ Y1) ++ x :: (X2' ++ (Z ++ (X1 ++ ((y :: Y2') ++ Q))))) (((P.length + X.length + Z.length : Nat) : Int) + (X1.length : Int)) = y := by rw [d2]; exact gx_app (i2 x)
   have v2 : gx ((P ++ Y1) ++ x :: (X2' ++ (Z ++ (X1 ++ ((y :: Y2') ++ Q))))) ((P.length : Int) + (X1.length : Int)) = x := gx_app i1
   rw [need_of r2, v1]
   simp only [bnd_eq]
   rw [need_of r1, v2, need_of r1, set_app (by omega)]
   have r3 : inR ((P ++ Y1) ++ y :: (X2' ++ (Z ++ (X1 ++ ((y :: Y2') ++ Q))))) (((P.length + X.length + Z.length : Nat) : Int) + (X1.length : Int)) := by rw [d2]; exact inR_app (i2 y)
   rw [need_of r3, d2, set_app (by have := i2 y; omega)]
   refine ⟨_, rfl, ⟨X1 ++ [x], X2', Y1 ++ [y], Y2', by rw [hX]; simp, by rw [hY]; simp, by simp; omega, ?_⟩, by simp only; omega⟩
   simp)
 rw [h1, h2]
theorem rotate_eq {P X Y Q : List Ref_entry} (hX : X ≠ []) (hY : Y ≠ []) (hlen : (P ++ (X ++ (Y ++ Q))).length ≤ 1073741824) :
  slices_rotateCmpFunc_entry (P ++ (X ++ (Y ++ Q))) (P.length : Int) ((P.length + X.length : Nat) : Int) ((P.length + X.length + Y.length : Nat) : Int) f = some (P ++ (Y ++ (X ++ Q))) := by
 unfold slices_rotateCmpFunc_entry
 simp only [bnd_eq]
 have hl2 : P.length + X.length + Y.length ≤ 1073741824 := by simp at hlen; omega
 rw [Wk (n := ((P.length + X.length : Nat) : Int) - (P.length : Int)) (by omega) (by omega), Wk (n := ((P.length + X.length + Y.length : Nat) : Int) - ((P.length + X.length : Nat) : Int)) (by omega) (by omega)]
 obtain ⟨e, h1, P', X', Y', Q', e1, e2, e3, e4, e5⟩ := loop_inv (body := slices_rotateCmpFunc_entry_L1 ((P.length + X.length : Nat) : Int) f) (s0 := (((P.length + X.length : Nat) : Int) - (P.length : Int), ((P.length + X.length + Y.length : Nat) : Int) - ((P.length + X.length : Nat) : Int), P ++ (X ++ (Y ++ Q))))
  (fun s => ∃ P' X' Y' Q' : List Ref_entry, X' ≠ [] ∧ Y' ≠ [] ∧ s = ((X'.length : Int), (Y'.length : Int), P' ++ (X' ++ (Y' ++ Q'))) ∧ P'.length + X'.length = P.length + X.length ∧ P' ++ (Y' ++ (X' ++ Q')) = P ++ (Y ++ (X ++ Q)))
  (fun s => (s.1 + s.2.1).toNat) (fun e => ∃ P' X' Y' Q' : List Ref_entry, X'.length = Y'.length ∧ X' ≠ [] ∧ e = ((X'.length : Int), P' ++ (X' ++ (Y' ++ Q'))) ∧ P'.length + X'.length = P.length + X.length ∧ P' ++ (Y' ++ (X' ++ Q')) = P ++ (Y ++ (X ++ Q)))
  ⟨P, X, Y, Q, hX, hY, Prod.ext (by simp only; omega) (Prod.ext (by simp only; omega) rfl), rfl, rfl⟩ (fun s hI => by
  obtain ⟨P', X', Y', Q', x0, y0, rfl, hm, ht⟩ := hI
  have hx0 := List.length_pos_iff.2 x0
  have hy0 := List.length_pos_iff.2 y0
  have hlt : (P' ++ (X' ++ (Y' ++ Q'))).length ≤ 1073741824 := by
   have := congrArg List.length ht
   simp only [List.length_append] at this hlen ⊢; omega
  unfold slices_rotateCmpFunc_entry_L1
  simp only
  by_cases c : X'.length = Y'.length
  ·
   right
   have d1 : (!decide ((X'.length : Int) = (Y'.length : Int))) = false := by simp; omega
   simp only [d1, cond_false]
   exact ⟨_, rfl, P', X', Y', Q', c, x0, rfl, hm, ht⟩
  ·
   left
   have d1 : (!decide ((X'.length : Int) = (Y'.length : Int))) = true := by simp; omega
   simp only [d1, cond_true]
   have hl3 : P'.length + X'.length + Y'.length ≤ 1073741824 := by simp at hlt; omega
   have ew : W (((P.length + X.length : Nat) : Int) - (X'.length : Int)) = (P'.length : Int) := by rw [Wk (by omega) (by omega)]; omega
   rw [ew]
   by_cases c2 : Y'.length < X'.length
   ·
    have d2 : decide ((Y'.length : Int) < (X'.length : Int)) = true := by simp; omega
    simp only [d2, cond_true]
    obtain ⟨X1, X2, rfl, hx1⟩ := cut (A := X') (n := Y'.length) (by omega)
    have hsw := swap_range (f := f) (P := P') (X := X1) (Z := X2) (Y := Y') (Q := Q') hx1 (by simpa using hlt)
    have hd : P' ++ ((X1 ++ X2) ++ (Y' ++ Q')) = P' ++ (X1 ++ (X2 ++ (Y' ++ Q'))) := by simp
    have hmm : ((P.length + X.length : Nat) : Int) = ((P'.length + X1.length + X2.length : Nat) : Int) := by simp at hm; omega
    have hl12 : (X1 ++ X2).length = X1.length + X2.length := List.length_append
    rw [hd, hmm, ← hx1, hsw]
    simp only [bind_sm, bnd_eq]
    rw [Wk (by omega) (by omega)]
    refine ⟨_, rfl, ⟨P' ++ Y', X2, X1, Q', fun e => by have := congrArg List.length e; rw [List.length_nil] at this; omega, fun e => by have := congrArg List.length e; rw [List.length_nil] at this; omega, ?_, by rw [List.length_append]; omega, ?_⟩, by simp only; omega⟩
    ·
     exact Prod.ext (by simp only; omega) (Prod.ext rfl (by simp))
    ·
     rw [← ht]; simp
   ·
    have d2 : decide ((Y'.length : Int) < (X'.length : Int)) = false := by simp; omega
    simp only [d2, cond_false]
    obtain ⟨Y1, Y2, rfl, hy1⟩ := cut (A := Y') (n := Y'.length - X'.length) (by omega)
    have hl12 : (Y1 ++ Y2).length = Y1.length + Y2.length := List.length_append
    have hy2 : X'.length = Y2.length := by omega
    have hsw := swap_range (f := f) (P := P') (X := X') (Z := Y1) (Y := Y2) (Q := Q') hy2 (by simpa using hlt)
    have hd : P' ++ (X' ++ ((Y1 ++ Y2) ++ Q')) = P' ++ (X' ++ (Y1 ++ (Y2 ++ Q'))) := by simp
    have hmm : W (W (((P.length + X.length : Nat) : Int) + ((Y1 ++ Y2).length : Int)) - (X'.length : Int)) = ((P'.length + X'.length + Y1.length : Nat) : Int) := by
     rw [Wk (n := ((P.length + X.length : Nat) : Int) + ((Y1 ++ Y2).length : Int)) (by omega) (by omega), Wk (by omega) (by omega)]; omega
    rw [hd, hmm, hsw]
    simp only [bind_sm, bnd_eq]
    rw [Wk (by omega) (by omega)]
    refine ⟨_, rfl, ⟨P', Y2, Y1, X' ++ Q', fun e => by have := congrArg List.length e; rw [List.length_nil] at this; omega, fun e => by have := congrArg List.length e; rw [List.length_nil] at this; omega, ?_, by omega, ?_⟩, by simp only; omega⟩
    ·
     exact Prod.ext (by simp only; omega) (Prod.ext (by simp only; omega) (by simp))
    ·
     rw [← ht]; simp)
 rw [h1]
 simp only [bind_sm]
 subst e3
 simp only
 have hlt : (P' ++ (X' ++ (Y' ++ Q'))).length ≤ 1073741824 := by
  have := congrArg List.length e5
  simp only [List.length_append] at this hlen ⊢; omega
 have hl3 : P'.length + X'.length + Y'.length ≤ 1073741824 := by simp at hlt; omega
 have ew : W (((P.length + X.length : Nat) : Int) - (X'.length : Int)) = (P'.length : Int) := by rw [Wk (by omega) (by omega)]; omega
 have hsw := swap_range (f := f) (P := P') (X := X') (Z := []) (Y := Y') (Q := Q') e1 (by simpa using hlt)
 have hmm : ((P.length + X.length : Nat) : Int) = ((P'.length + X'.length + ([] : List Ref_entry).length : Nat) : Int) := by simp; omega
 rw [ew, hmm]
 simp only [List.nil_append] at hsw
 rw [hsw, e5]
 rfl
end
end
section
section
variable {S : Ref_entry → Prop} {lt : Ref_entry → Ref_entry → Bool} {f : Ref_entry → Ref_entry → Option Int}
theorem right_loop {P L Q : List Ref_entry} {x : Ref_entry} {e : Int} (he : e = ((P.length + L.length + 1 : Nat) : Int)) (hlen : P.length + L.length + 1 ≤ 1073741824) :
  loop (slices_symMergeCmpFunc_entry_L2 e) ((P.length : Int), P ++ (x :: (L ++ Q))) = some (P ++ (L ++ x :: Q)) := by
 obtain ⟨r, h1, h2⟩ := loop_inv (body := slices_symMergeCmpFunc_entry_L2 e) (s0 := ((P.length : Int), P ++ (x :: (L ++ Q)))) (fun s => ∃ L1 L2, L = L1 ++ L2 ∧ s = (((P.length + L1.length : Nat) : Int), P ++ (L1 ++ x :: (L2 ++ Q))))
  (fun s => (e - s.1).toNat) (fun r => r = P ++ (L ++ x :: Q)) ⟨[], L, rfl, by simp⟩ (fun s hI => by
  obtain ⟨L1, L2, hL, rfl⟩ := hI
  have lL : L.length = L1.length + L2.length := by rw [hL, List.length_append]
  unfold slices_symMergeCmpFunc_entry_L2
  simp only
  rw [Wk (n := e - 1) (by omega) (by omega), Wk (n := ((P.length + L1.length : Nat) : Int) + 1) (by omega) (by omega)]
  cases L2 with
  | nil =>
   right
   have e1 : decide (((P.length + L1.length : Nat) : Int) < e - 1) = false := by rw [decide_eq_false_iff_not]; simp at lL; omega
   simp only [e1, cond_false]
   exact ⟨_, rfl, by rw [hL]; simp⟩
  | cons y L2' =>
   left
   simp only [List.length_cons] at lL
   have e1 : decide (((P.length + L1.length : Nat) : Int) < e - 1) = true := by rw [decide_eq_true_eq]; omega
   simp only [e1, cond_true]
   have hd : P ++ (L1 ++ x :: ((y :: L2') ++ Q)) = (P ++ L1) ++ x :: y :: (L2' ++ Q) := by simp
   obtain ⟨g1, g2, g3, g4, _, g6⟩ := swap_app (U := P ++ L1) (V := L2' ++ Q) (x := y) (y := x) (j := ((P.length + L1.length : Nat) : Int) + 1) (by simp)
   have ej : ((P.length + L1.length : Nat) : Int) + 1 - 1 = ((P.length + L1.length : Nat) : Int) := by omega
   rw [ej] at g2 g4 g6
   rw [hd, need_of g3, g1]
   simp only [bnd_eq]
   have g7 : inR (((P ++ L1) ++ x :: y :: (L2' ++ Q)).set (((P.length + L1.length : Nat) : Int)).toNat y) (((P.length + L1.length : Nat) : Int) + 1) := ⟨g3.1, by rw [List.length_set]; exact g3.2⟩
   rw [need_of g4, g2, need_of g4, need_of g7, g6]
   refine ⟨_, rfl, ⟨L1 ++ [y], L2', by rw [hL]; simp, Prod.ext (by simp; omega) (by simp)⟩, by simp only; omega⟩)
 rw [h1, h2]
theorem left_loop {P L Q : List Ref_entry} {x : Ref_entry} (hlen : P.length + L.length + 1 ≤ 1073741824) :
  loop (slices_symMergeCmpFunc_entry_L4 (P.length : Int)) (((P.length + L.length : Nat) : Int), P ++ (L ++ x :: Q)) = some (P ++ (x :: (L ++ Q))) := by
 obtain ⟨r, h1, h2⟩ := loop_inv (body := slices_symMergeCmpFunc_entry_L4 (P.length : Int)) (s0 := (((P.length + L.length : Nat) : Int), P ++ (L ++ x :: Q))) (fun s => ∃ L1 L2, L = L1 ++ L2 ∧ s = (((P.length + L1.length : Nat) : Int), P ++ (L1 ++ x :: (L2 ++ Q))))
  (fun s => (s.1 - P.length).toNat) (fun r => r = P ++ (x :: (L ++ Q))) ⟨L, [], by simp, by simp⟩ (fun s hI => by
  obtain ⟨L1, L2, hL, rfl⟩ := hI
  have lL : L.length = L1.length + L2.length := by rw [hL, List.length_append]
  unfold slices_symMergeCmpFunc_entry_L4
  simp only
  rw [Wk (n := ((P.length + L1.length : Nat) : Int) - 1) (by omega) (by omega)]
  rcases List.eq_nil_or_concat L1 with h | ⟨L1', y, h⟩
  ·
   right
   subst h
   have e1 : decide ((P.length : Int) < ((P.length + ([] : List Ref_entry).length : Nat) : Int)) = false := by simp
   simp only [e1, cond_false]
   exact ⟨_, rfl, by rw [hL]; simp⟩
  ·
   left
   rw [List.concat_eq_append] at h
   subst h
   have hl1 : (L1' ++ [y]).length = L1'.length + 1 := by simp
   have e1 : decide ((P.length : Int) < ((P.length + (L1' ++ [y]).length : Nat) : Int)) = true := by rw [decide_eq_true_eq]; omega
   simp only [e1, cond_true]
   have hd : P ++ ((L1' ++ [y]) ++ x :: (L2 ++ Q)) = (P ++ L1') ++ y :: x :: (L2 ++ Q) := by simp
   obtain ⟨g1, g2, g3, g4, g5, _⟩ := swap_app (U := P ++ L1') (V := L2 ++ Q) (x := x) (y := y) (j := ((P.length + (L1' ++ [y]).length : Nat) : Int)) (by simp; omega)
   rw [hd, need_of g4, g2]
   simp only [bnd_eq]
   have g7 : inR (((P ++ L1') ++ y :: x :: (L2 ++ Q)).set (((P.length + (L1' ++ [y]).length : Nat) : Int)).toNat y) (((P.length + (L1' ++ [y]).length : Nat) : Int) - 1) := ⟨g4.1, by rw [List.length_set]; exact g4.2⟩
   rw [need_of g3, g1, need_of g3, need_of g7, g5]
   refine ⟨_, rfl, ⟨L1', y :: L2, by rw [hL]; simp, Prod.ext (by simp only; omega) (by simp)⟩, by simp only; omega⟩)
 rw [h1, h2]
theorem srt_get (hw : Swo S lt f) {A : List Ref_entry} (h : srt lt A) (hS : ∀ x ∈ A, S x) {i j : Nat} (hj : j < A.length) (hij : i ≤ j) : lt A[j] (A[i]'(by omega)) = false := by
 by_cases e : i = j
 ·
  subst e; exact hw.irr (hS _ (List.getElem_mem _))
 ·
  unfold srt at h
  rw [List.pairwise_iff_getElem] at h
  exact h i j (by omega) hj (by omega)
theorem merge_first (hw : Swo S lt f) {P B Q : List Ref_entry} {x : Ref_entry} (hB : B ≠ []) (hS : ∀ y ∈ x :: B, S y) (hs : srt lt B) (hlen : P.length + 1 + B.length ≤ 1073741824) :
  ∃ M, Sd lt (x :: B) M ∧ ∀ n, fixN slices_symMergeCmpFunc_entry_body (n + 1) (P ++ (x :: (B ++ Q)), (P.length : Int), ((P.length + 1 : Nat) : Int), ((P.length + 1 + B.length : Nat) : Int), f) = some (P ++ (M ++ Q)) := by
 have hx : S x := hS x (by simp)
 have hSB : ∀ y ∈ B, S y := fun y hy => hS y (by simp [hy])
 obtain ⟨s, s1, s2, s3, s4, s5⟩ := bsearch (body := slices_symMergeCmpFunc_entry_L1 (P ++ (x :: (B ++ Q)), (P.length : Int), ((P.length + 1 : Nat) : Int), ((P.length + 1 + B.length : Nat) : Int), f)) (fun h => if hh : P.length + 1 ≤ h ∧ h < P.length + 1 + B.length then lt (B[h - (P.length + 1)]'(by omega)) x else false) (lo := P.length + 1) (hi := P.length + 1 + B.length) (by omega)
  (fun i j i1 i2 i3 => by
   unfold slices_symMergeCmpFunc_entry_L1
   have e1 : decide ((i : Int) < (j : Int)) = true := by rw [decide_eq_true_eq]; omega
   simp only [e1, cond_true]
   rw [half_eq (by omega)]
   simp only [bnd_eq]
   have hk : (i + j) / 2 - (P.length + 1) < B.length := by omega
   have hd : P ++ (x :: (B ++ Q)) = (P ++ [x]) ++ (B ++ Q) := by simp
   have hg1 : gx (P ++ (x :: (B ++ Q))) (((i + j) / 2 : Nat) : Int) = B[(i + j) / 2 - (P.length + 1)] := by rw [hd]; exact gx_part hk (by simp; omega)
   have hr1 : inR (P ++ (x :: (B ++ Q))) (((i + j) / 2 : Nat) : Int) := by rw [hd]; exact inR_part hk (by simp; omega)
   have hg2 : gx (P ++ (x :: (B ++ Q))) (P.length : Int) = x := gx_app rfl
   have hr2 : inR (P ++ (x :: (B ++ Q))) (P.length : Int) := inR_app rfl
   obtain ⟨c, hc, hcl⟩ := hw.cmp (B[(i + j) / 2 - (P.length + 1)]) x (hSB _ (List.getElem_mem _)) hx
   rw [need_of hr1, need_of hr2, hg1, hg2, hc]
   simp only [bind_sm, hcl]
   rw [dif_pos ⟨by omega, by omega⟩]
   rw [Wk (n := (((i + j) / 2 : Nat) : Int) + 1) (by omega) (by omega)]
   cases lt (B[(i + j) / 2 - (P.length + 1)]) x <;> simp)
  (fun i i1 i2 => by
   unfold slices_symMergeCmpFunc_entry_L1
   have e1 : decide ((i : Int) < (i : Int)) = false := by simp
   simp only [e1, cond_false])
  (fun h k h1 h2 h3 hp => by
   rw [dif_pos ⟨by omega, h3⟩] at hp
   rw [dif_pos ⟨h1, by omega⟩]
   have hsrt := srt_get hw hs hSB (i := h - (P.length + 1)) (j := k - (P.length + 1)) (by omega) (by omega)
   cases hh : lt (B[h - (P.length + 1)]) x with
   | true => rfl
   | false =>
    have := hw.ntr _ _ _ (hSB _ (List.getElem_mem (show k - (P.length + 1) < B.length by omega))) (hSB _ (List.getElem_mem (show h - (P.length + 1) < B.length by omega))) hx hsrt hh
    rw [hp] at this; cases this)
 obtain ⟨B1, B2, hBB, hB1⟩ := cut (A := B) (n := s - (P.length + 1)) (by omega)
 have hlB : B.length = B1.length + B2.length := by rw [hBB, List.length_append]
 have hb1 : ∀ y ∈ B1, lt y x = true := fun y hy => by
  obtain ⟨i, hi, rfl⟩ := List.mem_iff_getElem.1 hy
  have := s3 (P.length + 1 + i) (by omega) (by omega)
  rw [dif_pos ⟨by omega, by omega⟩] at this
  have e : B[P.length + 1 + i - (P.length + 1)]'(by omega) = B1[i] := by simp only [hBB]; rw [List.getElem_append_left (by omega)]; congr 1; omega
  rwa [e] at this
 have hb2 : ∀ y ∈ B2, lt y x = false := fun y hy => by
  obtain ⟨i, hi, rfl⟩ := List.mem_iff_getElem.1 hy
  have := s4 (s + i) (by omega) (by omega)
  rw [dif_pos ⟨by omega, by omega⟩] at this
  have e : B[s + i - (P.length + 1)]'(by omega) = B2[i] := by simp only [hBB]; rw [List.getElem_append_right (by omega)]; congr 1; omega
  rwa [e] at this
 refine ⟨B1 ++ x :: B2, by rw [hBB]; exact Sd.insertF hw (by rw [← hBB]; exact hSB) hx (by rw [← hBB]; exact hs) hb1 hb2, fun n => ?_⟩
 show slices_symMergeCmpFunc_entry_body (fixN slices_symMergeCmpFunc_entry_body n) _ = _
 generalize fixN slices_symMergeCmpFunc_entry_body n = slf
 unfold slices_symMergeCmpFunc_entry_body
 have e1 : decide (W (((P.length + 1 : Nat) : Int) - (P.length : Int)) = 1) = true := by rw [Wk (by omega) (by omega), decide_eq_true_eq]; omega
 simp only [e1, cond_true, s5, bind_sm]
 have hr := right_loop (P := P) (L := B1) (Q := B2 ++ Q) (x := x) (e := (s : Int)) (by omega) (by omega)
 have hd : P ++ (x :: (B ++ Q)) = P ++ (x :: (B1 ++ (B2 ++ Q))) := by rw [hBB]; simp
 rw [hd, hr]
 simp
theorem merge_last (hw : Swo S lt f) {P A Q : List Ref_entry} {y : Ref_entry} (hA : 2 ≤ A.length) (hS : ∀ z ∈ A ++ [y], S z) (hs : srt lt A) (hlen : P.length + A.length + 1 ≤ 1073741824) :
  ∃ M, Sd lt (A ++ [y]) M ∧ ∀ n, fixN slices_symMergeCmpFunc_entry_body (n + 1) (P ++ (A ++ y :: Q), (P.length : Int), ((P.length + A.length : Nat) : Int), ((P.length + A.length + 1 : Nat) : Int), f) = some (P ++ (M ++ Q)) := by
 have hy : S y := hS y (by simp)
 have hSA : ∀ z ∈ A, S z := fun z hz => hS z (by simp [hz])
 obtain ⟨s, s1, s2, s3, s4, s5⟩ := bsearch (body := slices_symMergeCmpFunc_entry_L3 (P ++ (A ++ y :: Q), (P.length : Int), ((P.length + A.length : Nat) : Int), ((P.length + A.length + 1 : Nat) : Int), f)) (fun h => if hh : P.length ≤ h ∧ h < P.length + A.length then !lt y (A[h - P.length]'(by omega)) else false) (lo := P.length) (hi := P.length + A.length) (by omega)
  (fun i j i1 i2 i3 => by
   unfold slices_symMergeCmpFunc_entry_L3
   have e1 : decide ((i : Int) < (j : Int)) = true := by rw [decide_eq_true_eq]; omega
   simp only [e1, cond_true]
   rw [half_eq (by omega)]
   simp only [bnd_eq]
   have hk : (i + j) / 2 - P.length < A.length := by omega
   have hg1 : gx (P ++ (A ++ y :: Q)) (((i + j) / 2 : Nat) : Int) = A[(i + j) / 2 - P.length] := gx_part hk (by omega)
   have hr1 : inR (P ++ (A ++ y :: Q)) (((i + j) / 2 : Nat) : Int) := inR_part hk (by omega)
   have hd : P ++ (A ++ y :: Q) = (P ++ A) ++ y :: Q := by simp
   have hg2 : gx (P ++ (A ++ y :: Q)) ((P.length + A.length : Nat) : Int) = y := by rw [hd]; exact gx_app (by simp)
   have hr2 : inR (P ++ (A ++ y :: Q)) ((P.length + A.length : Nat) : Int) := by rw [hd]; exact inR_app (by simp)
   obtain ⟨c, hc, hcl⟩ := hw.cmp y (A[(i + j) / 2 - P.length]) hy (hSA _ (List.getElem_mem _))
   rw [need_of hr2, need_of hr1, hg1, hg2, hc]
   simp only [bind_sm, hcl]
   rw [dif_pos ⟨by omega, by omega⟩]
   rw [Wk (n := (((i + j) / 2 : Nat) : Int) + 1) (by omega) (by omega)]
   cases lt y (A[(i + j) / 2 - P.length]) <;> simp)
  (fun i i1 i2 => by
   unfold slices_symMergeCmpFunc_entry_L3
   have e1 : decide ((i : Int) < (i : Int)) = false := by simp
   simp only [e1, cond_false])
  (fun h k h1 h2 h3 hp => by
   rw [dif_pos ⟨by omega, h3⟩] at hp
   rw [dif_pos ⟨h1, by omega⟩]
   have hsrt := srt_get hw hs hSA (i := h - P.length) (j := k - P.length) (by omega) (by omega)
   simp only [Bool.not_eq_true'] at hp ⊢
   exact hw.ntr _ _ _ hy (hSA _ (List.getElem_mem (show k - P.length < A.length by omega))) (hSA _ (List.getElem_mem (show h - P.length < A.length by omega))) hp hsrt)
 obtain ⟨A1, A2, hAA, hA1⟩ := cut (A := A) (n := s - P.length) (by omega)
 have hlA : A.length = A1.length + A2.length := by rw [hAA, List.length_append]
 have ha1 : ∀ z ∈ A1, lt y z = false := fun z hz => by
  obtain ⟨i, hi, rfl⟩ := List.mem_iff_getElem.1 hz
  have := s3 (P.length + i) (by omega) (by omega)
  rw [dif_pos ⟨by omega, by omega⟩] at this
  have e : A[P.length + i - P.length]'(by omega) = A1[i] := by simp only [hAA]; rw [List.getElem_append_left (by omega)]; congr 1; omega
  rw [e] at this; simpa using this
 have ha2 : ∀ z ∈ A2, lt y z = true := fun z hz => by
  obtain ⟨i, hi, rfl⟩ := List.mem_iff_getElem.1 hz
  have := s4 (s + i) (by omega) (by omega)
  rw [dif_pos ⟨by omega, by omega⟩] at this
  have e : A[s + i - P.length]'(by omega) = A2[i] := by simp only [hAA]; rw [List.getElem_append_right (by omega)]; congr 1; omega
  rw [e] at this; simpa using this
 refine ⟨A1 ++ y :: A2, by rw [hAA]; exact Sd.insert hw (by rw [← hAA]; exact hSA) hy (by rw [← hAA]; exact hs) ha1 ha2, fun n => ?_⟩
 show slices_symMergeCmpFunc_entry_body (fixN slices_symMergeCmpFunc_entry_body n) _ = _
 generalize fixN slices_symMergeCmpFunc_entry_body n = slf
 unfold slices_symMergeCmpFunc_entry_body
 have e1 : decide (W (((P.length + A.length : Nat) : Int) - (P.length : Int)) = 1) = false := by rw [Wk (by omega) (by omega), decide_eq_false_iff_not]; omega
 have e2 : decide (W (((P.length + A.length + 1 : Nat) : Int) - ((P.length + A.length : Nat) : Int)) = 1) = true := by rw [Wk (by omega) (by omega), decide_eq_true_eq]; omega
 simp only [e1, e2, cond_true, cond_false, s5, bind_sm, bindR_nx]
 have hr := left_loop (P := P ++ A1) (L := A2) (Q := Q) (x := y) (by simp; omega)
 have hd : P ++ (A ++ y :: Q) = (P ++ A1) ++ (A2 ++ y :: Q) := by rw [hAA]; simp
 have hp1 : ((P ++ A1).length : Int) = (s : Int) := by simp; omega
 have hp2 : (((P ++ A1).length + A2.length : Nat) : Int) = ((P.length + A.length : Nat) : Int) := by simp; omega
 rw [hp1, hp2] at hr
 rw [hd, hr]
 simp
theorem sym_merge (hw : Swo S lt f) : ∀ (k : Nat) (P A B Q : List Ref_entry), A.length + B.length ≤ k → A ≠ [] → B ≠ [] → (∀ z ∈ A ++ B, S z) → srt lt A → srt lt B → (P ++ (A ++ (B ++ Q))).length ≤ 1073741824 →
  ∃ M, Sd lt (A ++ B) M ∧ ∀ n, k ≤ n → fixN slices_symMergeCmpFunc_entry_body n (P ++ (A ++ (B ++ Q)), (P.length : Int), ((P.length + A.length : Nat) : Int), ((P.length + A.length + B.length : Nat) : Int), f) = some (P ++ (M ++ Q))
 | 0, P, A, B, Q, hk, hA, hB, hS, sA, sB, hlen => by
  have := List.length_pos_iff.2 hA; omega
 | k + 1, P, A, B, Q, hk, hA, hB, hS, sA, sB, hlen => by
  have hA0 := List.length_pos_iff.2 hA
  have hB0 := List.length_pos_iff.2 hB
  have hl3 : P.length + A.length + B.length ≤ 1073741824 := by simp at hlen; omega
  have hSA : ∀ z ∈ A, S z := fun z hz => hS z (by simp [hz])
  have hSB : ∀ z ∈ B, S z := fun z hz => hS z (by simp [hz])
  by_cases c1 : A.length = 1
  ·
   obtain ⟨x, rfl⟩ := List.length_eq_one_iff.1 c1
   obtain ⟨M, h1, h2⟩ := merge_first hw (P := P) (Q := Q) (x := x) hB (by simpa using hS) sB (by simp at hl3; omega)
   refine ⟨M, by simpa using h1, fun n hn => ?_⟩
   obtain ⟨n, rfl⟩ : ∃ m, n = m + 1 := ⟨n - 1, by omega⟩
   exact h2 n
  by_cases c2 : B.length = 1
  ·
   obtain ⟨y, rfl⟩ := List.length_eq_one_iff.1 c2
   obtain ⟨M, h1, h2⟩ := merge_last hw (P := P) (A := A) (Q := Q) (y := y) (by omega) hS sA (by simp at hl3; omega)
   refine ⟨M, h1, fun n hn => ?_⟩
   obtain ⟨n, rfl⟩ : ∃ m, n = m + 1 := ⟨n - 1, by omega⟩
   exact h2 n
  obtain ⟨a, ha⟩ : ∃ a, a = P.length := ⟨_, rfl⟩
  obtain ⟨m, hm⟩ : ∃ m, m = P.length + A.length := ⟨_, rfl⟩
  obtain ⟨b, hb⟩ : ∃ b, b = P.length + A.length + B.length := ⟨_, rfl⟩
  obtain ⟨mid, hmid⟩ : ∃ mid, mid = (a + b) / 2 := ⟨_, rfl⟩
  have hgA : ∀ c, a ≤ c → (hc : c < m) → gx (P ++ (A ++ (B ++ Q))) (c : Int) = A[c - a]'(by omega) ∧ inR (P ++ (A ++ (B ++ Q))) (c : Int) := fun c c1 c2 => ⟨gx_part (by omega) (by omega), inR_part (i := c - a) (by omega) (by omega)⟩
  have hgB : ∀ c, m ≤ c → (hc : c < b) → gx (P ++ (A ++ (B ++ Q))) (c : Int) = B[c - m]'(by omega) ∧ inR (P ++ (A ++ (B ++ Q))) (c : Int) := fun c c1 c2 => by
   have hd : P ++ (A ++ (B ++ Q)) = (P ++ A) ++ (B ++ Q) := by simp
   rw [hd]
   exact ⟨gx_part (by omega) (by simp; omega), inR_part (i := c - m) (by omega) (by simp; omega)⟩
  obtain ⟨lo, hlo⟩ : ∃ lo, lo = if mid < m then mid + m - b else a := ⟨_, rfl⟩
  obtain ⟨hi, hhi⟩ : ∃ hi, hi = if mid < m then mid else m := ⟨_, rfl⟩
  have hlh : a ≤ lo ∧ lo ≤ hi ∧ hi ≤ m ∧ hi ≤ mid ∧ (mid < m → lo = mid + m - b ∧ hi = mid) ∧ (m ≤ mid → lo = a ∧ hi = m) := by
   by_cases c : mid < m
   ·
    rw [if_pos c] at hlo hhi; omega
   ·
    rw [if_neg c] at hlo hhi; omega
  have hpl : ∀ c, lo ≤ c → c < hi → a ≤ c ∧ c < m ∧ m ≤ mid + m - 1 - c ∧ mid + m - 1 - c < b := fun c h1 h2 => by
   by_cases cm : mid < m
   ·
    have := hlh.2.2.2.2.1 cm; omega
   ·
    have := hlh.2.2.2.2.2 (by omega); omega
  obtain ⟨s, s1, s2, s3, s4, s5⟩ := bsearch (body := slices_symMergeCmpFunc_entry_L5 (P ++ (A ++ (B ++ Q)), (P.length : Int), ((P.length + A.length : Nat) : Int), ((P.length + A.length + B.length : Nat) : Int), f) ((mid + m : Nat) : Int)) (fun c => if hh : lo ≤ c ∧ c < hi then !lt (B[mid + m - 1 - c - m]'(by have := hpl c hh.1 hh.2; omega)) (A[c - a]'(by have := hpl c hh.1 hh.2; omega)) else false) (lo := lo) (hi := hi) hlh.2.1
   (fun i j i1 i2 i3 => by
    unfold slices_symMergeCmpFunc_entry_L5
    have e1 : decide ((i : Int) < (j : Int)) = true := by rw [decide_eq_true_eq]; omega
    simp only [e1, cond_true]
    rw [half_eq (by omega)]
    simp only [bnd_eq]
    obtain ⟨q1, q2, q3, q4⟩ := hpl ((i + j) / 2) (by omega) (by omega)
    rw [Wk (n := ((mid + m : Nat) : Int) - 1) (by omega) (by omega), Wk (n := ((mid + m : Nat) : Int) - 1 - (((i + j) / 2 : Nat) : Int)) (by omega) (by omega), Wk (n := (((i + j) / 2 : Nat) : Int) + 1) (by omega) (by omega)]
    have ec : ((mid + m : Nat) : Int) - 1 - (((i + j) / 2 : Nat) : Int) = ((mid + m - 1 - (i + j) / 2 : Nat) : Int) := by omega
    obtain ⟨g1, r1⟩ := hgA ((i + j) / 2) q1 q2
    obtain ⟨g2, r2⟩ := hgB (mid + m - 1 - (i + j) / 2) q3 q4
    obtain ⟨cc, hc, hcl⟩ := hw.cmp (B[mid + m - 1 - (i + j) / 2 - m]'(by omega)) (A[(i + j) / 2 - a]'(by omega)) (hSB _ (List.getElem_mem _)) (hSA _ (List.getElem_mem _))
    rw [ec, need_of r2, need_of r1, g1, g2, hc]
    simp only [bind_sm, hcl]
    rw [dif_pos ⟨by omega, by omega⟩]
    cases lt (B[mid + m - 1 - (i + j) / 2 - m]'(by omega)) (A[(i + j) / 2 - a]'(by omega)) <;> simp)
   (fun i i1 i2 => by
    unfold slices_symMergeCmpFunc_entry_L5
    have e1 : decide ((i : Int) < (i : Int)) = false := by simp
    simp only [e1, cond_false])
   (fun h k h1 h2 h3 hp => by
    rw [dif_pos ⟨by omega, h3⟩] at hp
    rw [dif_pos ⟨h1, by omega⟩]
    obtain ⟨q1, q2, q3, q4⟩ := hpl h h1 (by omega)
    obtain ⟨w1, w2, w3, w4⟩ := hpl k (by omega) h3
    simp only [Bool.not_eq_true'] at hp ⊢
    have t1 := srt_get hw sB hSB (i := mid + m - 1 - k - m) (j := mid + m - 1 - h - m) (by omega) (by omega)
    have t2 := srt_get hw sA hSA (i := h - a) (j := k - a) (by omega) (by omega)
    have t3 := hw.ntr _ _ _ (hSB _ (List.getElem_mem (show mid + m - 1 - h - m < B.length by omega))) (hSB _ (List.getElem_mem (show mid + m - 1 - k - m < B.length by omega))) (hSA _ (List.getElem_mem (show k - a < A.length by omega))) t1 hp
    exact hw.ntr _ _ _ (hSB _ (List.getElem_mem (show mid + m - 1 - h - m < B.length by omega))) (hSA _ (List.getElem_mem (show k - a < A.length by omega))) (hSA _ (List.getElem_mem (show h - a < A.length by omega))) t3 t2)
  obtain ⟨A1, A2, hAA, hA1⟩ := cut (A := A) (n := s - a) (by omega)
  obtain ⟨B1, B2, hBB, hB1⟩ := cut (A := B) (n := mid - s) (by
   by_cases cm : mid < m
   ·
    have := hlh.2.2.2.2.1 cm; omega
   ·
    have := hlh.2.2.2.2.2 (by omega); omega)
  have hlA : A.length = A1.length + A2.length := by rw [hAA, List.length_append]
  have hlB : B.length = B1.length + B2.length := by rw [hBB, List.length_append]
  have gA1 : ∀ i, (hi : i < A1.length) → A1[i] = A[i]'(by omega) := fun i hi => by simp only [hAA]; rw [List.getElem_append_left hi]
  have gA2 : ∀ i, (hi : i < A2.length) → A2[i] = A[A1.length + i]'(by omega) := fun i hi => by simp only [hAA]; rw [List.getElem_append_right (by omega)]; congr 1; omega
  have gB1 : ∀ i, (hi : i < B1.length) → B1[i] = B[i]'(by omega) := fun i hi => by simp only [hBB]; rw [List.getElem_append_left hi]
  have gB2 : ∀ i, (hi : i < B2.length) → B2[i] = B[B1.length + i]'(by omega) := fun i hi => by simp only [hBB]; rw [List.getElem_append_right (by omega)]; congr 1; omega
  have hI : ∀ x ∈ A1, ∀ y ∈ B2, lt y x = false := fun x hx y hy => by
   obtain ⟨i, hi1, rfl⟩ := List.mem_iff_getElem.1 hx
   obtain ⟨j, hj1, rfl⟩ := List.mem_iff_getElem.1 hy
   by_cases cs : lo < s
   ·
    have h3 := s3 (s - 1) (by omega) (by omega)
    rw [dif_pos ⟨by omega, by omega⟩] at h3
    simp only [Bool.not_eq_true'] at h3
    obtain ⟨w1, w2, w3, w4⟩ := hpl (s - 1) (by omega) (by omega)
    have t1 := srt_get hw sB hSB (i := mid + m - 1 - (s - 1) - m) (j := B1.length + j) (by omega) (by omega)
    have t2 := srt_get hw sA hSA (i := i) (j := s - 1 - a) (by omega) (by omega)
    rw [gA1 i hi1, gB2 j hj1]
    have t3 := hw.ntr _ _ _ (hSB _ (List.getElem_mem (show B1.length + j < B.length by omega))) (hSB _ (List.getElem_mem (show mid + m - 1 - (s - 1) - m < B.length by omega))) (hSA _ (List.getElem_mem (show s - 1 - a < A.length by omega))) t1 h3
    exact hw.ntr _ _ _ (hSB _ (List.getElem_mem (show B1.length + j < B.length by omega))) (hSA _ (List.getElem_mem (show s - 1 - a < A.length by omega))) (hSA _ (List.getElem_mem (show i < A.length by omega))) t3 t2
   ·
    -- nothing of A is ahead, or nothing of B behind
    exfalso
    by_cases cm : mid < m
    ·
     have := hlh.2.2.2.2.1 cm; omega
    ·
     have := hlh.2.2.2.2.2 (by omega); omega
  have hII : ∀ y ∈ B1, ∀ x ∈ A2, lt y x = true := fun y hy x hx => by
   obtain ⟨i, hi1, rfl⟩ := List.mem_iff_getElem.1 hx
   obtain ⟨j, hj1, rfl⟩ := List.mem_iff_getElem.1 hy
   by_cases cs : s < hi
   ·
    have h4 := s4 s (Nat.le_refl _) cs
    rw [dif_pos ⟨by omega, cs⟩] at h4
    obtain ⟨w1, w2, w3, w4⟩ := hpl s (by omega) cs
    have h4 : lt (B[mid + m - 1 - s - m]'(by omega)) (A[s - a]'(by omega)) = true := by simpa using h4
    have t1 := srt_get hw sB hSB (i := j) (j := mid + m - 1 - s - m) (by omega) (by omega)
    have t2 := srt_get hw sA hSA (i := s - a) (j := A1.length + i) (by omega) (by omega)
    rw [gA2 i hi1, gB1 j hj1]
    have t3 := hw.tr (hSB _ (List.getElem_mem (show mid + m - 1 - s - m < B.length by omega))) (hSA _ (List.getElem_mem (show s - a < A.length by omega))) (hSA _ (List.getElem_mem (show A1.length + i < A.length by omega))) h4 t2
    cases hh : lt (B[j]'(by omega)) (A[A1.length + i]'(by omega)) with
    | true => rfl
    | false =>
     have := hw.ntr _ _ _ (hSB _ (List.getElem_mem (show mid + m - 1 - s - m < B.length by omega))) (hSB _ (List.getElem_mem (show j < B.length by omega))) (hSA _ (List.getElem_mem (show A1.length + i < A.length by omega))) t1 hh
     rw [t3] at this; cases this
   ·
    exfalso
    by_cases cm : mid < m
    ·
     have := hlh.2.2.2.2.1 cm; omega
    ·
     have := hlh.2.2.2.2.2 (by omega); omega
  have hSS : ∀ y ∈ (A1 ++ A2) ++ (B1 ++ B2), S y := by rw [← hAA, ← hBB]; exact hS
  have sA' : srt lt (A1 ++ A2) := by rw [← hAA]; exact sA
  have sB' : srt lt (B1 ++ B2) := by rw [← hBB]; exact sB
  have half1 : ∃ M1, Sd lt (A1 ++ B1) M1 ∧ ∀ (n : Nat), k ≤ n → (bif (decide ((a : Int) < (s : Int))) && (decide ((s : Int) < (mid : Int))) then (Option.bind (fixN slices_symMergeCmpFunc_entry_body n (P ++ (A1 ++ (B1 ++ (A2 ++ (B2 ++ Q)))), (a : Int), (s : Int), (mid : Int), f)) fun r5 => some r5) else some (P ++ (A1 ++ (B1 ++ (A2 ++ (B2 ++ Q)))))) = some (P ++ (M1 ++ (A2 ++ (B2 ++ Q)))) := by
   by_cases c : A1 ≠ [] ∧ B1 ≠ []
   ·
    have x1 := List.length_pos_iff.2 c.1
    have x2 := List.length_pos_iff.2 c.2
    obtain ⟨M1, h1, h2⟩ := sym_merge hw k P A1 B1 (A2 ++ (B2 ++ Q)) (by omega) c.1 c.2 (fun z hz => hSS z (by rcases List.mem_append.1 hz with h | h <;> simp [h])) (srt_left sA') (srt_left sB') (by simp at hlen ⊢; omega)
    refine ⟨M1, h1, fun n hn => ?_⟩
    have e1 : ((decide ((a : Int) < (s : Int))) && (decide ((s : Int) < (mid : Int)))) = true := by simp; omega
    rw [e1]
    simp only [cond_true]
    have i1 : (a : Int) = (P.length : Int) := by omega
    have i2 : (s : Int) = ((P.length + A1.length : Nat) : Int) := by omega
    have i3 : (mid : Int) = ((P.length + A1.length + B1.length : Nat) : Int) := by omega
    rw [i1, i2, i3, h2 n hn]; rfl
   ·
    have c : A1 = [] ∨ B1 = [] := by
     by_cases c1 : A1 = []
     ·
      exact .inl c1
     ·
      by_cases c2 : B1 = []
      ·
       exact .inr c2
      ·
       exact absurd ⟨c1, c2⟩ c
    refine ⟨A1 ++ B1, ⟨List.Perm.refl _, ?_, fun _ h => h⟩, fun n hn => ?_⟩
    ·
     rcases c with c | c
     ·
      rw [c, List.nil_append]; exact srt_left sB'
     ·
      rw [c, List.append_nil]; exact srt_left sA'
    ·
     have e1 : ((decide ((a : Int) < (s : Int))) && (decide ((s : Int) < (mid : Int)))) = false := by
      rcases c with c | c
      ·
       have : A1.length = 0 := by rw [c]; rfl
       simp; omega
      ·
       have : B1.length = 0 := by rw [c]; rfl
       simp; omega
     rw [e1]; simp
  obtain ⟨M1, hM1, hm1⟩ := half1
  have hlM1 := hM1.len
  rw [List.length_append] at hlM1
  have half2 : ∃ M2, Sd lt (A2 ++ B2) M2 ∧ ∀ (n : Nat), k ≤ n → (bif (decide ((mid : Int) < ((mid + m - s : Nat) : Int))) && (decide (((mid + m - s : Nat) : Int) < (b : Int))) then (Option.bind (fixN slices_symMergeCmpFunc_entry_body n (P ++ (M1 ++ (A2 ++ (B2 ++ Q))), (mid : Int), ((mid + m - s : Nat) : Int), (b : Int), f)) fun r6 => some r6) else some (P ++ (M1 ++ (A2 ++ (B2 ++ Q))))) = some (P ++ (M1 ++ (M2 ++ Q))) := by
   by_cases c : A2 ≠ [] ∧ B2 ≠ []
   ·
    have x1 := List.length_pos_iff.2 c.1
    have x2 := List.length_pos_iff.2 c.2
    obtain ⟨M2, h1, h2⟩ := sym_merge hw k (P ++ M1) A2 B2 Q (by omega) c.1 c.2 (fun z hz => hSS z (by rcases List.mem_append.1 hz with h | h <;> simp [h])) (srt_right sA') (srt_right sB') (by simp at hlen ⊢; omega)
    refine ⟨M2, h1, fun n hn => ?_⟩
    have e1 : ((decide ((mid : Int) < ((mid + m - s : Nat) : Int))) && (decide (((mid + m - s : Nat) : Int) < (b : Int)))) = true := by simp; omega
    rw [e1]
    simp only [cond_true]
    have i1 : (mid : Int) = ((P ++ M1).length : Int) := by simp; omega
    have i2 : ((mid + m - s : Nat) : Int) = (((P ++ M1).length + A2.length : Nat) : Int) := by simp; omega
    have i3 : (b : Int) = (((P ++ M1).length + A2.length + B2.length : Nat) : Int) := by simp; omega
    have hd : ∀ R : List Ref_entry, P ++ (M1 ++ R) = (P ++ M1) ++ R := fun R => by simp
    rw [i1, i2, i3, hd, h2 n hn]; simp
   ·
    have c : A2 = [] ∨ B2 = [] := by
     by_cases c1 : A2 = []
     ·
      exact .inl c1
     ·
      by_cases c2 : B2 = []
      ·
       exact .inr c2
      ·
       exact absurd ⟨c1, c2⟩ c
    refine ⟨A2 ++ B2, ⟨List.Perm.refl _, ?_, fun _ h => h⟩, fun n hn => ?_⟩
    ·
     rcases c with c | c
     ·
      rw [c, List.nil_append]; exact srt_right sB'
     ·
      rw [c, List.append_nil]; exact srt_right sA'
    ·
     have e1 : ((decide ((mid : Int) < ((mid + m - s : Nat) : Int))) && (decide (((mid + m - s : Nat) : Int) < (b : Int)))) = false := by
      rcases c with c | c
      ·
       have : A2.length = 0 := by rw [c]; rfl
       simp; omega
      ·
       have : B2.length = 0 := by rw [c]; rfl
       simp; omega
     rw [e1]; simp
  obtain ⟨M2, hM2, hm2⟩ := half2
  refine ⟨M1 ++ M2, by rw [hAA, hBB]; exact Sd.halves hw hSS sA' sB' hI hII hM1 hM2, fun n hn => ?_⟩
  obtain ⟨n, rfl⟩ : ∃ n', n = n' + 1 := ⟨n - 1, by omega⟩
  have hm1 := hm1 n (by omega)
  have hm2 := hm2 n (by omega)
  show slices_symMergeCmpFunc_entry_body (fixN slices_symMergeCmpFunc_entry_body n) _ = _
  generalize fixN slices_symMergeCmpFunc_entry_body n = slf at hm1 hm2 ⊢
  unfold slices_symMergeCmpFunc_entry_body
  have w1 : decide (W (((P.length + A.length : Nat) : Int) - (P.length : Int)) = 1) = false := by rw [Wk (by omega) (by omega), decide_eq_false_iff_not]; omega
  have w2 : decide (W (((P.length + A.length + B.length : Nat) : Int) - ((P.length + A.length : Nat) : Int)) = 1) = false := by rw [Wk (by omega) (by omega), decide_eq_false_iff_not]; omega
  simp only [w1, w2, cond_false, bindR_nx]
  rw [half_eq (by omega)]
  have i1 : (P.length : Int) = (a : Int) := by omega
  have i2 : ((P.length + A.length : Nat) : Int) = (m : Int) := by omega
  have i3 : ((P.length + A.length + B.length : Nat) : Int) = (b : Int) := by omega
  have i4 : (((P.length + (P.length + A.length + B.length)) / 2 : Nat) : Int) = (mid : Int) := by omega
  rw [i1, i2, i3] at s5
  simp only [bnd_eq, i1, i2, i3, i4]
  rw [Wk (n := (mid : Int) + (m : Int)) (by omega) (by omega)]
  have hnn : (mid : Int) + (m : Int) = ((mid + m : Nat) : Int) := by omega
  rw [hnn]
  have hsr : (bif decide ((mid : Int) < (m : Int)) then some (W (((mid + m : Nat) : Int) - (b : Int)), (mid : Int)) else some ((a : Int), (m : Int))) = some ((lo : Int), (hi : Int)) := by
   by_cases cm : mid < m
   ·
    have e : decide ((mid : Int) < (m : Int)) = true := by simp; omega
    have := hlh.2.2.2.2.1 cm
    rw [e, Wk (by omega) (by omega)]
    simp only [cond_true]
    congr 2 <;> omega
   ·
    have e : decide ((mid : Int) < (m : Int)) = false := by simp; omega
    have := hlh.2.2.2.2.2 (by omega)
    rw [e]
    simp only [cond_false]
    congr 2 <;> omega
  rw [hsr]
  simp only [bind_sm]
  rw [s5]
  simp only [bind_sm]
  rw [Wk (n := ((mid + m : Nat) : Int) - (s : Int)) (by omega) (by omega)]
  have hend : ((mid + m : Nat) : Int) - (s : Int) = ((mid + m - s : Nat) : Int) := by omega
  rw [hend]
  have hrot : (bif (decide ((s : Int) < (m : Int))) && (decide ((m : Int) < ((mid + m - s : Nat) : Int))) then (Option.bind (slices_rotateCmpFunc_entry (P ++ (A ++ (B ++ Q))) (s : Int) (m : Int) ((mid + m - s : Nat) : Int) f) fun r4 => some r4) else some (P ++ (A ++ (B ++ Q)))) = some (P ++ (A1 ++ (B1 ++ (A2 ++ (B2 ++ Q))))) := by
   by_cases c : A2 ≠ [] ∧ B1 ≠ []
   ·
    have x1 := List.length_pos_iff.2 c.1
    have x2 := List.length_pos_iff.2 c.2
    have e1 : ((decide ((s : Int) < (m : Int))) && (decide ((m : Int) < ((mid + m - s : Nat) : Int)))) = true := by simp; omega
    rw [e1]
    simp only [cond_true]
    have hd : P ++ (A ++ (B ++ Q)) = (P ++ A1) ++ (A2 ++ (B1 ++ (B2 ++ Q))) := by rw [hAA, hBB]; simp
    have hr := rotate_eq (f := f) (P := P ++ A1) (X := A2) (Y := B1) (Q := B2 ++ Q) c.1 c.2 (by rw [← hd]; exact hlen)
    have j1 : ((P ++ A1).length : Int) = (s : Int) := by simp; omega
    have j2 : (((P ++ A1).length + A2.length : Nat) : Int) = (m : Int) := by simp; omega
    have j3 : (((P ++ A1).length + A2.length + B1.length : Nat) : Int) = ((mid + m - s : Nat) : Int) := by simp; omega
    rw [j1, j2, j3] at hr
    rw [hd, hr]; simp
   ·
    have c : A2 = [] ∨ B1 = [] := by
     by_cases c1 : A2 = []
     ·
      exact .inl c1
     ·
      by_cases c2 : B1 = []
      ·
       exact .inr c2
      ·
       exact absurd ⟨c1, c2⟩ c
    have e1 : ((decide ((s : Int) < (m : Int))) && (decide ((m : Int) < ((mid + m - s : Nat) : Int)))) = false := by
     rcases c with c | c
     ·
      have : A2.length = 0 := by rw [c]; rfl
      simp; omega
     ·
      have : B1.length = 0 := by rw [c]; rfl
      simp; omega
    rw [e1, hAA, hBB]
    rcases c with c | c <;> rw [c] <;> simp
  rw [hrot]
  simp only [bind_sm]
  rw [hm1]
  simp only [bind_sm]
  rw [hm2]
  simp
end
end
section
section
variable {S : Ref_entry → Prop} {lt : Ref_entry → Ref_entry → Bool} {f : Ref_entry → Ref_entry → Option Int}
theorem merge_call (hw : Swo S lt f) {P A B Q : List Ref_entry} (hA : A ≠ []) (hB : B ≠ []) (hS : ∀ z ∈ A ++ B, S z) (sA : srt lt A) (sB : srt lt B) (hlen : (P ++ (A ++ (B ++ Q))).length ≤ 1073741824) :
  ∃ M, Sd lt (A ++ B) M ∧ slices_symMergeCmpFunc_entry (P ++ (A ++ (B ++ Q))) (P.length : Int) ((P.length + A.length : Nat) : Int) ((P.length + A.length + B.length : Nat) : Int) f = some (P ++ (M ++ Q)) := by
 obtain ⟨M, h1, h2⟩ := sym_merge hw (A.length + B.length) P A B Q (Nat.le_refl _) hA hB hS sA sB hlen
 exact ⟨M, h1, fixp_of _ h2⟩
theorem blocks_eq (hw : Swo S lt f) {D : List Ref_entry} (hS : ∀ x ∈ D, S x) (hlen : D.length ≤ 1000000000) :
  ∃ (P R : List Ref_entry), loop (slices_stableCmpFunc_entry_L1 (D.length : Int) f) (0, 20, D) = some ((P.length : Int), P ++ R) ∧ BlF lt 20 P ∧ R.length ≤ 20 ∧ Pk lt D (P ++ R) := by
 obtain ⟨e, h1, P, R, rfl, h3, h4, h5⟩ := loop_inv (body := slices_stableCmpFunc_entry_L1 (D.length : Int) f) (s0 := (0, 20, D)) (fun s => ∃ P R : List Ref_entry, s = ((P.length : Int), (P.length : Int) + 20, P ++ R) ∧ BlF lt 20 P ∧ Pk lt D (P ++ R)) (fun s => ((D.length : Int) + 20 - s.2.1).toNat)
  (fun e => ∃ P R : List Ref_entry, e = ((P.length : Int), P ++ R) ∧ BlF lt 20 P ∧ R.length ≤ 20 ∧ Pk lt D (P ++ R)) ⟨[], D, by simp, .nil, Pk.refl D⟩ (fun s hI => by
  obtain ⟨P, R, rfl, hP, hPk⟩ := hI
  have hl := hPk.len
  rw [List.length_append] at hl
  unfold slices_stableCmpFunc_entry_L1
  simp only
  by_cases c : 20 ≤ R.length
  ·
   left
   have e1 : decide ((P.length : Int) + 20 ≤ (D.length : Int)) = true := by rw [decide_eq_true_eq]; omega
   obtain ⟨A, R', rfl, hA⟩ := cut c
   obtain ⟨M, m1, m2⟩ := ins_sort hw (P := P) (M := A) (Q := R') (fun x hx => hPk.all hS x (by simp [hx])) (by omega)
   have i2 : ((P.length + A.length : Nat) : Int) = (P.length : Int) + 20 := by omega
   rw [i2] at m2
   simp only [e1, cond_true]
   rw [m2]
   simp only [bind_sm, bnd_eq]
   rw [Wk (by omega) (by omega)]
   have hml := m1.len
   refine ⟨_, rfl, ⟨P ++ M, R', Prod.ext (by simp; omega) (Prod.ext (by simp; omega) (by simp)), .snoc hP (by omega) m1.srtd, ?_⟩, by simp only; omega⟩
   have := hPk.trans (m1.pk.mid P R')
   simpa using this
  ·
   right
   have e1 : decide ((P.length : Int) + 20 ≤ (D.length : Int)) = false := by rw [decide_eq_false_iff_not]; omega
   simp only [e1, cond_false]
   exact ⟨_, rfl, P, R, rfl, hP, by omega, hPk⟩)
 exact ⟨P, R, h1, h3, h4, h5⟩
theorem pass_eq (hw : Swo S lt f) {D : List Ref_entry} {b : Nat} (hb : 1 ≤ b) (hS : ∀ x ∈ D, S x) (hlen : D.length ≤ 1000000000) (hbn : b < D.length) (hD : Bl lt b D) {x7 : Int × List Ref_entry} (hx7 : x7.1 = (b : Int)) :
  ∃ (P R : List Ref_entry), loop (slices_stableCmpFunc_entry_L3 (D.length : Int) x7 f) (0, 2 * (b : Int), D) = some ((P.length : Int), P ++ R) ∧ BlF lt (2 * b) P ∧ R.length < 2 * b ∧ Bl lt b R ∧ Pk lt D (P ++ R) := by
 obtain ⟨e, h1, P, R, rfl, h3, h4, h5, h6⟩ := loop_inv (body := slices_stableCmpFunc_entry_L3 (D.length : Int) x7 f) (s0 := (0, 2 * (b : Int), D)) (fun s => ∃ P R : List Ref_entry, s = ((P.length : Int), (P.length : Int) + 2 * (b : Int), P ++ R) ∧ BlF lt (2 * b) P ∧ Bl lt b R ∧ Pk lt D (P ++ R)) (fun s => ((D.length : Int) + 2 * (b : Int) - s.2.1).toNat)
  (fun e => ∃ P R : List Ref_entry, e = ((P.length : Int), P ++ R) ∧ BlF lt (2 * b) P ∧ R.length < 2 * b ∧ Bl lt b R ∧ Pk lt D (P ++ R)) ⟨[], D, by simp, .nil, hD, Pk.refl D⟩ (fun s hI => by
  obtain ⟨P, R, rfl, hP, hR, hPk⟩ := hI
  have hl := hPk.len
  rw [List.length_append] at hl
  unfold slices_stableCmpFunc_entry_L3
  simp only [hx7]
  by_cases c : 2 * b ≤ R.length
  ·
   left
   have e1 : decide ((P.length : Int) + 2 * (b : Int) ≤ (D.length : Int)) = true := by rw [decide_eq_true_eq]; omega
   obtain ⟨A, R1, rfl, hA, sA, hR1⟩ := hR.first (by omega)
   rw [List.length_append] at c hl
   obtain ⟨B, R', rfl, hB, sB, hR'⟩ := hR1.first (by omega)
   rw [List.length_append] at c hl
   obtain ⟨M, m1, m2⟩ := merge_call hw (P := P) (A := A) (B := B) (Q := R') (fun e => by have := congrArg List.length e; rw [List.length_nil] at this; omega) (fun e => by have := congrArg List.length e; rw [List.length_nil] at this; omega) (fun x hx => hPk.all hS x (by rcases List.mem_append.1 hx with h | h <;> simp [h])) sA sB (by simp; omega)
   have i2 : ((P.length + A.length : Nat) : Int) = (P.length : Int) + (b : Int) := by omega
   have i3 : ((P.length + A.length + B.length : Nat) : Int) = (P.length : Int) + 2 * (b : Int) := by omega
   rw [i2, i3] at m2
   simp only [e1, cond_true]
   rw [Wk (n := (P.length : Int) + (b : Int)) (by omega) (by omega), m2]
   simp only [bind_sm, bnd_eq]
   rw [Wk (n := 2 * (b : Int)) (by omega) (by omega), Wk (by omega) (by omega)]
   have hml := m1.len
   rw [List.length_append] at hml
   refine ⟨_, rfl, ⟨P ++ M, R', Prod.ext (by simp; omega) (Prod.ext (by simp; omega) (by simp)), .snoc hP (by omega) m1.srtd, hR', ?_⟩, by simp only; omega⟩
   have := hPk.trans (by have := m1.pk.mid P R'; simpa using this)
   simpa using this
  ·
   right
   have e1 : decide ((P.length : Int) + 2 * (b : Int) ≤ (D.length : Int)) = false := by rw [decide_eq_false_iff_not]; omega
   simp only [e1, cond_false]
   exact ⟨_, rfl, P, R, rfl, hP, by omega, hR, hPk⟩)
 exact ⟨P, R, h1, h3, h4, h5, h6⟩
theorem stable_eq (hw : Swo S lt f) {D : List Ref_entry} (hS : ∀ x ∈ D, S x) (hlen : D.length ≤ 100000000) : ∃ M, Sd lt D M ∧ slices_SortStableFunc_entry D f = some M := by
 unfold slices_SortStableFunc_entry slices_stableCmpFunc_entry
 obtain ⟨P, R, h1, h2, h3, h4⟩ := blocks_eq hw hS (by omega)
 have hl := h4.len
 rw [List.length_append] at hl
 rw [h1]
 simp only [bind_sm]
 obtain ⟨R', r1, r2⟩ := ins_sort hw (P := P) (M := R) (Q := []) (fun x hx => h4.all hS x (by simp [hx])) (by omega)
 have i1 : ((P.length + R.length : Nat) : Int) = (D.length : Int) := by omega
 rw [i1] at r2
 simp only [List.append_nil] at r2
 rw [r2]
 simp only [bind_sm]
 have hB : Bl lt 20 (P ++ R') := h2.bl (.last (by rw [r1.len]; exact h3) r1.srtd)
 have hPk : Pk lt D (P ++ R') := h4.trans (by have := r1.pk.mid P []; simpa using this)
 obtain ⟨e, g1, g2⟩ := loop_inv (body := slices_stableCmpFunc_entry_L2 (D.length : Int) f) (s0 := (20, P ++ R')) (fun s => ∃ (b : Nat) (E : List Ref_entry), s = ((b : Int), E) ∧ 1 ≤ b ∧ b ≤ 400000000 ∧ Bl lt b E ∧ Pk lt D E) (fun s => (2 * (D.length : Int) - s.1).toNat) (fun e => Sd lt D e)
  ⟨20, P ++ R', rfl, by omega, by omega, hB, hPk⟩ (fun s hI => by
  obtain ⟨b, E, rfl, b1, b2, hE, hk⟩ := hI
  have hlE := hk.len
  unfold slices_stableCmpFunc_entry_L2
  simp only
  by_cases c : b < D.length
  ·
   left
   have e1 : decide ((b : Int) < (D.length : Int)) = true := by rw [decide_eq_true_eq]; omega
   simp only [e1, cond_true, bnd_eq]
   rw [Wk (n := 2 * (b : Int)) (by omega) (by omega)]
   obtain ⟨P2, R2, q1, q2, q3, q4, q5⟩ := pass_eq hw (x7 := ((b : Int), E)) b1 (hk.all hS) (by omega) (by omega) hE rfl
   rw [hlE] at q1
   have hl2 := q5.len
   rw [List.length_append] at hl2
   rw [q1]
   simp only [bind_sm]
   rw [Wk (n := (P2.length : Int) + (b : Int)) (by omega) (by omega), Wk (n := (b : Int) * 2) (by omega) (by omega)]
   have hb2 : (b : Int) * 2 = ((2 * b : Nat) : Int) := by omega
   by_cases c2 : b < R2.length
   ·
    have e2 : decide ((P2.length : Int) + (b : Int) < (D.length : Int)) = true := by rw [decide_eq_true_eq]; omega
    simp only [e2, cond_true]
    obtain ⟨A, B, rfl, hA, sA, hBl⟩ := q4.first (by omega)
    rw [List.length_append] at c2 q3 hl2
    have sB := hBl.all (by omega)
    obtain ⟨M, m1, m2⟩ := merge_call hw (P := P2) (A := A) (B := B) (Q := []) (fun e => by have := congrArg List.length e; rw [List.length_nil] at this; omega) (fun e => by have := congrArg List.length e; rw [List.length_nil] at this; omega) (fun x hx => q5.all (hk.all hS) x (List.mem_append_right _ hx)) sA sB (by simp; omega)
    have i2 : ((P2.length + A.length : Nat) : Int) = (P2.length : Int) + (b : Int) := by omega
    have i3 : ((P2.length + A.length + B.length : Nat) : Int) = (D.length : Int) := by omega
    rw [i2, i3] at m2
    simp only [List.append_nil] at m2
    rw [m2]
    simp only [bind_sm]
    have hml := m1.len
    rw [List.length_append] at hml
    refine ⟨_, rfl, ⟨2 * b, P2 ++ M, Prod.ext hb2 rfl, by omega, by omega, q2.bl (.last (by omega) m1.srtd), ?_⟩, by simp only; omega⟩
    exact (hk.trans q5).trans (by have := m1.pk.mid P2 []; simpa using this)
   ·
    have e2 : decide ((P2.length : Int) + (b : Int) < (D.length : Int)) = false := by rw [decide_eq_false_iff_not]; omega
    simp only [e2, cond_false, bind_sm]
    refine ⟨_, rfl, ⟨2 * b, P2 ++ R2, Prod.ext hb2 rfl, by omega, by omega, q2.bl (.last (by omega) (q4.all (by omega))), hk.trans q5⟩, by simp only; omega⟩
  ·
   right
   have e1 : decide ((b : Int) < (D.length : Int)) = false := by rw [decide_eq_false_iff_not]; omega
   simp only [e1, cond_false]
   exact ⟨_, rfl, hk.sd (hE.all (by omega))⟩)
 rw [g1]
 exact ⟨e, g2, rfl⟩
end
end
end Go.DB.Stbentry
namespace Go.DB
open Go Go.RowKit
theorem Compare_int_eq (x y : Int) : cmp_Compare_int x y = some (if x < y then -1 else if y < x then 1 else 0) := by
 unfold cmp_Compare_int cmp_isNaN_int
 simp only [decide_true, Bool.not_true, Option.bind_some, cond_false]
 by_cases h : x < y
 ·
  simp [h]
 ·
  by_cases h2 : y < x
  ·
   simp [h, h2]
  ·
   simp [h, h2]
theorem Or2_eq (a b : Int) : cmp_Or_int [a, b] = some (if a = 0 then b else a) := by
 unfold cmp_Or_int
 rw [rforE_eq (by simp)]
 have e2 : (([a, b] : List Int).length : Int).toNat = 2 := rfl
 rw [e2]
 have s0 : ∀ s, cmp_Or_int_L1 [a, b] 0 s = some (if a = 0 then Res.nx () else Res.ab (Res.ab a)) := fun s => by
  unfold cmp_Or_int_L1
  rw [need_of ⟨by omega, by simp⟩, bnd_eq]
  have : gx [a, b] 0 = a := rfl
  rw [this]
  by_cases h : a = 0 <;> simp [h]
 have s1 : ∀ s, cmp_Or_int_L1 [a, b] (0 + 1) s = some (if b = 0 then Res.nx () else Res.ab (Res.ab b)) := fun s => by
  unfold cmp_Or_int_L1
  rw [need_of ⟨by omega, by simp⟩, bnd_eq]
  have : gx [a, b] (0 + 1) = b := rfl
  rw [this]
  by_cases h : b = 0 <;> simp [h]
 simp only [rgoE]
 rw [s0]
 by_cases ha : a = 0
 ·
  rw [if_pos ha, if_pos ha]
  simp only
  rw [s1]
  by_cases hb : b = 0
  ·
   rw [if_pos hb, hb]; rfl
  ·
   rw [if_neg hb]; rfl
 ·
  rw [if_neg ha, if_neg ha]; rfl
noncomputable def atF (d : Doc) (down : Bool) (k : Int) : Int × Int × Int := if down = true then ((bxD d k).Y, (bxD d k).H, (bxD d k).X) else ((bxD d k).X, (bxD d k).W_, (bxD d k).Y)
theorem atF_bd {d : Doc} (h : Right d) {down : Bool} {j : Nat} (hj : j < d.Nodes.length) : (-1000000 ≤ (atF d down (j : Int)).1 ∧ (atF d down (j : Int)).1 ≤ 1000000) ∧ (1 ≤ (atF d down (j : Int)).2.1 ∧ (atF d down (j : Int)).2.1 ≤ 20000) ∧ -1000000 ≤ (atF d down (j : Int)).2.2 ∧ (atF d down (j : Int)).2.2 ≤ 1000000 := by
 obtain ⟨p1, p2, p3, p4, p5, p6, p7, p8⟩ := (bxD_eq h hj).2.2
 unfold atF
 split
 ·
  simp only; omega
 ·
  simp only; omega
theorem Spread1_eq {d : Doc} (h : Right d) (down : Bool) {j : Nat} (hj : j < d.Nodes.length) : page_Spread_1 (j : Int) (some (viewD d)) down = some (atF d down (j : Int)) := by
 unfold page_Spread_1
 rw [Option.bind_some, view_boxM (bxD_eq h hj).1, Option.bind_some]
 unfold atF
 cases down <;> rfl
noncomputable def ltS (d : Doc) (down : Bool) (a b : Int) : Bool := decide ((atF d down a).1 < (atF d down b).1 ∨ (atF d down a).1 = (atF d down b).1 ∧ (atF d down a).2.2 < (atF d down b).2.2)
theorem swoS {d : Doc} (h : Right d) (down : Bool) {R : List Int} (hA : ApartR d R) : Swo (fun k => k ∈ R) (ltS d down) (fun x0 x1 => page_Spread_2 x0 x1 (fun x0 => page_Spread_1 x0 (some (viewD d)) down)) := by
 refine ⟨fun x y hx hy => ?_, fun x y _ _ h => ?_, fun x y z _ _ _ h1 h2 => ?_⟩
 ·
  obtain ⟨i, hi, rfl⟩ := hA.isIn x hx
  obtain ⟨j, hj, rfl⟩ := hA.isIn y hy
  refine ⟨_, by
   unfold page_Spread_2
   simp only
   rw [Spread1_eq h down hi, Spread1_eq h down hj, Option.bind_some, Option.bind_some, Compare_int_eq, Compare_int_eq, Option.bind_some, Option.bind_some, Or2_eq, Option.bind_some], ?_⟩
  unfold ltS
  rw [decide_eq_decide]
  generalize atF d down (i : Int) = a
  generalize atF d down (j : Int) = b
  by_cases c1 : a.1 < b.1
  ·
   rw [if_pos c1]; simp; omega
  ·
   rw [if_neg c1]
   by_cases c2 : b.1 < a.1
   ·
    rw [if_pos c2]; simp; omega
   ·
    rw [if_neg c2]
    by_cases c3 : a.2.2 < b.2.2
    ·
     rw [if_pos c3]; simp; omega
    ·
     rw [if_neg c3]
     by_cases c4 : b.2.2 < a.2.2
     ·
      rw [if_pos c4]; simp; omega
     ·
      rw [if_neg c4]; simp; omega
 ·
  unfold ltS at *
  have := of_decide_eq_true h
  exact decide_eq_false (by omega)
 ·
  unfold ltS at *
  have h1 := of_decide_eq_false h1
  have h2 := of_decide_eq_false h2
  exact decide_eq_false (by omega)
theorem rootL_incr {l : List DNode} {ids : List Str} : (rootL l ids).Pairwise (· < ·) := by
 unfold rootL
 have h : ((List.range l.length).filter (fun (i : Nat) => rootB l ids (gx l (i : Int)))).Pairwise (· < ·) := List.Pairwise.sublist List.filter_sublist List.pairwise_lt_range
 have h2 : ((List.range l.length).filter (fun (i : Nat) => rootB l ids (gx l (i : Int)))).Pairwise (fun (a b : Nat) => (a : Int) < (b : Int)) := List.Pairwise.imp (fun {a b} (hne : a < b) => by omega) h
 exact List.pairwise_map.2 h2
theorem Floor_eqM {a b : Int} (hb : 1 ≤ b) (h1 : -1000000000000 ≤ a) (h2 : a ≤ 1000000000000) : geom_Floor a b = some (a / b) := by
 unfold geom_Floor
 rw [need_of (by omega), bnd_eq, need_of (by omega)]
 have hq : -1000000000000 ≤ a / b ∧ a / b ≤ 1000000000000 := by
  constructor
  ·
   refine (Int.le_ediv_iff_mul_le (by omega)).2 ?_
   have := Int.mul_le_mul_of_nonneg_left hb (show (0 : Int) ≤ 1000000000000 by omega)
   omega
  ·
   refine Int.le_trans (Int.ediv_le_ediv (by omega) h2) ?_
   exact Int.ediv_le_self _ (by omega)
 rcases Int.lt_or_le a 0 with ha | ha
 ·
  have e := Int.tdiv_eq_ediv (a := a) (b := b)
  have e2 := Int.tmod_eq_emod (a := a) (b := b)
  have hsg : b.sign = 1 := Int.sign_eq_one_of_pos (by omega)
  have hab : b.natAbs = b := by omega
  by_cases hd : b ∣ a
  ·
   rw [if_pos (.inr hd)] at e e2
   have hm : a.tmod b = 0 := by rw [e2]; have := Int.emod_eq_zero_of_dvd hd; omega
   rw [hm, e]
   simp [bnd_eq]
  ·
   rw [if_neg (fun h => h.elim (by omega) hd)] at e e2
   have hmb := Int.emod_lt_of_pos a (show 0 < b by omega)
   have hm : a.tmod b < 0 := by rw [e2]; omega
   rw [decide_eq_true hm, cond_true, bnd_eq, e, hsg, show a / b + 1 - 1 = a / b by omega, Wk (by omega) (by omega)]; rfl
 ·
  have hm : ¬ a.tmod b < 0 := by
   have := Int.tmod_nonneg b ha
   omega
  rw [decide_eq_false hm, cond_false, Int.tdiv_eq_ediv_of_nonneg ha]; rfl
theorem sum_bdS (A : Int → Int) : ∀ (l : List Int), (∀ x ∈ l, 0 ≤ A x ∧ A x ≤ 20000) → 0 ≤ (l.map A).sum ∧ (l.map A).sum ≤ 20000 * l.length
 | [], _ => by simp
 | x :: l, h => by
  obtain ⟨h1, h2⟩ := sum_bdS A l (fun y hy => h y (by simp [hy]))
  have := h x (by simp)
  rw [List.map_cons, List.sum_cons, List.length_cons]
  omega
def spB (A : Int → Int × Int × Int) (M : List Int) (beg : Int) : Nat → Int
 | 0 => beg
 | i + 1 => if 0 < i ∧ i + 1 < M.length then spB A M beg i + (A (gx M (i : Int))).2.1 else spB A M beg i
def spS (A : Int → Int × Int × Int) (M : List Int) (beg free : Int) (i : Nat) : Int :=
 if 0 < i ∧ i + 1 < M.length then spB A M beg i + (i * free) / ((M.length : Int) - 1) - (A (gx M (i : Int))).1 else 0
theorem spB_bd {A : Int → Int × Int × Int} {M : List Int} (hA : ∀ k ∈ M, 1 ≤ (A k).2.1 ∧ (A k).2.1 ≤ 20000) {beg : Int} : ∀ i : Nat, i ≤ M.length → beg ≤ spB A M beg i ∧ spB A M beg i ≤ beg + 20000 * i
 | 0, _ => by simp [spB]
 | i + 1, hi => by
  obtain ⟨h1, h2⟩ := spB_bd hA (beg := beg) i (by omega)
  unfold spB
  split
  ·
   have := hA _ (gx_mem (l := M) (k := (i : Int)) ⟨by omega, by omega⟩)
   omega
  ·
   omega
noncomputable def begM (d : Doc) (down : Bool) (M : List Int) : Int := (atF d down (gx M 0)).1 + (atF d down (gx M 0)).2.1
noncomputable def freeM (d : Doc) (down : Bool) (M : List Int) : Int := (atF d down (gx M ((M.length : Int) - 1))).1 - begM d down M - ((seg M 1 ((M.length : Int) - 1)).map (fun k => (atF d down k).2.1)).sum
noncomputable def spreadF (d : Doc) (down : Bool) (M : List Int) (k : Int) : Int × Int :=
 if down = true then (0, spS (atF d down) M (begM d down M) (freeM d down M) (M.idxOf k)) else (spS (atF d down) M (begM d down M) (freeM d down M) (M.idxOf k), 0)
theorem idxOf_nd {M : List Int} (hn : M.Nodup) {i : Nat} (hi : i < M.length) : M.idxOf M[i] = i := by
 have h1 : M.idxOf M[i] < M.length := List.idxOf_lt_length_of_mem (List.getElem_mem hi)
 have h2 : M[M.idxOf M[i]] = M[i] := List.getElem_idxOf h1
 exact nodup_idx hn (List.getElem?_eq_getElem h1 |>.trans (congrArg some h2)) (List.getElem?_eq_getElem hi)
theorem seg_mem {M : List Int} {a b : Int} {x : Int} (h : x ∈ seg M a b) : x ∈ M := by
 unfold seg at h
 first | exact List.mem_of_mem_take (List.mem_of_mem_drop h) | exact List.mem_of_mem_drop (List.mem_of_mem_take h)
theorem seg_lenM {M : List Int} (h : 1 ≤ M.length) : (seg M 1 ((M.length : Int) - 1)).length ≤ M.length := by
 unfold seg
 simp
 omega
theorem mul_bdS {i : Nat} {f : Int} (hi : i ≤ 500) (h1 : -20000000 ≤ f) (h2 : f ≤ 20000000) : -10000000000 ≤ (i : Int) * f ∧ (i : Int) * f ≤ 10000000000 := by
 have hn : f.natAbs ≤ 20000000 := by omega
 have := Nat.mul_le_mul hi hn
 have e : ((i : Int) * f).natAbs = i * f.natAbs := by rw [Int.natAbs_mul]; rfl
 omega
theorem part_bdS {i n : Nat} {f : Int} (hn : 1 ≤ n) (hi : i ≤ n) (h1 : -20000000 ≤ f) (h2 : f ≤ 20000000) : -20000000 ≤ ((i : Int) * f) / (n : Int) ∧ ((i : Int) * f) / (n : Int) ≤ 20000000 := by
 have hn' : (0 : Int) < n := by omega
 constructor
 ·
  refine (Int.le_ediv_iff_mul_le hn').2 ?_
  have a := Int.mul_le_mul_of_nonneg_left h1 (show (0 : Int) ≤ i by omega)
  have b := Int.mul_le_mul_of_nonneg_right (show (i : Int) ≤ n by omega) (show (0 : Int) ≤ 20000000 by omega)
  omega
 ·
  have a := Int.mul_le_mul_of_nonneg_left h2 (show (0 : Int) ≤ i by omega)
  have b := Int.mul_le_mul_of_nonneg_right (show (i : Int) ≤ n by omega) (show (0 : Int) ≤ 20000000 by omega)
  refine Int.ediv_le_of_le_mul hn' ?_
  omega
theorem spread_bd {d : Doc} (h : Right d) (down : Bool) {M : List Int} (hA : ApartR d M) (h3 : 3 ≤ M.length) (hM : M.length ≤ 500) :
  (-1000000 ≤ begM d down M ∧ begM d down M ≤ 1020000) ∧ (-13000000 ≤ freeM d down M ∧ freeM d down M ≤ 3000000) ∧ (∀ k ∈ M, (-1000000 ≤ (atF d down k).1 ∧ (atF d down k).1 ≤ 1000000) ∧ (1 ≤ (atF d down k).2.1 ∧ (atF d down k).2.1 ≤ 20000)) ∧
   ∀ i : Nat, i < M.length → -40000000 ≤ spS (atF d down) M (begM d down M) (freeM d down M) i ∧ spS (atF d down) M (begM d down M) (freeM d down M) i ≤ 40000000 := by
 have hk : ∀ k ∈ M, (-1000000 ≤ (atF d down k).1 ∧ (atF d down k).1 ≤ 1000000) ∧ (1 ≤ (atF d down k).2.1 ∧ (atF d down k).2.1 ≤ 20000) := fun k hk => by
  obtain ⟨j, hj, rfl⟩ := hA.isIn k hk
  have := atF_bd h (down := down) hj
  exact ⟨this.1, this.2.1⟩
 have a0 := hk _ (gx_mem (l := M) (k := 0) ⟨by omega, by omega⟩)
 have aN := hk _ (gx_mem (l := M) (k := (M.length : Int) - 1) ⟨by omega, by omega⟩)
 have hs := sum_bdS (fun k => (atF d down k).2.1) (seg M 1 ((M.length : Int) - 1)) (fun x hx => by have := (hk x (seg_mem hx)).2; omega)
 have hsl := seg_lenM (M := M) (by omega)
 have hb : -1000000 ≤ begM d down M ∧ begM d down M ≤ 1020000 := by unfold begM; omega
 have hf : -13000000 ≤ freeM d down M ∧ freeM d down M ≤ 3000000 := by unfold freeM; omega
 refine ⟨hb, hf, hk, fun i hi => ?_⟩
 unfold spS
 split
 ·
  have hB := spB_bd (A := atF d down) (M := M) (fun k hk' => (hk k hk').2) (beg := begM d down M) i (by omega)
  have hq := part_bdS (i := i) (n := M.length - 1) (f := freeM d down M) (by omega) (by omega) (by omega) (by omega)
  rw [show ((M.length - 1 : Nat) : Int) = (M.length : Int) - 1 by omega] at hq
  have hg := hk _ (gx_mem (l := M) (k := (i : Int)) ⟨by omega, by omega⟩)
  omega
 ·
  omega
theorem ApartR.perm {d : Doc} {R M : List Int} (h : ApartR d R) (hp : M.Perm R) : ApartR d M :=
 ⟨fun k hk => h.isIn k (hp.mem_iff.1 hk), hp.nodup_iff.2 h.nodup, fun a ha b hb => h.one a (hp.mem_iff.1 ha) b (hp.mem_iff.1 hb)⟩
theorem ByR.perm {d : Doc} {R M : List Int} {f : Int → Int × Int} {m : GMap Str Point} (hp : M.Perm R) (h : ByR d M f m) : ByR d R f m := fun id p => by
 rw [h id p]
 exact ⟨fun ⟨k, hk, e⟩ => ⟨k, hp.mem_iff.1 hk, e⟩, fun ⟨k, hk, e⟩ => ⟨k, hp.mem_iff.2 hk, e⟩⟩
theorem set_setM {K V : Type} [DecidableEq K] {m : GMap K V} {k : K} {a b : V} : (m.set k a).set k b = m.set k b := by
 unfold GMap.set
 congr 1
 funext x
 by_cases h : x = k <;> simp [h]
theorem Clone_int_eqM {l : List Int} (h : l.length ≤ 1073741824) : slices_Clone_int l = some l := by
 unfold slices_Clone_int
 rw [need_of (by simpa [room_iff] using h), bnd_eq, List.nil_append]
 exact nilc_eq fun e => by rw [e]
theorem getD_set {m : GMap Int Int} {k x v : Int} : (m.set k v).getD x 0 = if x = k then v else m.getD x 0 := by
 unfold GMap.getD
 have : (m.set k v).f x = if x = k then some v else m.f x := rfl
 rw [this]
 by_cases h : x = k <;> simp [h]
theorem Spread_eq {d : Doc} (hck : page_Check d = some 0) (h : Right d) {ids : List Str} (hi : (ids.length : Int) ≤ 9223372036854775807) (hs : selErr d.Nodes ids = 0) (down : Bool) (h3 : 3 ≤ (rootL d.Nodes ids).length)
  {M : List Int} (hp : M.Perm (rootL d.Nodes ids)) (hm : slices_SortStableFunc_int (rootL d.Nodes ids) (fun x0 x1 => page_Spread_2 x0 x1 (fun x0 => page_Spread_1 x0 (some (viewD d)) down)) = some M) :
  page_Spread d ids down = Option.bind (page_view_moved (viewD d) (stepsR (rootL d.Nodes ids) (spreadF d down M))) fun r => some (r.1, r.2) := by
 have hA := rootL_apart h ids
 have hAM := hA.perm hp
 have hRl := rootL_len (l := d.Nodes) (ids := ids) h.nl
 have hMl := hp.length_eq
 obtain ⟨b1, b2, b3, b4⟩ := spread_bd h down hAM (by omega) (by omega)
 generalize hR : rootL d.Nodes ids = R at *
 unfold page_Spread
 rw [bnd_eq, selected_eq hck h hi, if_pos hs, Option.bind_some, hR]
 simp only [decide_true, Bool.not_true, cond_false, bnd_eq]
 rw [decide_eq_false (show ¬ (R.length : Int) < 3 by omega), cond_false, Clone_int_eqM (by omega), Option.bind_some, hm, Option.bind_some]
 have hat : ∀ k : Int, inR M k → page_Spread_1 (gx M k) (some (viewD d)) down = some (atF d down (gx M k)) := fun k hk => by
  obtain ⟨j, hj, e⟩ := hAM.isIn _ (gx_mem hk)
  rw [e]; exact Spread1_eq h down hj
 have r0 : inR M 0 := ⟨by omega, by omega⟩
 have rN : inR M ((M.length : Int) - 1) := ⟨by omega, by omega⟩
 rw [need_of r0, hat 0 r0, Option.bind_some, Wk (n := (R.length : Int) - 1) (by omega) (by omega), ← hMl, need_of rN, hat _ rN, Option.bind_some]
 have a0 := b3 _ (gx_mem r0)
 have aN := b3 _ (gx_mem rN)
 rw [Wk (n := (atF d down (gx M 0)).1 + (atF d down (gx M 0)).2.1) (by omega) (by omega)]
 have hbeg : (atF d down (gx M 0)).1 + (atF d down (gx M 0)).2.1 = begM d down M := rfl
 rw [hbeg, Wk (n := (atF d down (gx M ((M.length : Int) - 1))).1 - begM d down M) (by omega) (by omega), need_of ⟨by omega, by omega, by omega⟩]
 generalize hV : seg M 1 ((M.length : Int) - 1) = V at *
 have hVm : ∀ x ∈ V, x ∈ M := fun x hx => seg_mem (by rw [hV]; exact hx)
 have hVl : V.length ≤ M.length := by rw [← hV]; exact seg_lenM (by omega)
 obtain ⟨fr, f1, f2⟩ := rfor_inv (n := (V.length : Int)) (step := page_Spread_L1 (some (viewD d), R, 0) V down) (s0 := (atF d down (gx M ((M.length : Int) - 1))).1 - begM d down M)
  (fun k s => s = (atF d down (gx M ((M.length : Int) - 1))).1 - begM d down M - ((V.take k).map (fun x => (atF d down x).2.1)).sum) (by omega) (by simp) (fun k s hk hI => by
  have hk' : k < V.length := by omega
  have hin := hVm _ (List.getElem_mem hk')
  obtain ⟨j, hj, e⟩ := hAM.isIn _ hin
  have hsum := sum_bdS (fun x => (atF d down x).2.1) (V.take k) (fun x hx => by have := (b3 x (hVm x (List.mem_of_mem_take hx))).2; omega)
  rw [List.length_take] at hsum
  have hx := b3 _ hin
  unfold page_Spread_L1
  simp only
  rw [need_of ⟨by omega, by omega⟩, gx_nat hk', e, Spread1_eq h down hj, Option.bind_some, bnd_eq, ← e, Wk (by omega) (by omega)]
  refine ⟨_, rfl, ?_⟩
  rw [List.take_succ_eq_append_getElem hk', List.map_append, List.sum_append]
  simp only [List.map_cons, List.map_nil, List.sum_cons, List.sum_nil]
  omega)
 have hfree : fr = freeM d down M := by
  rw [f2, show (V.length : Int).toNat = V.length by omega, List.take_length]
  unfold freeM; rw [hV]
 rw [f1, Option.bind_some, hfree]
 obtain ⟨st, g1, g2, g3⟩ := rfor_inv (n := (M.length : Int)) (step := page_Spread_L2 (M.length : Int) (some (viewD d), R, 0) M (freeM d down M) down) (s0 := (begM d down M, (GMap.nil : GMap Int Int)))
  (fun k s => s.1 = spB (atF d down) M (begM d down M) k ∧ ∀ j : Nat, (hj : j < M.length) → s.2.getD M[j] 0 = if j < k then spS (atF d down) M (begM d down M) (freeM d down M) j else 0) (by omega) ⟨rfl, fun j hj => rfl⟩ (fun k s hk hI => by
  obtain ⟨i1, i2⟩ := hI
  have hk' : k < M.length := by omega
  have hx := b3 _ (List.getElem_mem hk')
  have hB := spB_bd (A := atF d down) (M := M) (fun k hk' => (b3 k hk').2) (beg := begM d down M) k (by omega)
  unfold page_Spread_L2
  rw [need_of ⟨by omega, by omega⟩, bnd_eq, gx_nat hk']
  have := hat (k : Int) ⟨by omega, by omega⟩
  rw [gx_nat hk'] at this
  simp only
  rw [this, Option.bind_some, Wk (n := (M.length : Int) - 1) (by omega) (by omega)]
  have hS : spS (atF d down) M (begM d down M) (freeM d down M) k = if 0 < k ∧ k + 1 < M.length then spB (atF d down) M (begM d down M) k + (k * freeM d down M) / ((M.length : Int) - 1) - (atF d down M[k]).1 else 0 := by unfold spS; rw [gx_nat hk']
  have hB1 : spB (atF d down) M (begM d down M) (k + 1) = if 0 < k ∧ k + 1 < M.length then spB (atF d down) M (begM d down M) k + (atF d down M[k]).2.1 else spB (atF d down) M (begM d down M) k := by rw [spB, gx_nat hk']
  by_cases c : 0 < k ∧ k + 1 < M.length
  ·
   have hq := part_bdS (i := k) (n := M.length - 1) (f := freeM d down M) (by omega) (by omega) (by omega) (by omega)
   rw [show ((M.length - 1 : Nat) : Int) = (M.length : Int) - 1 by omega] at hq
   have hmul := mul_bdS (i := k) (f := freeM d down M) (by omega) (by omega) (by omega)
   rw [decide_eq_true (show (0 : Int) < (k : Int) by omega), decide_eq_true (show (k : Int) < (M.length : Int) - 1 by omega)]
   simp only [Bool.and_self, cond_true]
   rw [Wk (n := (k : Int) * freeM d down M) (by omega) (by omega), Floor_eqM (by omega) (by omega) (by omega), Option.bind_some, i1]
   rw [Wk (n := spB (atF d down) M (begM d down M) k + (k : Int) * freeM d down M / ((M.length : Int) - 1)) (by omega) (by omega), Wk (n := spB (atF d down) M (begM d down M) k + (k : Int) * freeM d down M / ((M.length : Int) - 1) - (atF d down M[k]).1) (by omega) (by omega), Wk (n := spB (atF d down) M (begM d down M) k + (atF d down M[k]).2.1) (by omega) (by omega)]
   refine ⟨_, rfl, by rw [hB1, if_pos c], fun j hj => ?_⟩
   simp only
   rw [getD_set, i2 j hj]
   by_cases e : j = k
   ·
    subst e
    rw [if_pos rfl, if_pos (by omega), hS, if_pos c]
   ·
    rw [if_neg (fun hc => e (nodup_idx hAM.nodup ((List.getElem?_eq_getElem hj).trans (congrArg some hc)) (List.getElem?_eq_getElem hk')))]
    by_cases c2 : j < k
    ·
     rw [if_pos c2, if_pos (by omega)]
    ·
     rw [if_neg c2, if_neg (by omega)]
  ·
   have e : ((decide ((0 : Int) < (k : Int))) && (decide ((k : Int) < (M.length : Int) - 1))) = false := by
    rw [Bool.and_eq_false_iff, decide_eq_false_iff_not, decide_eq_false_iff_not]; omega
   rw [e, cond_false]
   refine ⟨_, rfl, by rw [hB1, if_neg c]; exact i1, fun j hj => ?_⟩
   rw [i2 j hj]
   by_cases e : j = k
   ·
    subst e
    rw [if_neg (by omega), if_pos (by omega), hS, if_neg c]
   ·
    by_cases c2 : j < k
    ·
     rw [if_pos c2, if_pos (by omega)]
    ·
     rw [if_neg c2, if_neg (by omega)])
 rw [g1, Option.bind_some]
 have hto : ∀ k ∈ R, st.2.getD k 0 = spS (atF d down) M (begM d down M) (freeM d down M) (M.idxOf k) := fun k hk => by
  obtain ⟨i, hi', rfl⟩ := List.mem_iff_getElem.1 (hp.mem_iff.2 hk)
  rw [g3 i hi', if_pos (by omega), idxOf_nd hAM.nodup hi']
 rw [hMl, rfor_gather (l := R) (fun k => [(⟨[k], (spreadF d down M k).1, (spreadF d down M k).2⟩ : Page_step)]) [] (fun a _ => by simp) (by simp; omega) (fun i s hk hs' => by
  unfold page_Spread_L3
  have hin := gx_mem hk
  simp only [need_of hk, bnd_eq]
  rw [hto _ hin]
  unfold spreadF
  have hroom : room (s.length + 1) := by show _ ≤ _; omega
  cases down with
  | true => simp [need_of hroom]
  | false => simp [need_of hroom])]
 rw [← List.map_eq_flatMap, List.nil_append, Option.bind_some, Option.bind_some]
 rfl
def ltE (a b : Ref_entry) : Bool := decide (a.at_ < b.at_ ∨ a.at_ = b.at_ ∧ a.other < b.other)
noncomputable def entE (d : Doc) (down : Bool) (k : Int) : Ref_entry := ⟨idK d k, (atF d down k).1, (atF d down k).2.2, (atF d down k).2.1⟩
theorem ltE_ent (d : Doc) (down : Bool) (a b : Int) : ltE (entE d down a) (entE d down b) = ltS d down a b := rfl
theorem swoE {d : Doc} (h : Right d) (down : Bool) {R : List Int} (hA : ApartR d R) : Swo (fun e => ∃ k ∈ R, e = entE d down k) ltE ref_SpreadBy_1 := by
 refine ⟨fun x y hx hy => ?_, fun x y _ _ h => ?_, fun x y z _ _ _ h1 h2 => ?_⟩
 ·
  obtain ⟨k, hk, rfl⟩ := hx
  obtain ⟨t, ht, rfl⟩ := hy
  obtain ⟨i, hi, rfl⟩ := hA.isIn k hk
  obtain ⟨j, hj, rfl⟩ := hA.isIn t ht
  obtain ⟨⟨a1, a2⟩, _, a3, a4⟩ := atF_bd h (down := down) hi
  obtain ⟨⟨b1, b2⟩, _, b3, b4⟩ := atF_bd h (down := down) hj
  refine ⟨_, by
   unfold ref_SpreadBy_1
   rw [Or2_eq, Option.bind_some], ?_⟩
  rw [ltE_ent]
  unfold ltS entE
  simp only
  rw [decide_eq_decide]
  generalize atF d down (i : Int) = a at *
  generalize atF d down (j : Int) = b at *
  rw [Wk (n := a.1 - b.1) (by omega) (by omega), Wk (n := a.2.2 - b.2.2) (by omega) (by omega)]
  split <;> omega
 ·
  unfold ltE at *
  have := of_decide_eq_true h
  exact decide_eq_false (by omega)
 ·
  unfold ltE at *
  have h1 := of_decide_eq_false h1
  have h2 := of_decide_eq_false h2
  exact decide_eq_false (by omega)
theorem spread_sort {d : Doc} (h : Right d) (down : Bool) {R : List Int} (hA : ApartR d R) (hI : R.Pairwise (· < ·)) (hR : R.length ≤ 500) :
  ∃ M, M.Perm R ∧ slices_SortStableFunc_int R (fun x0 x1 => page_Spread_2 x0 x1 (fun x0 => page_Spread_1 x0 (some (viewD d)) down)) = some M ∧ slices_SortStableFunc_entry (R.map (entE d down)) ref_SpreadBy_1 = some (M.map (entE d down)) ∧ srt (ltS d down) M := by
 obtain ⟨M, m1, m2⟩ := Stbint.stable_eq (swoS h down hA) (D := R) (fun x hx => hx) (by omega)
 obtain ⟨m, e1, e2⟩ := Stbentry.stable_eq (swoE h down hA) (D := R.map (entE d down)) (fun x hx => by
  obtain ⟨k, hk, rfl⟩ := List.mem_map.1 hx; exact ⟨k, hk, rfl⟩) (by simp; omega)
 have hback : ∀ k ∈ R, nodeAt d.Nodes (entE d down k).id = k := fun k hk => by
  obtain ⟨j, hj, rfl⟩ := hA.isIn k hk
  show nodeAt d.Nodes (gx d.Nodes (j : Int)).Id = _
  rw [gx_nat hj]; exact nodeAt_of h.hd hj
 have hel : ∀ x ∈ m, ∃ k ∈ R, x = entE d down k ∧ nodeAt d.Nodes x.id = k := fun x hx => by
  obtain ⟨k, hk, rfl⟩ := List.mem_map.1 (e1.mem.1 hx)
  exact ⟨k, hk, rfl, hback k hk⟩
 have hmap : m.map (fun x => nodeAt d.Nodes x.id) = M := by
  refine Sd.one (fun x y => x < y) (fun x y h => by omega) (L := R) (lt := ltS d down) ?_ ?_ m1
  ·
   unfold kept2
   exact hI.imp (fun h => .inl h)
  ·
   have hmm : (R.map (entE d down)).map (fun x => nodeAt d.Nodes x.id) = R := by
    rw [List.map_map]
    conv => rhs; rw [← List.map_id R]
    exact List.map_congr_left fun k hk => hback k hk
   refine ⟨?_, ?_, fun tb htb => ?_⟩
   ·
    have := e1.perm.map (fun x => nodeAt d.Nodes x.id)
    rwa [hmm] at this
   ·
    unfold srt
    rw [List.pairwise_map]
    refine List.Pairwise.imp_of_mem (fun {a b} ha hb' h => ?_) e1.srtd
    obtain ⟨k, hk, q1, q2⟩ := hel a ha
    obtain ⟨t, ht, q3, q4⟩ := hel b hb'
    rw [q2, q4, ← ltE_ent, ← q1, ← q3]
    exact h
   ·
    have hk : kept2 ltE (fun a b => tb (nodeAt d.Nodes a.id) (nodeAt d.Nodes b.id)) (R.map (entE d down)) := by
     unfold kept2 at *
     rw [List.pairwise_map]
     refine List.Pairwise.imp_of_mem (fun {a b} ha hb' hh => ?_) htb
     show tb (nodeAt d.Nodes (entE d down a).id) (nodeAt d.Nodes (entE d down b).id) ∨ ltE (entE d down a) (entE d down b) = true
     rw [hback a ha, hback b hb', ltE_ent]
     exact hh
    have h2 := e1.kept _ hk
    unfold kept2 at *
    rw [List.pairwise_map]
    refine List.Pairwise.imp_of_mem (fun {a b} ha hb' hh => ?_) h2
    obtain ⟨k, hk, q1, q2⟩ := hel a ha
    obtain ⟨t, ht, q3, q4⟩ := hel b hb'
    have hh' : tb (nodeAt d.Nodes a.id) (nodeAt d.Nodes b.id) ∨ ltE a b = true := hh
    rw [q2, q4] at hh' ⊢
    rw [q1, q3, ltE_ent] at hh'
    exact hh'
 have hm : m = M.map (entE d down) := by
  rw [← hmap, List.map_map]
  conv => lhs; rw [← List.map_id m]
  refine List.map_congr_left fun x hx => ?_
  obtain ⟨k, hk, q1, q2⟩ := hel x hx
  show x = entE d down (nodeAt d.Nodes x.id)
  rw [q2, q1]
 exact ⟨M, m1.perm, m2, by rw [e2, hm], m1.srtd⟩
theorem SpreadBy_eq {d : Doc} (h : Right d) {ids : List Str} (hi : (ids.length : Int) ≤ 9223372036854775807) (down : Bool) (h3 : 3 ≤ (rootL d.Nodes ids).length)
  {M : List Int} (hp : M.Perm (rootL d.Nodes ids)) (hm : slices_SortStableFunc_entry ((rootL d.Nodes ids).map (entE d down)) ref_SpreadBy_1 = some (M.map (entE d down))) :
  ∃ m, ref_SpreadBy d ids down = some (m, 0) ∧ ByR d (rootL d.Nodes ids) (spreadF d down M) m := by
 have hA := rootL_apart h ids
 have hAM := hA.perm hp
 have hRl := rootL_len (l := d.Nodes) (ids := ids) h.nl
 have hMl := hp.length_eq
 obtain ⟨b1, b2, b3, b4⟩ := spread_bd h down hAM (by omega) (by omega)
 have hro := RootsOf_eq h hi
 generalize hR : rootL d.Nodes ids = R at *
 unfold ref_SpreadBy
 rw [hro, Option.bind_some]
 have hent : rfor ((R.map (fun k => (gx d.Nodes k).Id)).length : Int) (ref_SpreadBy_L1 d (R.map (fun k => (gx d.Nodes k).Id)) down) ([] : List Ref_entry) = some (R.map (entE d down)) := by
  rw [rfor_gather (l := R.map (fun k => (gx d.Nodes k).Id)) (fun id => [entE d down (nodeAt d.Nodes id)]) [] (fun a _ => by simp) (by simp; omega) (fun i s hk hs' => by
   unfold ref_SpreadBy_L1
   have hin := gx_mem hk
   obtain ⟨k, hk2, e⟩ := List.mem_map.1 hin
   obtain ⟨j, hj, rfl⟩ := hA.isIn k hk2
   rw [gx_nat hj] at e
   have hroom : room (s.length + 1) := by show _ ≤ _; omega
   rw [need_of hk, bnd_eq, ← e, (bxD_eq h hj).2.1, Option.bind_some, nodeAt_of h.hd hj]
   unfold entE atF idK
   rw [gx_nat hj]
   cases down with
   | true => simp [bnd_eq, need_of hroom]
   | false => simp [bnd_eq, need_of hroom])]
  rw [← List.map_eq_flatMap, List.nil_append, List.map_map]
  congr 1
  refine List.map_congr_left fun k hk => ?_
  obtain ⟨j, hj, rfl⟩ := hA.isIn k hk
  show entE d down (nodeAt d.Nodes (gx d.Nodes (j : Int)).Id) = _
  rw [gx_nat hj, nodeAt_of h.hd hj]
 rw [hent, Option.bind_some, List.length_map, decide_eq_false (show ¬ (R.length : Int) < 3 by omega), cond_false, hm, Option.bind_some]
 have hE : ∀ k : Int, inR M k → gx (M.map (entE d down)) k = entE d down (gx M k) := fun k hk => by
  obtain ⟨h1, h2⟩ := hk
  obtain ⟨j, rfl⟩ := Int.eq_ofNat_of_zero_le h1
  have hj : j < M.length := by omega
  show gx (M.map (entE d down)) (j : Int) = entE d down (gx M (j : Int))
  rw [gx_nat (by simpa using hj), gx_nat hj, List.getElem_map]
 have r0 : inR M 0 := ⟨by omega, by omega⟩
 have rN : inR M ((M.length : Int) - 1) := ⟨by omega, by omega⟩
 have q0 : inR (M.map (entE d down)) 0 := ⟨by omega, by simp; omega⟩
 have qN : inR (M.map (entE d down)) ((M.length : Int) - 1) := ⟨by omega, by simp; omega⟩
 have a0 := b3 _ (gx_mem r0)
 have aN := b3 _ (gx_mem rN)
 simp only [List.length_map]
 rw [need_of q0, need_of q0, bnd_eq, hE 0 r0, Wk (n := (M.length : Int) - 1) (by omega) (by omega), need_of qN, bnd_eq, hE _ rN]
 have x1 : ∀ k, (entE d down k).at_ = (atF d down k).1 := fun _ => rfl
 have x2 : ∀ k, (entE d down k).size = (atF d down k).2.1 := fun _ => rfl
 have x3 : ∀ k, (entE d down k).id = idK d k := fun _ => rfl
 simp only [x1, x2]
 rw [Wk (n := (atF d down (gx M 0)).1 + (atF d down (gx M 0)).2.1) (by omega) (by omega)]
 have hbeg : (atF d down (gx M 0)).1 + (atF d down (gx M 0)).2.1 = begM d down M := rfl
 rw [hbeg, Wk (n := (atF d down (gx M ((M.length : Int) - 1))).1 - begM d down M) (by omega) (by omega), need_of ⟨by omega, by omega, by omega⟩, bnd_eq]
 have hseg : seg (M.map (entE d down)) 1 ((M.length : Int) - 1) = (seg M 1 ((M.length : Int) - 1)).map (entE d down) := by
  unfold seg
  first | rw [List.map_drop, List.map_take] | rw [List.map_take, List.map_drop] | simp [List.map_drop, List.map_take]
 rw [hseg]
 generalize hV : seg M 1 ((M.length : Int) - 1) = V at *
 have hVm : ∀ x ∈ V, x ∈ M := fun x hx => seg_mem (by rw [hV]; exact hx)
 have hVl : V.length ≤ M.length := by rw [← hV]; exact seg_lenM (by omega)
 obtain ⟨fr, f1, f2⟩ := rfor_inv (n := ((V.map (entE d down)).length : Int)) (step := ref_SpreadBy_L2 (V.map (entE d down))) (s0 := (atF d down (gx M ((M.length : Int) - 1))).1 - begM d down M)
  (fun k s => s = (atF d down (gx M ((M.length : Int) - 1))).1 - begM d down M - ((V.take k).map (fun x => (atF d down x).2.1)).sum) (by simp; omega) (by simp) (fun k s hk hI => by
  have hk' : k < V.length := by simpa using hk
  have hin := hVm _ (List.getElem_mem hk')
  have hsum := sum_bdS (fun x => (atF d down x).2.1) (V.take k) (fun x hx => by have := (b3 x (hVm x (List.mem_of_mem_take hx))).2; omega)
  rw [List.length_take] at hsum
  have hx := b3 _ hin
  unfold ref_SpreadBy_L2
  rw [need_of ⟨by omega, by simp; omega⟩, bnd_eq, gx_nat (by simpa using hk'), List.getElem_map, x2, bnd_eq, Wk (by omega) (by omega)]
  refine ⟨_, rfl, ?_⟩
  rw [List.take_succ_eq_append_getElem hk', List.map_append, List.sum_append]
  simp only [List.map_cons, List.map_nil, List.sum_cons, List.sum_nil]
  omega)
 have hfree : fr = freeM d down M := by
  rw [f2, show ((V.map (entE d down)).length : Int).toNat = V.length by simp, List.take_length]
  unfold freeM; rw [hV]
 rw [f1, Option.bind_some, hfree, bnd_eq]
 obtain ⟨st, g1, g2, g3⟩ := rfor_inv (n := (M.length : Int)) (step := ref_SpreadBy_L3 (M.map (entE d down)) (freeM d down M) down) (s0 := (begM d down M, (GMap.nil : GMap Str Point)))
  (fun k s => s.1 = spB (atF d down) M (begM d down M) k ∧ s.2 = (M.take k).foldl (fun (m : GMap Str Point) r => m.set (idK d r) (ptF (spreadF d down M r))) GMap.nil) (by omega) ⟨rfl, rfl⟩ (fun k s hk hI => by
  obtain ⟨i1, i2⟩ := hI
  have hk' : k < M.length := by omega
  have hx := b3 _ (List.getElem_mem hk')
  have hB := spB_bd (A := atF d down) (M := M) (fun k hk' => (b3 k hk').2) (beg := begM d down M) k (by omega)
  unfold ref_SpreadBy_L3
  rw [need_of ⟨by omega, by simp; omega⟩, bnd_eq, hE (k : Int) ⟨by omega, by omega⟩, gx_nat hk']
  simp only [List.length_map, x1, x2, x3]
  rw [Wk (n := (M.length : Int) - 1) (by omega) (by omega), Wk (n := (k : Int) + 1) (by omega) (by omega)]
  have hS : spS (atF d down) M (begM d down M) (freeM d down M) k = if 0 < k ∧ k + 1 < M.length then spB (atF d down) M (begM d down M) k + (k * freeM d down M) / ((M.length : Int) - 1) - (atF d down M[k]).1 else 0 := by unfold spS; rw [gx_nat hk']
  have hB1 : spB (atF d down) M (begM d down M) (k + 1) = if 0 < k ∧ k + 1 < M.length then spB (atF d down) M (begM d down M) k + (atF d down M[k]).2.1 else spB (atF d down) M (begM d down M) k := by rw [spB, gx_nat hk']
  have hF : spreadF d down M M[k] = if down = true then (0, spS (atF d down) M (begM d down M) (freeM d down M) k) else (spS (atF d down) M (begM d down M) (freeM d down M) k, 0) := by unfold spreadF; rw [idxOf_nd hAM.nodup hk']
  rw [List.take_succ_eq_append_getElem hk', List.foldl_append]
  simp only [List.foldl_cons, List.foldl_nil]
  rw [← i2, hF]
  by_cases c : 0 < k ∧ k + 1 < M.length
  ·
   have hq := part_bdS (i := k) (n := M.length - 1) (f := freeM d down M) (by omega) (by omega) (by omega) (by omega)
   rw [show ((M.length - 1 : Nat) : Int) = (M.length : Int) - 1 by omega] at hq
   have hmul := mul_bdS (i := k) (f := freeM d down M) (by omega) (by omega) (by omega)
   rw [decide_eq_true (show (0 : Int) < (k : Int) by omega), decide_eq_true (show (k : Int) + 1 < (M.length : Int) by omega)]
   simp only [Bool.and_self, cond_true]
   rw [Wk (n := (k : Int) * freeM d down M) (by omega) (by omega), Down_eq (by omega) (by omega) (by omega) (by omega), Option.bind_some, i1]
   rw [Wk (n := spB (atF d down) M (begM d down M) k + (k : Int) * freeM d down M / ((M.length : Int) - 1)) (by omega) (by omega), Wk (n := spB (atF d down) M (begM d down M) k + (k : Int) * freeM d down M / ((M.length : Int) - 1) - (atF d down M[k]).1) (by omega) (by omega), Wk (n := spB (atF d down) M (begM d down M) k + (atF d down M[k]).2.1) (by omega) (by omega)]
   rw [hB1, if_pos c, hS, if_pos c]
   cases down with
   | true => simp [bnd_eq, ptF, set_setM]
   | false => simp [bnd_eq, ptF]
  ·
   have e : ((decide ((0 : Int) < (k : Int))) && (decide ((k : Int) + 1 < (M.length : Int)))) = false := by
    rw [Bool.and_eq_false_iff, decide_eq_false_iff_not, decide_eq_false_iff_not]; omega
   rw [e, cond_false, hB1, if_neg c, hS, if_neg c]
   cases down with
   | true => simp [bnd_eq, ptF, set_setM, i1]
   | false => simp [bnd_eq, ptF, i1])
 rw [g1, Option.bind_some]
 refine ⟨_, rfl, ?_⟩
 rw [g3, show (M.length : Int).toNat = M.length by omega, List.take_length]
 exact (foldSet_by h hAM _).perm hp
theorem Spread_both {d : Doc} (hf : fits d) (hck : page_Check d = some 0) (h : Right d) {ids : List Str} (hi : (ids.length : Int) ≤ 9223372036854775807) (hs : selErr d.Nodes ids = 0) (down : Bool) :
  ∃ r : Doc × Int, page_Spread d ids down = some r ∧ (r.2 ≠ 0 → r.1 = ⟨[], []⟩) ∧
   ((∃ m, ref_SpreadBy d ids down = some (m, 9) ∧ r = (⟨[], []⟩, 9) ∧ (rootL d.Nodes ids).length < 3) ∨
    (∃ m M, 3 ≤ (rootL d.Nodes ids).length ∧ M.Perm (rootL d.Nodes ids) ∧ srt (ltS d down) M ∧ ref_SpreadBy d ids down = some (m, 0) ∧ ref_MoveBy d m = some r ∧ (r.2 = 0 → r.1 = docM d (rootL d.Nodes ids) (spreadF d down M) ∧ Right r.1 ∧ page_Check r.1 = some 0))) := by
 have hA := rootL_apart h ids
 have hRl := rootL_len (l := d.Nodes) (ids := ids) h.nl
 by_cases h3 : 3 ≤ (rootL d.Nodes ids).length
 ·
  obtain ⟨M, m1, m2, m3, m4⟩ := spread_sort h down hA rootL_incr hRl
  obtain ⟨m, s1, s2⟩ := SpreadBy_eq h hi down h3 m1 m3
  obtain ⟨b1, b2, b3, b4⟩ := spread_bd h down (hA.perm m1) (by have := m1.length_eq; omega) (by have := m1.length_eq; omega)
  obtain ⟨r, r1, r2, r3, r4⟩ := by_both hf h hA (by omega) (f := spreadF d down M) (fun k hk => by
   have hk' := m1.mem_iff.2 hk
   have := b4 (M.idxOf k) (List.idxOf_lt_length_of_mem hk')
   unfold spreadF
   split
   ·
    simp only; omega
   ·
    simp only; omega)
  rw [Spread_eq hck h hi hs down h3 m1 m2, r1, Option.bind_some]
  exact ⟨r, rfl, r4, .inr ⟨m, M, h3, m1, m4, s1, r2 m s2, fun e => by rw [(r3 e).1]; exact ⟨rfl, (r3 e).2⟩⟩⟩
 ·
  have hro := RootsOf_eq h hi
  refine ⟨(⟨[], []⟩, 9), ?_, fun _ => rfl, .inl ⟨GMap.nil, ?_, rfl, by omega⟩⟩
  ·
   unfold page_Spread
   rw [bnd_eq, selected_eq hck h hi, if_pos hs, Option.bind_some]
   simp only [decide_true, Bool.not_true, cond_false, bnd_eq]
   rw [decide_eq_true (show ((rootL d.Nodes ids).length : Int) < 3 by omega)]; rfl
  ·
   unfold ref_SpreadBy
   rw [hro, Option.bind_some]
   obtain ⟨s, g1, g2⟩ := rfor_inv (n := (((rootL d.Nodes ids).map (fun k => (gx d.Nodes k).Id)).length : Int)) (step := ref_SpreadBy_L1 d ((rootL d.Nodes ids).map (fun k => (gx d.Nodes k).Id)) down) (s0 := ([] : List Ref_entry)) (fun k s => s.length = k) (by simp; omega) rfl (fun k s hk hI => by
    have hk' : k < (rootL d.Nodes ids).length := by simpa using hk
    obtain ⟨j, hj, e⟩ := hA.isIn _ (List.getElem_mem hk')
    unfold ref_SpreadBy_L1
    have hroom : room (s.length + 1) := by show _ ≤ _; omega
    rw [need_of ⟨by omega, by simp; omega⟩, bnd_eq, gx_nat (by simpa using hk'), List.getElem_map, e, gx_nat hj, (bxD_eq h hj).2.1, Option.bind_some]
    cases down with
    | true => exact ⟨_, by simp [bnd_eq, need_of hroom]; rfl, by simp [hI]⟩
    | false => exact ⟨_, by simp [bnd_eq, need_of hroom]; rfl, by simp [hI]⟩)
   rw [g1, Option.bind_some, g2, decide_eq_true (by simp; omega)]; rfl
theorem Equal_string_eqM {s : List Str} (hl : (s.length : Int) ≤ 9223372036854775807) : slices_Equal_string s s = some true := by
 unfold slices_Equal_string
 simp only [decide_true, Bool.not_true, cond_false]
 rw [rforE_same rfl hl (fun i hi => by
  unfold slices_Equal_string_L1
  rw [need_of ⟨by omega, by omega⟩, need_of ⟨by omega, by omega⟩, gx_nat hi]
  simp)]
 simp
theorem lists_okM {s : List Str} (hl : (s.length : Int) ≤ 9223372036854775807) {o : Option (List Str)} (h : o = some s) : law_lists_string s 0 0 o = some true := by
 unfold law_lists_string
 subst h
 simp only [decide_true, Bool.not_true, cond_false, gd_true, Option.bind_some]
 rw [Equal_string_eqM hl]; rfl
theorem lists_badM {e : Int} (he : e ≠ 0) {o : Option (List Str)} : law_lists_string [] e e o = some true := by
 unfold law_lists_string
 rw [decide_eq_false he]; simp
theorem Roots_badM {d : Doc} {ids : List Str} {r : Option Page_view × List Int × Int} (h : page_selected d ids = some r) (h0 : r.2.1 = []) : page_Roots d ids = some ([], r.2.2) := by
 unfold page_Roots
 rw [h, Option.bind_some, h0, rfor_eq (by simp)]; rfl
theorem Roots_eqM {d : Doc} (hck : page_Check d = some 0) (h : Right d) {ids : List Str} (hi : (ids.length : Int) ≤ 9223372036854775807) (hs : selErr d.Nodes ids = 0) : page_Roots d ids = some ((rootL d.Nodes ids).map (fun k => (gx d.Nodes k).Id), 0) := by
 have hRl := rootL_len (l := d.Nodes) (ids := ids) h.nl
 unfold page_Roots
 rw [selected_eq hck h hi, if_pos hs, Option.bind_some]
 simp only
 rw [rfor_gather (l := rootL d.Nodes ids) (fun k => [(gx d.Nodes k).Id]) [] (fun a _ => by simp) (by simp; omega) (fun i s hk hs' => by
  unfold page_Roots_L1
  simp only
  obtain ⟨j, hj, e, _⟩ := rootL_mem (gx_mem hk)
  rw [need_of hk, e, need_of ⟨by omega, by omega⟩, need_of (by show _ ≤ _; simp; omega)]), Option.bind_some, ← List.map_eq_flatMap, List.nil_append]
theorem docIs_same {d : Doc} {r : Doc × Int} (h1 : r.2 ≠ 0 → r.1 = ⟨[], []⟩) (h2 : r.2 = 0 → Right r.1) (x : Doc) : law_docIs r.1 r.2 r.2 (if r.2 = 0 then r.1 else x) = some true := by
 by_cases e : r.2 = 0
 ·
  have hr := h2 e
  have hn := hr.nl
  have he := hr.el
  rw [if_pos e, e]
  exact docIs_ok (by omega) (by omega) (fun y hy => by have := hr.bends hy; omega)
 ·
  rw [if_neg e, h1 e]
  exact docIs_bad e x
theorem MovesMatch_true (d : Doc) (ids : List Str) (dx dy how : Int) (down : Bool) (hd : fits d) (hids : fits ids) : law_MovesMatch d ids dx dy how down = some true := by
 obtain ⟨e, c1, c2, hr⟩ := Check_both hd
 have hi : (ids.length : Int) ≤ 9223372036854775807 := by have : ids.length ≤ 9223372036854775807 := hids.1; omega
 have bad : ∀ (v : Option Page_view) (e : Int), e ≠ 0 → page_selected d ids = some (v, [], e) → law_selected d ids = some e → law_MovesMatch d ids dx dy how down = some true := fun v e he hs hl => by
  unfold law_MovesMatch
  rw [hl, Option.bind_some, Roots_badM hs rfl, Option.bind_some, pages_eq, Option.bind_some]
  simp only [Bool.not_true, Bool.not_false, gd_true]
  rw [lists_badM he, Option.bind_some]
  simp only [Bool.not_true, Bool.or_self, cond_false]
  have q1 : page_Move d ids dx dy = some (⟨[], []⟩, e) := by
   unfold page_Move
   rw [bnd_eq, hs, Option.bind_some, decide_eq_false he]; rfl
  have q2 : page_Align d ids how = some (⟨[], []⟩, e) := by
   unfold page_Align
   rw [bnd_eq, hs, Option.bind_some, decide_eq_false he]; rfl
  have q3 : page_Spread d ids down = some (⟨[], []⟩, e) := by
   unfold page_Spread
   rw [bnd_eq, hs, Option.bind_some, decide_eq_false he]; rfl
  rw [q1, q2, q3, Option.bind_some, Option.bind_some, Option.bind_some, decide_eq_false he]
  simp only [Bool.not_false, cond_true]
  rw [docIs_bad he d]
  simp [gd]
 have hsel : law_selected d ids = (bif !decide (e = 0) then some e else ref_SelectionError d ids) := by
  unfold law_selected
  rw [c2, Option.bind_some]
  by_cases he : e = 0
  ·
   rw [decide_eq_true he]
   simp only [Bool.not_true, cond_false]
   cases ref_SelectionError d ids <;> rfl
  ·
   rw [decide_eq_false he]; rfl
 by_cases he : e = 0
 case neg => exact bad none e he (selected_bad c1 he ids) (by rw [hsel, decide_eq_false he]; rfl)
 subst he
 have h := hr rfl
 have hsel' : law_selected d ids = some (selErr d.Nodes ids) := by rw [hsel]; simp only [decide_true, Bool.not_true, cond_false]; exact SelectionError_eq h.nl hi
 by_cases hs : selErr d.Nodes ids = 0
 case neg => exact bad none _ hs (by rw [selected_eq c1 h hi, if_neg hs]) hsel'
 have hRl := rootL_len (l := d.Nodes) (ids := ids) h.nl
 unfold law_MovesMatch
 rw [hsel', hs, Option.bind_some, Roots_eqM c1 h hi hs, Option.bind_some, pages_eq, Option.bind_some]
 simp only [Bool.not_true, Bool.not_false, gd_true]
 rw [lists_okM (by simp; omega) (by unfold law_MovesMatch_1; rw [RootsOf_eq h hi]; rfl), Option.bind_some]
 simp only [Bool.not_true, Bool.or_self, cond_false, decide_true]
 obtain ⟨r, r1, r2, r3, r4⟩ := all_both hd h hi dx dy
 obtain ⟨a, a1, a2, a3⟩ := Align_both hd c1 h hi hs how
 obtain ⟨s, s1, s2, s3⟩ := Spread_both hd c1 h hi hs down
 have hm : page_Move d ids dx dy = some r := by
  unfold page_Move
  rw [bnd_eq, selected_eq c1 h hi, if_pos hs, Option.bind_some]
  simp only [decide_true, Bool.not_true, cond_false, Option.bind_some]
  rw [r1]; rfl
 have hd1 : law_docIs r.1 r.2 r.2 r.1 = some true := by
  have := docIs_same (d := d) r4 (fun e => by rw [(r3 e).1]; exact (r3 e).2.1) r.1
  simpa using this
 rw [hm, a1, s1, r2, Option.bind_some, Option.bind_some, Option.bind_some, Option.bind_some, hd1, Option.bind_some]
 simp only [Bool.not_true, cond_false]
 obtain ⟨x, hx1, hx2⟩ : ∃ x : Int × Doc, (Option.bind (ref_AlignBy d ids how) fun r12 => Option.bind (α := (Int × Doc)) (bif decide (r12.2 = 0) then (Option.bind (ref_MoveBy d r12.1) fun r13 => some (r13.2, r13.1)) else (some (r12.2, (⟨[], []⟩ : Doc)))) some) = some x ∧ law_docIs a.1 a.2 x.1 x.2 = some true := by
  rcases a3 with ⟨e, m, he, q1, q2⟩ | ⟨hb, m, _, _, _, _, q1, q2, q3⟩
  ·
   refine ⟨(e, ⟨[], []⟩), by rw [q1, Option.bind_some]; simp [he], ?_⟩
   rw [q2]; exact docIs_bad he _
  ·
   refine ⟨(a.2, a.1), by rw [q1, Option.bind_some]; simp [q2], ?_⟩
   have := docIs_same (d := d) a2 (fun e => (q3 e).2.1) a.1
   simpa using this
 have hx3 : ∃ m e, ref_AlignBy d ids how = some (m, e) := by
  rcases a3 with ⟨e, m, he, q1, q2⟩ | ⟨hb, m, _, _, _, _, q1, q2, q3⟩ <;> exact ⟨_, _, q1⟩
 obtain ⟨m, e, hme⟩ := hx3
 rw [hme, Option.bind_some] at hx1
 rw [hme, Option.bind_some, bnd_eq]
 have hx4 : (bif decide ((m, e).2 = 0) then (Option.bind (ref_MoveBy d (m, e).1) fun r13 => some (r13.2, r13.1)) else (some ((m, e).2, (⟨[], []⟩ : Doc)))) = some x := by
  cases hq : (bif decide ((m, e).2 = 0) then (Option.bind (ref_MoveBy d (m, e).1) fun r13 => some (r13.2, r13.1)) else (some ((m, e).2, (⟨[], []⟩ : Doc)))) with
  | none => rw [hq] at hx1; cases hx1
  | some y => rw [hq] at hx1; exact hx1
 rw [hx4, Option.bind_some, hx2, Option.bind_some]
 simp only [Bool.not_true, cond_false]
 rcases s3 with ⟨m2, q1, q2, _⟩ | ⟨m2, M, _, _, _, q1, q2, q3⟩
 ·
  rw [q1, Option.bind_some, q2]
  simp only [decide_false, cond_false, Option.bind_some, show ((9 : Int) = 0) = False by simp]
  rw [docIs_bad (by decide)]; rfl
 ·
  rw [q1, Option.bind_some]
  simp only [decide_true, cond_true]
  rw [q2, Option.bind_some, Option.bind_some]
  simp only
  have := docIs_same (d := d) s2 (fun e => (q3 e).2.1) s.1
  have h2 : law_docIs s.1 s.2 s.2 s.1 = some true := by simpa using this
  rw [h2]; rfl
end Go.DB
