/-
  The library's stable sort (over DOp): merging by halves; the sort as a whole.
-/
import Derived.Test.YtlkebjlooppdlaaGreatDoorTEMPuStableDOp
set_option linter.unusedSimpArgs false
set_option linter.unusedVariables false
namespace Go.DB.StbOp
open Go Go.RowKit Go.DB

section
variable {S : DOp → Prop} {lt : DOp → DOp → Bool} {f : DOp → DOp → Option Int}

/-- One element is moved to the right, step by step. -/
theorem right_loop {P L Q : List DOp} {x : DOp} {e : Int} (he : e = ((P.length + L.length + 1 : Nat) : Int)) (hlen : P.length + L.length + 1 ≤ 1073741824) :
    loop (slices_symMergeCmpFunc_Op_L2 e) ((P.length : Int), P ++ (x :: (L ++ Q))) = some (P ++ (L ++ x :: Q)) := by
  obtain ⟨r, h1, h2⟩ := loop_inv (body := slices_symMergeCmpFunc_Op_L2 e) (s0 := ((P.length : Int), P ++ (x :: (L ++ Q)))) (fun s => ∃ L1 L2, L = L1 ++ L2 ∧ s = (((P.length + L1.length : Nat) : Int), P ++ (L1 ++ x :: (L2 ++ Q))))
    (fun s => (e - s.1).toNat) (fun r => r = P ++ (L ++ x :: Q)) ⟨[], L, rfl, by simp⟩ (fun s hI => by
    obtain ⟨L1, L2, hL, rfl⟩ := hI
    have lL : L.length = L1.length + L2.length := by rw [hL, List.length_append]
    unfold slices_symMergeCmpFunc_Op_L2
    simp only
    rw [Wk (n := e - 1) (by omega) (by omega), Wk (n := ((P.length + L1.length : Nat) : Int) + 1) (by omega) (by omega)]
    cases L2 with
    | nil =>
      right
      have e1 : decide (((P.length + L1.length : Nat) : Int) < e - 1) = false := by rw [decide_eq_false_iff_not]; simp at lL; omega
      simp only [e1, cond_false]
      exact ⟨_, rfl, by rw [hL]; simp⟩
    | cons y L2' =>
      left
      simp only [List.length_cons] at lL
      have e1 : decide (((P.length + L1.length : Nat) : Int) < e - 1) = true := by rw [decide_eq_true_eq]; omega
      simp only [e1, cond_true]
      have hd : P ++ (L1 ++ x :: ((y :: L2') ++ Q)) = (P ++ L1) ++ x :: y :: (L2' ++ Q) := by simp
      obtain ⟨g1, g2, g3, g4, _, g6⟩ := swap_app (U := P ++ L1) (V := L2' ++ Q) (x := y) (y := x) (j := ((P.length + L1.length : Nat) : Int) + 1) (by simp)
      have ej : ((P.length + L1.length : Nat) : Int) + 1 - 1 = ((P.length + L1.length : Nat) : Int) := by omega
      rw [ej] at g2 g4 g6
      rw [hd, need_of g3, g1]
      simp only [bnd_eq]
      have g7 : inR (((P ++ L1) ++ x :: y :: (L2' ++ Q)).set (((P.length + L1.length : Nat) : Int)).toNat y) (((P.length + L1.length : Nat) : Int) + 1) := ⟨g3.1, by rw [List.length_set]; exact g3.2⟩
      rw [need_of g4, g2, need_of g4, need_of g7, g6]
      refine ⟨_, rfl, ⟨L1 ++ [y], L2', by rw [hL]; simp, Prod.ext (by simp; omega) (by simp)⟩, by simp only; omega⟩)
  rw [h1, h2]
/-- One element is moved to the left. -/
theorem left_loop {P L Q : List DOp} {x : DOp} (hlen : P.length + L.length + 1 ≤ 1073741824) :
    loop (slices_symMergeCmpFunc_Op_L4 (P.length : Int)) (((P.length + L.length : Nat) : Int), P ++ (L ++ x :: Q)) = some (P ++ (x :: (L ++ Q))) := by
  obtain ⟨r, h1, h2⟩ := loop_inv (body := slices_symMergeCmpFunc_Op_L4 (P.length : Int)) (s0 := (((P.length + L.length : Nat) : Int), P ++ (L ++ x :: Q))) (fun s => ∃ L1 L2, L = L1 ++ L2 ∧ s = (((P.length + L1.length : Nat) : Int), P ++ (L1 ++ x :: (L2 ++ Q))))
    (fun s => (s.1 - P.length).toNat) (fun r => r = P ++ (x :: (L ++ Q))) ⟨L, [], by simp, by simp⟩ (fun s hI => by
    obtain ⟨L1, L2, hL, rfl⟩ := hI
    have lL : L.length = L1.length + L2.length := by rw [hL, List.length_append]
    unfold slices_symMergeCmpFunc_Op_L4
    simp only
    rw [Wk (n := ((P.length + L1.length : Nat) : Int) - 1) (by omega) (by omega)]
    rcases List.eq_nil_or_concat L1 with h | ⟨L1', y, h⟩
    · right
      subst h
      have e1 : decide ((P.length : Int) < ((P.length + ([] : List DOp).length : Nat) : Int)) = false := by simp
      simp only [e1, cond_false]
      exact ⟨_, rfl, by rw [hL]; simp⟩
    · left
      rw [List.concat_eq_append] at h
      subst h
      have hl1 : (L1' ++ [y]).length = L1'.length + 1 := by simp
      have e1 : decide ((P.length : Int) < ((P.length + (L1' ++ [y]).length : Nat) : Int)) = true := by rw [decide_eq_true_eq]; omega
      simp only [e1, cond_true]
      have hd : P ++ ((L1' ++ [y]) ++ x :: (L2 ++ Q)) = (P ++ L1') ++ y :: x :: (L2 ++ Q) := by simp
      obtain ⟨g1, g2, g3, g4, g5, _⟩ := swap_app (U := P ++ L1') (V := L2 ++ Q) (x := x) (y := y) (j := ((P.length + (L1' ++ [y]).length : Nat) : Int)) (by simp; omega)
      rw [hd, need_of g4, g2]
      simp only [bnd_eq]
      have g7 : inR (((P ++ L1') ++ y :: x :: (L2 ++ Q)).set (((P.length + (L1' ++ [y]).length : Nat) : Int)).toNat y) (((P.length + (L1' ++ [y]).length : Nat) : Int) - 1) := ⟨g4.1, by rw [List.length_set]; exact g4.2⟩
      rw [need_of g3, g1, need_of g3, need_of g7, g5]
      refine ⟨_, rfl, ⟨L1', y :: L2, by rw [hL]; simp, Prod.ext (by simp only; omega) (by simp)⟩, by simp only; omega⟩)
  rw [h1, h2]

theorem srt_get (hw : Swo S lt f) {A : List DOp} (h : srt lt A) (hS : ∀ x ∈ A, S x) {i j : Nat} (hj : j < A.length) (hij : i ≤ j) : lt A[j] (A[i]'(by omega)) = false := by
  by_cases e : i = j
  · subst e; exact hw.irr (hS _ (List.getElem_mem _))
  · unfold srt at h
    rw [List.pairwise_iff_getElem] at h
    exact h i j (by omega) hj (by omega)

/-- One element ahead of a sorted list. -/
theorem merge_first (hw : Swo S lt f) {P B Q : List DOp} {x : DOp} (hB : B ≠ []) (hS : ∀ y ∈ x :: B, S y) (hs : srt lt B) (hlen : P.length + 1 + B.length ≤ 1073741824) :
    ∃ M, Sd lt (x :: B) M ∧ ∀ n, fixN slices_symMergeCmpFunc_Op_body (n + 1) (P ++ (x :: (B ++ Q)), (P.length : Int), ((P.length + 1 : Nat) : Int), ((P.length + 1 + B.length : Nat) : Int), f) = some (P ++ (M ++ Q)) := by
  have hx : S x := hS x (by simp)
  have hSB : ∀ y ∈ B, S y := fun y hy => hS y (by simp [hy])
  obtain ⟨s, s1, s2, s3, s4, s5⟩ := bsearch (body := slices_symMergeCmpFunc_Op_L1 (P ++ (x :: (B ++ Q)), (P.length : Int), ((P.length + 1 : Nat) : Int), ((P.length + 1 + B.length : Nat) : Int), f)) (fun h => if hh : P.length + 1 ≤ h ∧ h < P.length + 1 + B.length then lt (B[h - (P.length + 1)]'(by omega)) x else false) (lo := P.length + 1) (hi := P.length + 1 + B.length) (by omega)
    (fun i j i1 i2 i3 => by
      unfold slices_symMergeCmpFunc_Op_L1
      have e1 : decide ((i : Int) < (j : Int)) = true := by rw [decide_eq_true_eq]; omega
      simp only [e1, cond_true]
      rw [half_eq (by omega)]
      simp only [bnd_eq]
      have hk : (i + j) / 2 - (P.length + 1) < B.length := by omega
      have hd : P ++ (x :: (B ++ Q)) = (P ++ [x]) ++ (B ++ Q) := by simp
      have hg1 : gx (P ++ (x :: (B ++ Q))) (((i + j) / 2 : Nat) : Int) = B[(i + j) / 2 - (P.length + 1)] := by rw [hd]; exact gx_part hk (by simp; omega)
      have hr1 : inR (P ++ (x :: (B ++ Q))) (((i + j) / 2 : Nat) : Int) := by rw [hd]; exact inR_part hk (by simp; omega)
      have hg2 : gx (P ++ (x :: (B ++ Q))) (P.length : Int) = x := gx_app rfl
      have hr2 : inR (P ++ (x :: (B ++ Q))) (P.length : Int) := inR_app rfl
      obtain ⟨c, hc, hcl⟩ := hw.cmp (B[(i + j) / 2 - (P.length + 1)]) x (hSB _ (List.getElem_mem _)) hx
      rw [need_of hr1, need_of hr2, hg1, hg2, hc]
      simp only [bind_sm, hcl]
      rw [dif_pos ⟨by omega, by omega⟩]
      rw [Wk (n := (((i + j) / 2 : Nat) : Int) + 1) (by omega) (by omega)]
      cases lt (B[(i + j) / 2 - (P.length + 1)]) x <;> simp)
    (fun i i1 i2 => by
      unfold slices_symMergeCmpFunc_Op_L1
      have e1 : decide ((i : Int) < (i : Int)) = false := by simp
      simp only [e1, cond_false])
    (fun h k h1 h2 h3 hp => by
      rw [dif_pos ⟨by omega, h3⟩] at hp
      rw [dif_pos ⟨h1, by omega⟩]
      have hsrt := srt_get hw hs hSB (i := h - (P.length + 1)) (j := k - (P.length + 1)) (by omega) (by omega)
      cases hh : lt (B[h - (P.length + 1)]) x with
      | true => rfl
      | false =>
        have := hw.ntr _ _ _ (hSB _ (List.getElem_mem (show k - (P.length + 1) < B.length by omega))) (hSB _ (List.getElem_mem (show h - (P.length + 1) < B.length by omega))) hx hsrt hh
        rw [hp] at this; cases this)
  obtain ⟨B1, B2, hBB, hB1⟩ := cut (A := B) (n := s - (P.length + 1)) (by omega)
  have hlB : B.length = B1.length + B2.length := by rw [hBB, List.length_append]
  have hb1 : ∀ y ∈ B1, lt y x = true := fun y hy => by
    obtain ⟨i, hi, rfl⟩ := List.mem_iff_getElem.1 hy
    have := s3 (P.length + 1 + i) (by omega) (by omega)
    rw [dif_pos ⟨by omega, by omega⟩] at this
    have e : B[P.length + 1 + i - (P.length + 1)]'(by omega) = B1[i] := by simp only [hBB]; rw [List.getElem_append_left (by omega)]; congr 1; omega
    rwa [e] at this
  have hb2 : ∀ y ∈ B2, lt y x = false := fun y hy => by
    obtain ⟨i, hi, rfl⟩ := List.mem_iff_getElem.1 hy
    have := s4 (s + i) (by omega) (by omega)
    rw [dif_pos ⟨by omega, by omega⟩] at this
    have e : B[s + i - (P.length + 1)]'(by omega) = B2[i] := by simp only [hBB]; rw [List.getElem_append_right (by omega)]; congr 1; omega
    rwa [e] at this
  refine ⟨B1 ++ x :: B2, by rw [hBB]; exact Sd.insertF hw (by rw [← hBB]; exact hSB) hx (by rw [← hBB]; exact hs) hb1 hb2, fun n => ?_⟩
  show slices_symMergeCmpFunc_Op_body (fixN slices_symMergeCmpFunc_Op_body n) _ = _
  generalize fixN slices_symMergeCmpFunc_Op_body n = slf
  unfold slices_symMergeCmpFunc_Op_body
  have e1 : decide (W (((P.length + 1 : Nat) : Int) - (P.length : Int)) = 1) = true := by rw [Wk (by omega) (by omega), decide_eq_true_eq]; omega
  simp only [e1, cond_true, s5, bind_sm]
  have hr := right_loop (P := P) (L := B1) (Q := B2 ++ Q) (x := x) (e := (s : Int)) (by omega) (by omega)
  have hd : P ++ (x :: (B ++ Q)) = P ++ (x :: (B1 ++ (B2 ++ Q))) := by rw [hBB]; simp
  rw [hd, hr]
  simp

/-- One element behind a sorted list. -/
theorem merge_last (hw : Swo S lt f) {P A Q : List DOp} {y : DOp} (hA : 2 ≤ A.length) (hS : ∀ z ∈ A ++ [y], S z) (hs : srt lt A) (hlen : P.length + A.length + 1 ≤ 1073741824) :
    ∃ M, Sd lt (A ++ [y]) M ∧ ∀ n, fixN slices_symMergeCmpFunc_Op_body (n + 1) (P ++ (A ++ y :: Q), (P.length : Int), ((P.length + A.length : Nat) : Int), ((P.length + A.length + 1 : Nat) : Int), f) = some (P ++ (M ++ Q)) := by
  have hy : S y := hS y (by simp)
  have hSA : ∀ z ∈ A, S z := fun z hz => hS z (by simp [hz])
  obtain ⟨s, s1, s2, s3, s4, s5⟩ := bsearch (body := slices_symMergeCmpFunc_Op_L3 (P ++ (A ++ y :: Q), (P.length : Int), ((P.length + A.length : Nat) : Int), ((P.length + A.length + 1 : Nat) : Int), f)) (fun h => if hh : P.length ≤ h ∧ h < P.length + A.length then !lt y (A[h - P.length]'(by omega)) else false) (lo := P.length) (hi := P.length + A.length) (by omega)
    (fun i j i1 i2 i3 => by
      unfold slices_symMergeCmpFunc_Op_L3
      have e1 : decide ((i : Int) < (j : Int)) = true := by rw [decide_eq_true_eq]; omega
      simp only [e1, cond_true]
      rw [half_eq (by omega)]
      simp only [bnd_eq]
      have hk : (i + j) / 2 - P.length < A.length := by omega
      have hg1 : gx (P ++ (A ++ y :: Q)) (((i + j) / 2 : Nat) : Int) = A[(i + j) / 2 - P.length] := gx_part hk (by omega)
      have hr1 : inR (P ++ (A ++ y :: Q)) (((i + j) / 2 : Nat) : Int) := inR_part hk (by omega)
      have hd : P ++ (A ++ y :: Q) = (P ++ A) ++ y :: Q := by simp
      have hg2 : gx (P ++ (A ++ y :: Q)) ((P.length + A.length : Nat) : Int) = y := by rw [hd]; exact gx_app (by simp)
      have hr2 : inR (P ++ (A ++ y :: Q)) ((P.length + A.length : Nat) : Int) := by rw [hd]; exact inR_app (by simp)
      obtain ⟨c, hc, hcl⟩ := hw.cmp y (A[(i + j) / 2 - P.length]) hy (hSA _ (List.getElem_mem _))
      rw [need_of hr2, need_of hr1, hg1, hg2, hc]
      simp only [bind_sm, hcl]
      rw [dif_pos ⟨by omega, by omega⟩]
      rw [Wk (n := (((i + j) / 2 : Nat) : Int) + 1) (by omega) (by omega)]
      cases lt y (A[(i + j) / 2 - P.length]) <;> simp)
    (fun i i1 i2 => by
      unfold slices_symMergeCmpFunc_Op_L3
      have e1 : decide ((i : Int) < (i : Int)) = false := by simp
      simp only [e1, cond_false])
    (fun h k h1 h2 h3 hp => by
      rw [dif_pos ⟨by omega, h3⟩] at hp
      rw [dif_pos ⟨h1, by omega⟩]
      have hsrt := srt_get hw hs hSA (i := h - P.length) (j := k - P.length) (by omega) (by omega)
      simp only [Bool.not_eq_true'] at hp ⊢
      exact hw.ntr _ _ _ hy (hSA _ (List.getElem_mem (show k - P.length < A.length by omega))) (hSA _ (List.getElem_mem (show h - P.length < A.length by omega))) hp hsrt)
  obtain ⟨A1, A2, hAA, hA1⟩ := cut (A := A) (n := s - P.length) (by omega)
  have hlA : A.length = A1.length + A2.length := by rw [hAA, List.length_append]
  have ha1 : ∀ z ∈ A1, lt y z = false := fun z hz => by
    obtain ⟨i, hi, rfl⟩ := List.mem_iff_getElem.1 hz
    have := s3 (P.length + i) (by omega) (by omega)
    rw [dif_pos ⟨by omega, by omega⟩] at this
    have e : A[P.length + i - P.length]'(by omega) = A1[i] := by simp only [hAA]; rw [List.getElem_append_left (by omega)]; congr 1; omega
    rw [e] at this; simpa using this
  have ha2 : ∀ z ∈ A2, lt y z = true := fun z hz => by
    obtain ⟨i, hi, rfl⟩ := List.mem_iff_getElem.1 hz
    have := s4 (s + i) (by omega) (by omega)
    rw [dif_pos ⟨by omega, by omega⟩] at this
    have e : A[s + i - P.length]'(by omega) = A2[i] := by simp only [hAA]; rw [List.getElem_append_right (by omega)]; congr 1; omega
    rw [e] at this; simpa using this
  refine ⟨A1 ++ y :: A2, by rw [hAA]; exact Sd.insert hw (by rw [← hAA]; exact hSA) hy (by rw [← hAA]; exact hs) ha1 ha2, fun n => ?_⟩
  show slices_symMergeCmpFunc_Op_body (fixN slices_symMergeCmpFunc_Op_body n) _ = _
  generalize fixN slices_symMergeCmpFunc_Op_body n = slf
  unfold slices_symMergeCmpFunc_Op_body
  have e1 : decide (W (((P.length + A.length : Nat) : Int) - (P.length : Int)) = 1) = false := by rw [Wk (by omega) (by omega), decide_eq_false_iff_not]; omega
  have e2 : decide (W (((P.length + A.length + 1 : Nat) : Int) - ((P.length + A.length : Nat) : Int)) = 1) = true := by rw [Wk (by omega) (by omega), decide_eq_true_eq]; omega
  simp only [e1, e2, cond_true, cond_false, s5, bind_sm, bindR_nx]
  have hr := left_loop (P := P ++ A1) (L := A2) (Q := Q) (x := y) (by simp; omega)
  have hd : P ++ (A ++ y :: Q) = (P ++ A1) ++ (A2 ++ y :: Q) := by rw [hAA]; simp
  have hp1 : ((P ++ A1).length : Int) = (s : Int) := by simp; omega
  have hp2 : (((P ++ A1).length + A2.length : Nat) : Int) = ((P.length + A.length : Nat) : Int) := by simp; omega
  rw [hp1, hp2] at hr
  rw [hd, hr]
  simp

/-- Two sorted lists are merged. -/
theorem sym_merge (hw : Swo S lt f) : ∀ (k : Nat) (P A B Q : List DOp), A.length + B.length ≤ k → A ≠ [] → B ≠ [] → (∀ z ∈ A ++ B, S z) → srt lt A → srt lt B → (P ++ (A ++ (B ++ Q))).length ≤ 1073741824 →
    ∃ M, Sd lt (A ++ B) M ∧ ∀ n, k ≤ n → fixN slices_symMergeCmpFunc_Op_body n (P ++ (A ++ (B ++ Q)), (P.length : Int), ((P.length + A.length : Nat) : Int), ((P.length + A.length + B.length : Nat) : Int), f) = some (P ++ (M ++ Q))
  | 0, P, A, B, Q, hk, hA, hB, hS, sA, sB, hlen => by
    have := List.length_pos_iff.2 hA; omega
  | k + 1, P, A, B, Q, hk, hA, hB, hS, sA, sB, hlen => by
    have hA0 := List.length_pos_iff.2 hA
    have hB0 := List.length_pos_iff.2 hB
    have hl3 : P.length + A.length + B.length ≤ 1073741824 := by simp at hlen; omega
    have hSA : ∀ z ∈ A, S z := fun z hz => hS z (by simp [hz])
    have hSB : ∀ z ∈ B, S z := fun z hz => hS z (by simp [hz])
    by_cases c1 : A.length = 1
    · obtain ⟨x, rfl⟩ := List.length_eq_one_iff.1 c1
      obtain ⟨M, h1, h2⟩ := merge_first hw (P := P) (Q := Q) (x := x) hB (by simpa using hS) sB (by simp at hl3; omega)
      refine ⟨M, by simpa using h1, fun n hn => ?_⟩
      obtain ⟨n, rfl⟩ : ∃ m, n = m + 1 := ⟨n - 1, by omega⟩
      exact h2 n
    by_cases c2 : B.length = 1
    · obtain ⟨y, rfl⟩ := List.length_eq_one_iff.1 c2
      obtain ⟨M, h1, h2⟩ := merge_last hw (P := P) (A := A) (Q := Q) (y := y) (by omega) hS sA (by simp at hl3; omega)
      refine ⟨M, h1, fun n hn => ?_⟩
      obtain ⟨n, rfl⟩ : ∃ m, n = m + 1 := ⟨n - 1, by omega⟩
      exact h2 n
    -- where the two lists are cut
    obtain ⟨a, ha⟩ : ∃ a, a = P.length := ⟨_, rfl⟩
    obtain ⟨m, hm⟩ : ∃ m, m = P.length + A.length := ⟨_, rfl⟩
    obtain ⟨b, hb⟩ : ∃ b, b = P.length + A.length + B.length := ⟨_, rfl⟩
    obtain ⟨mid, hmid⟩ : ∃ mid, mid = (a + b) / 2 := ⟨_, rfl⟩
    have hgA : ∀ c, a ≤ c → (hc : c < m) → gx (P ++ (A ++ (B ++ Q))) (c : Int) = A[c - a]'(by omega) ∧ inR (P ++ (A ++ (B ++ Q))) (c : Int) := fun c c1 c2 => ⟨gx_part (by omega) (by omega), inR_part (i := c - a) (by omega) (by omega)⟩
    have hgB : ∀ c, m ≤ c → (hc : c < b) → gx (P ++ (A ++ (B ++ Q))) (c : Int) = B[c - m]'(by omega) ∧ inR (P ++ (A ++ (B ++ Q))) (c : Int) := fun c c1 c2 => by
      have hd : P ++ (A ++ (B ++ Q)) = (P ++ A) ++ (B ++ Q) := by simp
      rw [hd]
      exact ⟨gx_part (by omega) (by simp; omega), inR_part (i := c - m) (by omega) (by simp; omega)⟩
    obtain ⟨lo, hlo⟩ : ∃ lo, lo = if mid < m then mid + m - b else a := ⟨_, rfl⟩
    obtain ⟨hi, hhi⟩ : ∃ hi, hi = if mid < m then mid else m := ⟨_, rfl⟩
    have hlh : a ≤ lo ∧ lo ≤ hi ∧ hi ≤ m ∧ hi ≤ mid ∧ (mid < m → lo = mid + m - b ∧ hi = mid) ∧ (m ≤ mid → lo = a ∧ hi = m) := by
      by_cases c : mid < m
      · rw [if_pos c] at hlo hhi; omega
      · rw [if_neg c] at hlo hhi; omega
    -- the places that are compared
    have hpl : ∀ c, lo ≤ c → c < hi → a ≤ c ∧ c < m ∧ m ≤ mid + m - 1 - c ∧ mid + m - 1 - c < b := fun c h1 h2 => by
      by_cases cm : mid < m
      · have := hlh.2.2.2.2.1 cm; omega
      · have := hlh.2.2.2.2.2 (by omega); omega
    obtain ⟨s, s1, s2, s3, s4, s5⟩ := bsearch (body := slices_symMergeCmpFunc_Op_L5 (P ++ (A ++ (B ++ Q)), (P.length : Int), ((P.length + A.length : Nat) : Int), ((P.length + A.length + B.length : Nat) : Int), f) ((mid + m : Nat) : Int)) (fun c => if hh : lo ≤ c ∧ c < hi then !lt (B[mid + m - 1 - c - m]'(by have := hpl c hh.1 hh.2; omega)) (A[c - a]'(by have := hpl c hh.1 hh.2; omega)) else false) (lo := lo) (hi := hi) hlh.2.1
      (fun i j i1 i2 i3 => by
        unfold slices_symMergeCmpFunc_Op_L5
        have e1 : decide ((i : Int) < (j : Int)) = true := by rw [decide_eq_true_eq]; omega
        simp only [e1, cond_true]
        rw [half_eq (by omega)]
        simp only [bnd_eq]
        obtain ⟨q1, q2, q3, q4⟩ := hpl ((i + j) / 2) (by omega) (by omega)
        rw [Wk (n := ((mid + m : Nat) : Int) - 1) (by omega) (by omega), Wk (n := ((mid + m : Nat) : Int) - 1 - (((i + j) / 2 : Nat) : Int)) (by omega) (by omega), Wk (n := (((i + j) / 2 : Nat) : Int) + 1) (by omega) (by omega)]
        have ec : ((mid + m : Nat) : Int) - 1 - (((i + j) / 2 : Nat) : Int) = ((mid + m - 1 - (i + j) / 2 : Nat) : Int) := by omega
        obtain ⟨g1, r1⟩ := hgA ((i + j) / 2) q1 q2
        obtain ⟨g2, r2⟩ := hgB (mid + m - 1 - (i + j) / 2) q3 q4
        obtain ⟨cc, hc, hcl⟩ := hw.cmp (B[mid + m - 1 - (i + j) / 2 - m]'(by omega)) (A[(i + j) / 2 - a]'(by omega)) (hSB _ (List.getElem_mem _)) (hSA _ (List.getElem_mem _))
        rw [ec, need_of r2, need_of r1, g1, g2, hc]
        simp only [bind_sm, hcl]
        rw [dif_pos ⟨by omega, by omega⟩]
        cases lt (B[mid + m - 1 - (i + j) / 2 - m]'(by omega)) (A[(i + j) / 2 - a]'(by omega)) <;> simp)
      (fun i i1 i2 => by
        unfold slices_symMergeCmpFunc_Op_L5
        have e1 : decide ((i : Int) < (i : Int)) = false := by simp
        simp only [e1, cond_false])
      (fun h k h1 h2 h3 hp => by
        rw [dif_pos ⟨by omega, h3⟩] at hp
        rw [dif_pos ⟨h1, by omega⟩]
        obtain ⟨q1, q2, q3, q4⟩ := hpl h h1 (by omega)
        obtain ⟨w1, w2, w3, w4⟩ := hpl k (by omega) h3
        simp only [Bool.not_eq_true'] at hp ⊢
        have t1 := srt_get hw sB hSB (i := mid + m - 1 - k - m) (j := mid + m - 1 - h - m) (by omega) (by omega)
        have t2 := srt_get hw sA hSA (i := h - a) (j := k - a) (by omega) (by omega)
        have t3 := hw.ntr _ _ _ (hSB _ (List.getElem_mem (show mid + m - 1 - h - m < B.length by omega))) (hSB _ (List.getElem_mem (show mid + m - 1 - k - m < B.length by omega))) (hSA _ (List.getElem_mem (show k - a < A.length by omega))) t1 hp
        exact hw.ntr _ _ _ (hSB _ (List.getElem_mem (show mid + m - 1 - h - m < B.length by omega))) (hSA _ (List.getElem_mem (show k - a < A.length by omega))) (hSA _ (List.getElem_mem (show h - a < A.length by omega))) t3 t2)
    obtain ⟨A1, A2, hAA, hA1⟩ := cut (A := A) (n := s - a) (by omega)
    obtain ⟨B1, B2, hBB, hB1⟩ := cut (A := B) (n := mid - s) (by
      by_cases cm : mid < m
      · have := hlh.2.2.2.2.1 cm; omega
      · have := hlh.2.2.2.2.2 (by omega); omega)
    have hlA : A.length = A1.length + A2.length := by rw [hAA, List.length_append]
    have hlB : B.length = B1.length + B2.length := by rw [hBB, List.length_append]
    have gA1 : ∀ i, (hi : i < A1.length) → A1[i] = A[i]'(by omega) := fun i hi => by simp only [hAA]; rw [List.getElem_append_left hi]
    have gA2 : ∀ i, (hi : i < A2.length) → A2[i] = A[A1.length + i]'(by omega) := fun i hi => by simp only [hAA]; rw [List.getElem_append_right (by omega)]; congr 1; omega
    have gB1 : ∀ i, (hi : i < B1.length) → B1[i] = B[i]'(by omega) := fun i hi => by simp only [hBB]; rw [List.getElem_append_left hi]
    have gB2 : ∀ i, (hi : i < B2.length) → B2[i] = B[B1.length + i]'(by omega) := fun i hi => by simp only [hBB]; rw [List.getElem_append_right (by omega)]; congr 1; omega
    -- what stays ahead, and what goes ahead
    have hI : ∀ x ∈ A1, ∀ y ∈ B2, lt y x = false := fun x hx y hy => by
      obtain ⟨i, hi1, rfl⟩ := List.mem_iff_getElem.1 hx
      obtain ⟨j, hj1, rfl⟩ := List.mem_iff_getElem.1 hy
      by_cases cs : lo < s
      · have h3 := s3 (s - 1) (by omega) (by omega)
        rw [dif_pos ⟨by omega, by omega⟩] at h3
        simp only [Bool.not_eq_true'] at h3
        obtain ⟨w1, w2, w3, w4⟩ := hpl (s - 1) (by omega) (by omega)
        have t1 := srt_get hw sB hSB (i := mid + m - 1 - (s - 1) - m) (j := B1.length + j) (by omega) (by omega)
        have t2 := srt_get hw sA hSA (i := i) (j := s - 1 - a) (by omega) (by omega)
        rw [gA1 i hi1, gB2 j hj1]
        have t3 := hw.ntr _ _ _ (hSB _ (List.getElem_mem (show B1.length + j < B.length by omega))) (hSB _ (List.getElem_mem (show mid + m - 1 - (s - 1) - m < B.length by omega))) (hSA _ (List.getElem_mem (show s - 1 - a < A.length by omega))) t1 h3
        exact hw.ntr _ _ _ (hSB _ (List.getElem_mem (show B1.length + j < B.length by omega))) (hSA _ (List.getElem_mem (show s - 1 - a < A.length by omega))) (hSA _ (List.getElem_mem (show i < A.length by omega))) t3 t2
      · -- nothing of A is ahead, or nothing of B behind
        exfalso
        by_cases cm : mid < m
        · have := hlh.2.2.2.2.1 cm; omega
        · have := hlh.2.2.2.2.2 (by omega); omega
    have hII : ∀ y ∈ B1, ∀ x ∈ A2, lt y x = true := fun y hy x hx => by
      obtain ⟨i, hi1, rfl⟩ := List.mem_iff_getElem.1 hx
      obtain ⟨j, hj1, rfl⟩ := List.mem_iff_getElem.1 hy
      by_cases cs : s < hi
      · have h4 := s4 s (Nat.le_refl _) cs
        rw [dif_pos ⟨by omega, cs⟩] at h4
        obtain ⟨w1, w2, w3, w4⟩ := hpl s (by omega) cs
        have h4 : lt (B[mid + m - 1 - s - m]'(by omega)) (A[s - a]'(by omega)) = true := by simpa using h4
        have t1 := srt_get hw sB hSB (i := j) (j := mid + m - 1 - s - m) (by omega) (by omega)
        have t2 := srt_get hw sA hSA (i := s - a) (j := A1.length + i) (by omega) (by omega)
        rw [gA2 i hi1, gB1 j hj1]
        have t3 := hw.tr (hSB _ (List.getElem_mem (show mid + m - 1 - s - m < B.length by omega))) (hSA _ (List.getElem_mem (show s - a < A.length by omega))) (hSA _ (List.getElem_mem (show A1.length + i < A.length by omega))) h4 t2
        cases hh : lt (B[j]'(by omega)) (A[A1.length + i]'(by omega)) with
        | true => rfl
        | false =>
          have := hw.ntr _ _ _ (hSB _ (List.getElem_mem (show mid + m - 1 - s - m < B.length by omega))) (hSB _ (List.getElem_mem (show j < B.length by omega))) (hSA _ (List.getElem_mem (show A1.length + i < A.length by omega))) t1 hh
          rw [t3] at this; cases this
      · exfalso
        by_cases cm : mid < m
        · have := hlh.2.2.2.2.1 cm; omega
        · have := hlh.2.2.2.2.2 (by omega); omega
    have hSS : ∀ y ∈ (A1 ++ A2) ++ (B1 ++ B2), S y := by rw [← hAA, ← hBB]; exact hS
    have sA' : srt lt (A1 ++ A2) := by rw [← hAA]; exact sA
    have sB' : srt lt (B1 ++ B2) := by rw [← hBB]; exact sB
    -- the halves
    have half1 : ∃ M1, Sd lt (A1 ++ B1) M1 ∧ ∀ (n : Nat), k ≤ n → (bif (decide ((a : Int) < (s : Int))) && (decide ((s : Int) < (mid : Int))) then (Option.bind (fixN slices_symMergeCmpFunc_Op_body n (P ++ (A1 ++ (B1 ++ (A2 ++ (B2 ++ Q)))), (a : Int), (s : Int), (mid : Int), f)) fun r5 => some r5) else some (P ++ (A1 ++ (B1 ++ (A2 ++ (B2 ++ Q)))))) = some (P ++ (M1 ++ (A2 ++ (B2 ++ Q)))) := by
      by_cases c : A1 ≠ [] ∧ B1 ≠ []
      · have x1 := List.length_pos_iff.2 c.1
        have x2 := List.length_pos_iff.2 c.2
        obtain ⟨M1, h1, h2⟩ := sym_merge hw k P A1 B1 (A2 ++ (B2 ++ Q)) (by omega) c.1 c.2 (fun z hz => hSS z (by rcases List.mem_append.1 hz with h | h <;> simp [h])) (srt_left sA') (srt_left sB') (by simp at hlen ⊢; omega)
        refine ⟨M1, h1, fun n hn => ?_⟩
        have e1 : ((decide ((a : Int) < (s : Int))) && (decide ((s : Int) < (mid : Int)))) = true := by simp; omega
        rw [e1]
        simp only [cond_true]
        have i1 : (a : Int) = (P.length : Int) := by omega
        have i2 : (s : Int) = ((P.length + A1.length : Nat) : Int) := by omega
        have i3 : (mid : Int) = ((P.length + A1.length + B1.length : Nat) : Int) := by omega
        rw [i1, i2, i3, h2 n hn]; rfl
      · have c : A1 = [] ∨ B1 = [] := by
          by_cases c1 : A1 = []
          · exact .inl c1
          · by_cases c2 : B1 = []
            · exact .inr c2
            · exact absurd ⟨c1, c2⟩ c
        refine ⟨A1 ++ B1, ⟨List.Perm.refl _, ?_, fun _ h => h⟩, fun n hn => ?_⟩
        · rcases c with c | c
          · rw [c, List.nil_append]; exact srt_left sB'
          · rw [c, List.append_nil]; exact srt_left sA'
        · have e1 : ((decide ((a : Int) < (s : Int))) && (decide ((s : Int) < (mid : Int)))) = false := by
            rcases c with c | c
            · have : A1.length = 0 := by rw [c]; rfl
              simp; omega
            · have : B1.length = 0 := by rw [c]; rfl
              simp; omega
          rw [e1]; simp
    obtain ⟨M1, hM1, hm1⟩ := half1
    have hlM1 := hM1.len
    rw [List.length_append] at hlM1
    have half2 : ∃ M2, Sd lt (A2 ++ B2) M2 ∧ ∀ (n : Nat), k ≤ n → (bif (decide ((mid : Int) < ((mid + m - s : Nat) : Int))) && (decide (((mid + m - s : Nat) : Int) < (b : Int))) then (Option.bind (fixN slices_symMergeCmpFunc_Op_body n (P ++ (M1 ++ (A2 ++ (B2 ++ Q))), (mid : Int), ((mid + m - s : Nat) : Int), (b : Int), f)) fun r6 => some r6) else some (P ++ (M1 ++ (A2 ++ (B2 ++ Q))))) = some (P ++ (M1 ++ (M2 ++ Q))) := by
      by_cases c : A2 ≠ [] ∧ B2 ≠ []
      · have x1 := List.length_pos_iff.2 c.1
        have x2 := List.length_pos_iff.2 c.2
        obtain ⟨M2, h1, h2⟩ := sym_merge hw k (P ++ M1) A2 B2 Q (by omega) c.1 c.2 (fun z hz => hSS z (by rcases List.mem_append.1 hz with h | h <;> simp [h])) (srt_right sA') (srt_right sB') (by simp at hlen ⊢; omega)
        refine ⟨M2, h1, fun n hn => ?_⟩
        have e1 : ((decide ((mid : Int) < ((mid + m - s : Nat) : Int))) && (decide (((mid + m - s : Nat) : Int) < (b : Int)))) = true := by simp; omega
        rw [e1]
        simp only [cond_true]
        have i1 : (mid : Int) = ((P ++ M1).length : Int) := by simp; omega
        have i2 : ((mid + m - s : Nat) : Int) = (((P ++ M1).length + A2.length : Nat) : Int) := by simp; omega
        have i3 : (b : Int) = (((P ++ M1).length + A2.length + B2.length : Nat) : Int) := by simp; omega
        have hd : ∀ R : List DOp, P ++ (M1 ++ R) = (P ++ M1) ++ R := fun R => by simp
        rw [i1, i2, i3, hd, h2 n hn]; simp
      · have c : A2 = [] ∨ B2 = [] := by
          by_cases c1 : A2 = []
          · exact .inl c1
          · by_cases c2 : B2 = []
            · exact .inr c2
            · exact absurd ⟨c1, c2⟩ c
        refine ⟨A2 ++ B2, ⟨List.Perm.refl _, ?_, fun _ h => h⟩, fun n hn => ?_⟩
        · rcases c with c | c
          · rw [c, List.nil_append]; exact srt_right sB'
          · rw [c, List.append_nil]; exact srt_right sA'
        · have e1 : ((decide ((mid : Int) < ((mid + m - s : Nat) : Int))) && (decide (((mid + m - s : Nat) : Int) < (b : Int)))) = false := by
            rcases c with c | c
            · have : A2.length = 0 := by rw [c]; rfl
              simp; omega
            · have : B2.length = 0 := by rw [c]; rfl
              simp; omega
          rw [e1]; simp
    obtain ⟨M2, hM2, hm2⟩ := half2
    refine ⟨M1 ++ M2, by rw [hAA, hBB]; exact Sd.halves hw hSS sA' sB' hI hII hM1 hM2, fun n hn => ?_⟩
    obtain ⟨n, rfl⟩ : ∃ n', n = n' + 1 := ⟨n - 1, by omega⟩
    have hm1 := hm1 n (by omega)
    have hm2 := hm2 n (by omega)
    show slices_symMergeCmpFunc_Op_body (fixN slices_symMergeCmpFunc_Op_body n) _ = _
    generalize fixN slices_symMergeCmpFunc_Op_body n = slf at hm1 hm2 ⊢
    unfold slices_symMergeCmpFunc_Op_body
    have w1 : decide (W (((P.length + A.length : Nat) : Int) - (P.length : Int)) = 1) = false := by rw [Wk (by omega) (by omega), decide_eq_false_iff_not]; omega
    have w2 : decide (W (((P.length + A.length + B.length : Nat) : Int) - ((P.length + A.length : Nat) : Int)) = 1) = false := by rw [Wk (by omega) (by omega), decide_eq_false_iff_not]; omega
    simp only [w1, w2, cond_false, bindR_nx]
    rw [half_eq (by omega)]
    have i1 : (P.length : Int) = (a : Int) := by omega
    have i2 : ((P.length + A.length : Nat) : Int) = (m : Int) := by omega
    have i3 : ((P.length + A.length + B.length : Nat) : Int) = (b : Int) := by omega
    have i4 : (((P.length + (P.length + A.length + B.length)) / 2 : Nat) : Int) = (mid : Int) := by omega
    rw [i1, i2, i3] at s5
    simp only [bnd_eq, i1, i2, i3, i4]
    rw [Wk (n := (mid : Int) + (m : Int)) (by omega) (by omega)]
    have hnn : (mid : Int) + (m : Int) = ((mid + m : Nat) : Int) := by omega
    rw [hnn]
    have hsr : (bif decide ((mid : Int) < (m : Int)) then some (W (((mid + m : Nat) : Int) - (b : Int)), (mid : Int)) else some ((a : Int), (m : Int))) = some ((lo : Int), (hi : Int)) := by
      by_cases cm : mid < m
      · have e : decide ((mid : Int) < (m : Int)) = true := by simp; omega
        have := hlh.2.2.2.2.1 cm
        rw [e, Wk (by omega) (by omega)]
        simp only [cond_true]
        congr 2 <;> omega
      · have e : decide ((mid : Int) < (m : Int)) = false := by simp; omega
        have := hlh.2.2.2.2.2 (by omega)
        rw [e]
        simp only [cond_false]
        congr 2 <;> omega
    rw [hsr]
    simp only [bind_sm]
    rw [s5]
    simp only [bind_sm]
    rw [Wk (n := ((mid + m : Nat) : Int) - (s : Int)) (by omega) (by omega)]
    have hend : ((mid + m : Nat) : Int) - (s : Int) = ((mid + m - s : Nat) : Int) := by omega
    rw [hend]
    -- the parts in the middle change places
    have hrot : (bif (decide ((s : Int) < (m : Int))) && (decide ((m : Int) < ((mid + m - s : Nat) : Int))) then (Option.bind (slices_rotateCmpFunc_Op (P ++ (A ++ (B ++ Q))) (s : Int) (m : Int) ((mid + m - s : Nat) : Int) f) fun r4 => some r4) else some (P ++ (A ++ (B ++ Q)))) = some (P ++ (A1 ++ (B1 ++ (A2 ++ (B2 ++ Q))))) := by
      by_cases c : A2 ≠ [] ∧ B1 ≠ []
      · have x1 := List.length_pos_iff.2 c.1
        have x2 := List.length_pos_iff.2 c.2
        have e1 : ((decide ((s : Int) < (m : Int))) && (decide ((m : Int) < ((mid + m - s : Nat) : Int)))) = true := by simp; omega
        rw [e1]
        simp only [cond_true]
        have hd : P ++ (A ++ (B ++ Q)) = (P ++ A1) ++ (A2 ++ (B1 ++ (B2 ++ Q))) := by rw [hAA, hBB]; simp
        have hr := rotate_eq (f := f) (P := P ++ A1) (X := A2) (Y := B1) (Q := B2 ++ Q) c.1 c.2 (by rw [← hd]; exact hlen)
        have j1 : ((P ++ A1).length : Int) = (s : Int) := by simp; omega
        have j2 : (((P ++ A1).length + A2.length : Nat) : Int) = (m : Int) := by simp; omega
        have j3 : (((P ++ A1).length + A2.length + B1.length : Nat) : Int) = ((mid + m - s : Nat) : Int) := by simp; omega
        rw [j1, j2, j3] at hr
        rw [hd, hr]; simp
      · have c : A2 = [] ∨ B1 = [] := by
          by_cases c1 : A2 = []
          · exact .inl c1
          · by_cases c2 : B1 = []
            · exact .inr c2
            · exact absurd ⟨c1, c2⟩ c
        have e1 : ((decide ((s : Int) < (m : Int))) && (decide ((m : Int) < ((mid + m - s : Nat) : Int)))) = false := by
          rcases c with c | c
          · have : A2.length = 0 := by rw [c]; rfl
            simp; omega
          · have : B1.length = 0 := by rw [c]; rfl
            simp; omega
        rw [e1, hAA, hBB]
        rcases c with c | c <;> rw [c] <;> simp
    rw [hrot]
    simp only [bind_sm]
    rw [hm1]
    simp only [bind_sm]
    rw [hm2]
    simp
end

end Go.DB.StbOp
