/-
  The library's stable sort (over DOp): the sort as a whole.
-/
import Derived.Test.YtlkebjlooppdlaaGreatDoorTEMPuMergeDOp
set_option linter.unusedSimpArgs false
set_option linter.unusedVariables false
namespace Go.DB.StbOp
open Go Go.RowKit Go.DB

section
variable {S : DOp → Prop} {lt : DOp → DOp → Bool} {f : DOp → DOp → Option Int}

theorem merge_call (hw : Swo S lt f) {P A B Q : List DOp} (hA : A ≠ []) (hB : B ≠ []) (hS : ∀ z ∈ A ++ B, S z) (sA : srt lt A) (sB : srt lt B) (hlen : (P ++ (A ++ (B ++ Q))).length ≤ 1073741824) :
    ∃ M, Sd lt (A ++ B) M ∧ slices_symMergeCmpFunc_Op (P ++ (A ++ (B ++ Q))) (P.length : Int) ((P.length + A.length : Nat) : Int) ((P.length + A.length + B.length : Nat) : Int) f = some (P ++ (M ++ Q)) := by
  obtain ⟨M, h1, h2⟩ := sym_merge hw (A.length + B.length) P A B Q (Nat.le_refl _) hA hB hS sA sB hlen
  exact ⟨M, h1, fixp_of _ h2⟩

/-- Blocks of 20 are sorted. -/
theorem blocks_eq (hw : Swo S lt f) {D : List DOp} (hS : ∀ x ∈ D, S x) (hlen : D.length ≤ 1000000000) :
    ∃ (P R : List DOp), loop (slices_stableCmpFunc_Op_L1 (D.length : Int) f) (0, 20, D) = some ((P.length : Int), P ++ R) ∧ BlF lt 20 P ∧ R.length ≤ 20 ∧ Pk lt D (P ++ R) := by
  obtain ⟨e, h1, P, R, rfl, h3, h4, h5⟩ := loop_inv (body := slices_stableCmpFunc_Op_L1 (D.length : Int) f) (s0 := (0, 20, D)) (fun s => ∃ P R : List DOp, s = ((P.length : Int), (P.length : Int) + 20, P ++ R) ∧ BlF lt 20 P ∧ Pk lt D (P ++ R)) (fun s => ((D.length : Int) + 20 - s.2.1).toNat)
    (fun e => ∃ P R : List DOp, e = ((P.length : Int), P ++ R) ∧ BlF lt 20 P ∧ R.length ≤ 20 ∧ Pk lt D (P ++ R)) ⟨[], D, by simp, .nil, Pk.refl D⟩ (fun s hI => by
    obtain ⟨P, R, rfl, hP, hPk⟩ := hI
    have hl := hPk.len
    rw [List.length_append] at hl
    unfold slices_stableCmpFunc_Op_L1
    simp only
    by_cases c : 20 ≤ R.length
    · left
      have e1 : decide ((P.length : Int) + 20 ≤ (D.length : Int)) = true := by rw [decide_eq_true_eq]; omega
      obtain ⟨A, R', rfl, hA⟩ := cut c
      obtain ⟨M, m1, m2⟩ := ins_sort hw (P := P) (M := A) (Q := R') (fun x hx => hPk.all hS x (by simp [hx])) (by omega)
      have i2 : ((P.length + A.length : Nat) : Int) = (P.length : Int) + 20 := by omega
      rw [i2] at m2
      simp only [e1, cond_true]
      rw [m2]
      simp only [bind_sm, bnd_eq]
      rw [Wk (by omega) (by omega)]
      have hml := m1.len
      refine ⟨_, rfl, ⟨P ++ M, R', Prod.ext (by simp; omega) (Prod.ext (by simp; omega) (by simp)), .snoc hP (by omega) m1.srtd, ?_⟩, by simp only; omega⟩
      have := hPk.trans (m1.pk.mid P R')
      simpa using this
    · right
      have e1 : decide ((P.length : Int) + 20 ≤ (D.length : Int)) = false := by rw [decide_eq_false_iff_not]; omega
      simp only [e1, cond_false]
      exact ⟨_, rfl, P, R, rfl, hP, by omega, hPk⟩)
  exact ⟨P, R, h1, h3, h4, h5⟩

/-- Pairs of blocks are merged. -/
theorem pass_eq (hw : Swo S lt f) {D : List DOp} {b : Nat} (hb : 1 ≤ b) (hS : ∀ x ∈ D, S x) (hlen : D.length ≤ 1000000000) (hbn : b < D.length) (hD : Bl lt b D) {x7 : Int × List DOp} (hx7 : x7.1 = (b : Int)) :
    ∃ (P R : List DOp), loop (slices_stableCmpFunc_Op_L3 (D.length : Int) x7 f) (0, 2 * (b : Int), D) = some ((P.length : Int), P ++ R) ∧ BlF lt (2 * b) P ∧ R.length < 2 * b ∧ Bl lt b R ∧ Pk lt D (P ++ R) := by
  obtain ⟨e, h1, P, R, rfl, h3, h4, h5, h6⟩ := loop_inv (body := slices_stableCmpFunc_Op_L3 (D.length : Int) x7 f) (s0 := (0, 2 * (b : Int), D)) (fun s => ∃ P R : List DOp, s = ((P.length : Int), (P.length : Int) + 2 * (b : Int), P ++ R) ∧ BlF lt (2 * b) P ∧ Bl lt b R ∧ Pk lt D (P ++ R)) (fun s => ((D.length : Int) + 2 * (b : Int) - s.2.1).toNat)
    (fun e => ∃ P R : List DOp, e = ((P.length : Int), P ++ R) ∧ BlF lt (2 * b) P ∧ R.length < 2 * b ∧ Bl lt b R ∧ Pk lt D (P ++ R)) ⟨[], D, by simp, .nil, hD, Pk.refl D⟩ (fun s hI => by
    obtain ⟨P, R, rfl, hP, hR, hPk⟩ := hI
    have hl := hPk.len
    rw [List.length_append] at hl
    unfold slices_stableCmpFunc_Op_L3
    simp only [hx7]
    by_cases c : 2 * b ≤ R.length
    · left
      have e1 : decide ((P.length : Int) + 2 * (b : Int) ≤ (D.length : Int)) = true := by rw [decide_eq_true_eq]; omega
      obtain ⟨A, R1, rfl, hA, sA, hR1⟩ := hR.first (by omega)
      rw [List.length_append] at c hl
      obtain ⟨B, R', rfl, hB, sB, hR'⟩ := hR1.first (by omega)
      rw [List.length_append] at c hl
      obtain ⟨M, m1, m2⟩ := merge_call hw (P := P) (A := A) (B := B) (Q := R') (fun e => by have := congrArg List.length e; rw [List.length_nil] at this; omega) (fun e => by have := congrArg List.length e; rw [List.length_nil] at this; omega) (fun x hx => hPk.all hS x (by rcases List.mem_append.1 hx with h | h <;> simp [h])) sA sB (by simp; omega)
      have i2 : ((P.length + A.length : Nat) : Int) = (P.length : Int) + (b : Int) := by omega
      have i3 : ((P.length + A.length + B.length : Nat) : Int) = (P.length : Int) + 2 * (b : Int) := by omega
      rw [i2, i3] at m2
      simp only [e1, cond_true]
      rw [Wk (n := (P.length : Int) + (b : Int)) (by omega) (by omega), m2]
      simp only [bind_sm, bnd_eq]
      rw [Wk (n := 2 * (b : Int)) (by omega) (by omega), Wk (by omega) (by omega)]
      have hml := m1.len
      rw [List.length_append] at hml
      refine ⟨_, rfl, ⟨P ++ M, R', Prod.ext (by simp; omega) (Prod.ext (by simp; omega) (by simp)), .snoc hP (by omega) m1.srtd, hR', ?_⟩, by simp only; omega⟩
      have := hPk.trans (by have := m1.pk.mid P R'; simpa using this)
      simpa using this
    · right
      have e1 : decide ((P.length : Int) + 2 * (b : Int) ≤ (D.length : Int)) = false := by rw [decide_eq_false_iff_not]; omega
      simp only [e1, cond_false]
      exact ⟨_, rfl, P, R, rfl, hP, by omega, hR, hPk⟩)
  exact ⟨P, R, h1, h3, h4, h5, h6⟩

/-- The stable sort. -/
theorem stable_eq (hw : Swo S lt f) {D : List DOp} (hS : ∀ x ∈ D, S x) (hlen : D.length ≤ 100000000) : ∃ M, Sd lt D M ∧ slices_SortStableFunc_Op D f = some M := by
  unfold slices_SortStableFunc_Op slices_stableCmpFunc_Op
  obtain ⟨P, R, h1, h2, h3, h4⟩ := blocks_eq hw hS (by omega)
  have hl := h4.len
  rw [List.length_append] at hl
  rw [h1]
  simp only [bind_sm]
  obtain ⟨R', r1, r2⟩ := ins_sort hw (P := P) (M := R) (Q := []) (fun x hx => h4.all hS x (by simp [hx])) (by omega)
  have i1 : ((P.length + R.length : Nat) : Int) = (D.length : Int) := by omega
  rw [i1] at r2
  simp only [List.append_nil] at r2
  rw [r2]
  simp only [bind_sm]
  have hB : Bl lt 20 (P ++ R') := h2.bl (.last (by rw [r1.len]; exact h3) r1.srtd)
  have hPk : Pk lt D (P ++ R') := h4.trans (by have := r1.pk.mid P []; simpa using this)
  obtain ⟨e, g1, g2⟩ := loop_inv (body := slices_stableCmpFunc_Op_L2 (D.length : Int) f) (s0 := (20, P ++ R')) (fun s => ∃ (b : Nat) (E : List DOp), s = ((b : Int), E) ∧ 1 ≤ b ∧ b ≤ 400000000 ∧ Bl lt b E ∧ Pk lt D E) (fun s => (2 * (D.length : Int) - s.1).toNat) (fun e => Sd lt D e)
    ⟨20, P ++ R', rfl, by omega, by omega, hB, hPk⟩ (fun s hI => by
    obtain ⟨b, E, rfl, b1, b2, hE, hk⟩ := hI
    have hlE := hk.len
    unfold slices_stableCmpFunc_Op_L2
    simp only
    by_cases c : b < D.length
    · left
      have e1 : decide ((b : Int) < (D.length : Int)) = true := by rw [decide_eq_true_eq]; omega
      simp only [e1, cond_true, bnd_eq]
      rw [Wk (n := 2 * (b : Int)) (by omega) (by omega)]
      obtain ⟨P2, R2, q1, q2, q3, q4, q5⟩ := pass_eq hw (x7 := ((b : Int), E)) b1 (hk.all hS) (by omega) (by omega) hE rfl
      rw [hlE] at q1
      have hl2 := q5.len
      rw [List.length_append] at hl2
      rw [q1]
      simp only [bind_sm]
      rw [Wk (n := (P2.length : Int) + (b : Int)) (by omega) (by omega), Wk (n := (b : Int) * 2) (by omega) (by omega)]
      have hb2 : (b : Int) * 2 = ((2 * b : Nat) : Int) := by omega
      by_cases c2 : b < R2.length
      · have e2 : decide ((P2.length : Int) + (b : Int) < (D.length : Int)) = true := by rw [decide_eq_true_eq]; omega
        simp only [e2, cond_true]
        obtain ⟨A, B, rfl, hA, sA, hBl⟩ := q4.first (by omega)
        rw [List.length_append] at c2 q3 hl2
        have sB := hBl.all (by omega)
        obtain ⟨M, m1, m2⟩ := merge_call hw (P := P2) (A := A) (B := B) (Q := []) (fun e => by have := congrArg List.length e; rw [List.length_nil] at this; omega) (fun e => by have := congrArg List.length e; rw [List.length_nil] at this; omega) (fun x hx => q5.all (hk.all hS) x (List.mem_append_right _ hx)) sA sB (by simp; omega)
        have i2 : ((P2.length + A.length : Nat) : Int) = (P2.length : Int) + (b : Int) := by omega
        have i3 : ((P2.length + A.length + B.length : Nat) : Int) = (D.length : Int) := by omega
        rw [i2, i3] at m2
        simp only [List.append_nil] at m2
        rw [m2]
        simp only [bind_sm]
        have hml := m1.len
        rw [List.length_append] at hml
        refine ⟨_, rfl, ⟨2 * b, P2 ++ M, Prod.ext hb2 rfl, by omega, by omega, q2.bl (.last (by omega) m1.srtd), ?_⟩, by simp only; omega⟩
        exact (hk.trans q5).trans (by have := m1.pk.mid P2 []; simpa using this)
      · have e2 : decide ((P2.length : Int) + (b : Int) < (D.length : Int)) = false := by rw [decide_eq_false_iff_not]; omega
        simp only [e2, cond_false, bind_sm]
        refine ⟨_, rfl, ⟨2 * b, P2 ++ R2, Prod.ext hb2 rfl, by omega, by omega, q2.bl (.last (by omega) (q4.all (by omega))), hk.trans q5⟩, by simp only; omega⟩
    · right
      have e1 : decide ((b : Int) < (D.length : Int)) = false := by rw [decide_eq_false_iff_not]; omega
      simp only [e1, cond_false]
      exact ⟨_, rfl, hk.sd (hE.all (by omega))⟩)
  rw [g1]
  exact ⟨e, g2, rfl⟩
end

end Go.DB.StbOp
