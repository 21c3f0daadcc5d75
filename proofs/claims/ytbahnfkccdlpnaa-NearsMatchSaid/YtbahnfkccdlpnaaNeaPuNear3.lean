/-
  The reference's places, and the law.
-/
import Derived.Test.YtbahnfkccdlpnaaNeaPuNear2
import Derived.Test.YtbahnfkccdlpnaaNeaPuGraph
set_option linter.unusedSimpArgs false
set_option linter.unusedVariables false
namespace Go.DB
open Go Go.RowKit

section
variable {want size : List Int} {gap : Int}

theorem ab_bd {want size : List Int} {gap : Int} (h : NearOK want size gap) {i k : Nat} (hi : i < want.length) (hk : k < (vals want size gap).length) : 0 ≤ ab (vl want size gap k - lvl want size gap i) ∧ ab (vl want size gap k - lvl want size gap i) ≤ 100000000 := by
  have h1 := (vals_facts h).2.2.2 k hk
  have h2 := lvl_bd h hi
  unfold ab vl; omega
/-- The cost at a place. -/
theorem cost_at {want size : List Int} {gap : Int} (h : NearOK want size gap) {i k : Nat} (hi : i < want.length) (hk : k < (vals want size gap).length) :
    ref_Abs (W ((W ((gx (vals want size gap) (k : Int)) + (offF size gap i))) - (gx want (i : Int)))) = some (ab (vl want size gap k - lvl want size gap i)) := by
  have h1 := (vals_facts h).2.2.2 k hk
  have h2 := h.wantB i hi
  have h3 := offF_bd h i (by omega)
  have := h.le
  rw [Wk (n := gx (vals want size gap) (k : Int) + offF size gap i) (by omega) (by omega), Wk (by omega) (by omega), Abs_eq (by omega) (by omega)]
  unfold ab vl lvl
  congr 1; omega

/-- The rows from p on are as they should be. -/
structure TabAt (want size : List Int) (gap : Int) (p : Nat) (tab : List (List Int)) : Prop where
  len : tab.length = want.length + 1
  row : ∀ i : Nat, i ≤ want.length → (gx tab (i : Int)).length = (vals want size gap).length + 1
  e0 : ∀ k : Nat, k ≤ (vals want size gap).length → gx (gx tab ((want.length : Nat) : Int)) (k : Int) = 0
  e1 : ∀ i : Nat, p ≤ i → i < want.length → gx (gx tab (i : Int)) (((vals want size gap).length : Nat) : Int) = 1152921504606846976
  e2 : ∀ i k : Nat, p ≤ i → i < want.length → k < (vals want size gap).length → gx (gx tab (i : Int)) (k : Int) = min (gx (gx tab (i : Int)) ((k + 1 : Nat) : Int)) (ab (vl want size gap k - lvl want size gap i) + gx (gx tab ((i + 1 : Nat) : Int)) (k : Int))
  bd : ∀ i k : Nat, p ≤ i → i ≤ want.length → k < (vals want size gap).length → 0 ≤ gx (gx tab (i : Int)) (k : Int) ∧ gx (gx tab (i : Int)) (k : Int) ≤ ((want.length - i : Nat) : Int) * 100000000

theorem gx_setR {l : List (List Int)} {k : Nat} {v : List Int} (hk : k < l.length) (t : Nat) : gx (l.set k v) (t : Int) = if t = k then v else gx l (t : Int) := by
  unfold gx
  rw [List.getElem?_set]
  by_cases h : t = k
  · subst h; simp [hk]
  · have : ¬ k = t := fun e => h e.symm
    simp [this, h]

/-- One row of the table. -/
theorem row_loop (h : NearOK want size gap) {i : Nat} (hi : i < want.length) {tab : List (List Int)} (hT : TabAt want size gap (i + 1) tab) {s35 : Int × List (List Int)} (hs : s35.1 = i) :
    ∃ tab', loop (ref_NearOf_L5 (tabI want.length (offF size gap)) s35 want (vals want size gap)) (((vals want size gap).length : Int) - 1, tab.set i ((gx tab (i : Int)).set (vals want size gap).length 1152921504606846976)) = some tab' ∧ TabAt want size gap i tab' := by
  have hle := h.le
  have hm := (vals_facts h).1
  have hr := hT.row i (by omega)
  have hl := hT.len
  have e1 : ((i : Int) + 1) = ((i + 1 : Nat) : Int) := by omega
  refine loop_inv (body := ref_NearOf_L5 (tabI want.length (offF size gap)) s35 want (vals want size gap)) (s0 := (((vals want size gap).length : Int) - 1, tab.set i ((gx tab (i : Int)).set (vals want size gap).length 1152921504606846976)))
    (fun s => ∃ q : Nat, s.1 = (q : Int) - 1 ∧ q ≤ (vals want size gap).length ∧ s.2.length = want.length + 1 ∧ (∀ t : Nat, t ≠ i → gx s.2 (t : Int) = gx tab (t : Int)) ∧ (gx s.2 (i : Int)).length = (vals want size gap).length + 1 ∧
      gx (gx s.2 (i : Int)) (((vals want size gap).length : Nat) : Int) = 1152921504606846976 ∧ (∀ k : Nat, q ≤ k → k < (vals want size gap).length → gx (gx s.2 (i : Int)) (k : Int) = min (gx (gx s.2 (i : Int)) ((k + 1 : Nat) : Int)) (ab (vl want size gap k - lvl want size gap i) + gx (gx tab ((i + 1 : Nat) : Int)) (k : Int))) ∧
      ∀ k : Nat, q ≤ k → k < (vals want size gap).length → 0 ≤ gx (gx s.2 (i : Int)) (k : Int) ∧ gx (gx s.2 (i : Int)) (k : Int) ≤ ((want.length - i : Nat) : Int) * 100000000)
    (fun s => (s.1 + 1).toNat) _
    ⟨(vals want size gap).length, rfl, Nat.le_refl _, by simp [hl], fun t ht => by rw [gx_setR (by omega), if_neg ht], by rw [gx_setR (by omega), if_pos rfl]; simp [hr], by rw [gx_setR (by omega), if_pos rfl, gx_setN (by omega), if_pos rfl], fun k a b => by omega, fun k a b => by omega⟩ (fun s hI => ?_)
  obtain ⟨q, g1, g2, g3, g4, g5, g6, g7, g8⟩ := hI
  obtain ⟨sk, T⟩ := s
  simp only at g1 g3 g4 g5 g6 g7 g8
  subst g1
  unfold ref_NearOf_L5
  simp only [hs]
  by_cases c : q = 0
  · right
    subst c
    rw [decide_eq_false (p := (0 : Int) ≤ ((0 : Nat) : Int) - 1) (by omega), cond_false]
    have hne : ∀ t : Nat, i + 1 ≤ t → gx T (t : Int) = gx tab (t : Int) := fun t ht => g4 t (by omega)
    refine ⟨_, rfl, g3, fun t ht => ?_, fun k hk => ?_, fun t a b => ?_, fun t k a b hk => ?_, fun t k a b hk => ?_⟩
    · by_cases z : t = i
      · subst z; exact g5
      · rw [g4 t z]; exact hT.row t ht
    · rw [hne _ (by omega)]; exact hT.e0 k hk
    · by_cases z : t = i
      · subst z; exact g6
      · rw [g4 t z]; exact hT.e1 t (by omega) b
    · by_cases z : t = i
      · subst z
        rw [hne (t + 1) (Nat.le_refl _)]
        exact g7 k (Nat.zero_le _) hk
      · rw [g4 t z, hne (t + 1) (by omega)]
        exact hT.e2 t k (by omega) b hk
    · by_cases z : t = i
      · subst z; exact g8 k (Nat.zero_le _) hk
      · rw [g4 t z]; exact hT.bd t k (by omega) b hk
  · left
    obtain ⟨k, rfl⟩ : ∃ k, q = k + 1 := ⟨q - 1, by omega⟩
    have e2 : ((k + 1 : Nat) : Int) - 1 = (k : Int) := by omega
    have e3 : ((k : Int) + 1) = ((k + 1 : Nat) : Int) := by omega
    have hk : k < (vals want size gap).length := by omega
    have hab := ab_bd h hi hk
    have hn := hT.bd (i + 1) k (Nat.le_refl _) (by omega) hk
    have hrow := hT.row (i + 1) (by omega)
    have hmul : ((want.length - (i + 1) : Nat) : Int) * 100000000 + 100000000 = ((want.length - i : Nat) : Int) * 100000000 := by
      have : want.length - i = (want.length - (i + 1)) + 1 := by omega
      rw [this]; push_cast; rw [Int.add_mul]; omega
    have hT1 : gx T ((i + 1 : Nat) : Int) = gx tab ((i + 1 : Nat) : Int) := g4 (i + 1) (by omega)
    rw [e2, decide_eq_true (p := (0 : Int) ≤ (k : Int)) (by omega), cond_true, Wk (n := (i : Int) + 1) (by omega) (by omega), e1, Wk (n := (k : Int) + 1) (by omega) (by omega), e3,
      need_of ⟨by omega, by omega⟩, need_of ⟨by omega, by omega⟩, need_of (by omega), need_of ⟨by omega, by omega⟩, need_of ⟨by omega, by omega⟩, need_of ⟨by omega, by omega⟩, need_of ⟨by omega, by omega⟩, need_of ⟨by omega, by rw [tabI_len]; omega⟩, need_of ⟨by omega, by omega⟩,
      gx_tabI hi, cost_at h hi hk, Option.bind_some, need_of ⟨by omega, by omega⟩, hT1, need_of ⟨by omega, by omega⟩, bnd_eq, Wk (n := ab (vl want size gap k - lvl want size gap i) + _) (by omega) (by omega), need_of ⟨by omega, by omega⟩, bnd_eq, bnd_eq, Wk (by omega) (by omega)]
    simp only [Int.toNat_natCast]
    have hnx : 0 ≤ gx (gx T (i : Int)) ((k + 1 : Nat) : Int) := by
      by_cases z : k + 1 = (vals want size gap).length
      · rw [z, g6]; omega
      · exact (g8 (k + 1) (Nat.le_refl _) (by omega)).1
    have hset : ∀ t : Nat, gx ((gx T (i : Int)).set k (min (gx (gx T (i : Int)) ((k + 1 : Nat) : Int)) (ab (vl want size gap k - lvl want size gap i) + gx (gx tab ((i + 1 : Nat) : Int)) (k : Int)))) (t : Int) = if t = k then min (gx (gx T (i : Int)) ((k + 1 : Nat) : Int)) (ab (vl want size gap k - lvl want size gap i) + gx (gx tab ((i + 1 : Nat) : Int)) (k : Int)) else gx (gx T (i : Int)) (t : Int) := fun t => gx_setN (by omega) t
    have hself : ∀ v, gx (T.set i v) (i : Int) = v := fun v => by rw [gx_setR (by omega), if_pos rfl]
    refine ⟨_, rfl, ⟨k, by simp, by omega, by simp [g3], fun t ht => ?_, ?_, ?_, fun t a b => ?_, fun t a b => ?_⟩, by simp only; omega⟩
    · simp only; rw [gx_setR (by omega), if_neg ht]; exact g4 t ht
    · simp only; rw [hself]; simp [g5]
    · simp only; rw [hself, hset, if_neg (by omega)]; exact g6
    · simp only; rw [hself, hset, hset]
      by_cases z : t = k
      · subst z; rw [if_pos rfl, if_neg (by omega)]
      · rw [if_neg z, if_neg (by omega)]; exact g7 t (by omega) b
    · simp only; rw [hself, hset]
      by_cases z : t = k
      · subst z; rw [if_pos rfl]; omega
      · rw [if_neg z]; exact g8 t (by omega) b

theorem table_loop (h : NearOK want size gap) {tab : List (List Int)} (hl : tab.length = want.length + 1) (hrow : ∀ i : Nat, i ≤ want.length → gx tab (i : Int) = List.replicate ((vals want size gap).length + 1) 0) :
    ∃ tab', loop (ref_NearOf_L4 (tabI want.length (offF size gap)) want (vals want size gap)) ((want.length : Int) - 1, tab) = some tab' ∧ TabAt want size gap 0 tab' := by
  have hle := h.le
  have hm := (vals_facts h).1
  have hz : ∀ k : Nat, k < (vals want size gap).length + 1 → gx (List.replicate ((vals want size gap).length + 1) (0 : Int)) (k : Int) = 0 := fun k hk => by
    rw [gx_nat (by simpa using hk)]; simp
  refine loop_inv (body := ref_NearOf_L4 (tabI want.length (offF size gap)) want (vals want size gap)) (s0 := ((want.length : Int) - 1, tab)) (fun s => ∃ p : Nat, s.1 = (p : Int) - 1 ∧ p ≤ want.length ∧ TabAt want size gap p s.2) (fun s => (s.1 + 1).toNat) _
    ⟨want.length, rfl, Nat.le_refl _, hl, fun i hi => by rw [hrow i hi]; simp, fun k hk => by rw [hrow _ (Nat.le_refl _)]; exact hz k (by omega), fun i a b => by omega, fun i k a b => by omega, fun i k a b hk => by rw [hrow i b, hz k (by omega)]; omega⟩ (fun s hI => ?_)
  obtain ⟨p, g1, g2, g3⟩ := hI
  obtain ⟨si, T⟩ := s
  simp only at g1 g3
  subst g1
  unfold ref_NearOf_L4
  simp only
  by_cases c : p = 0
  · right
    subst c
    rw [decide_eq_false (p := (0 : Int) ≤ ((0 : Nat) : Int) - 1) (by omega), cond_false]
    exact ⟨_, rfl, g3⟩
  · left
    obtain ⟨i, rfl⟩ : ∃ i, p = i + 1 := ⟨p - 1, by omega⟩
    have e2 : ((i + 1 : Nat) : Int) - 1 = (i : Int) := by omega
    have h1 := g3.len
    have h2 := g3.row i (by omega)
    rw [e2, decide_eq_true (p := (0 : Int) ≤ (i : Int)) (by omega), cond_true, need_of ⟨by omega, by omega⟩, need_of ⟨by omega, by omega⟩, need_of ⟨by omega, by omega⟩, bnd_eq, bnd_eq, Wk (n := ((vals want size gap).length : Int) - 1) (by omega) (by omega)]
    simp only [Int.toNat_natCast]
    obtain ⟨T', t1, t2⟩ := row_loop h (by omega) g3 (s35 := ((i : Int), T)) rfl
    rw [t1, Option.bind_some, bnd_eq, Wk (by omega) (by omega)]
    exact ⟨_, rfl, ⟨i, rfl, by omega, t2⟩, by simp only; omega⟩

theorem NearOf_eq (h : NearOK want size gap) (h1 : 1 ≤ want.length) {out : List Int} {K : Nat → Nat} (ho : out.length = want.length) (hK : ∀ i : Nat, i < want.length → K i < (vals want size gap).length ∧ gx out (i : Int) = vl want size gap (K i) + offF size gap i)
    (hKm : ∀ i j, i ≤ j → j < want.length → K i ≤ K j) (hB : Bst want.length (fun i => vl want size gap (K i)) (lvl want size gap)) : ref_NearOf want size gap = some out := by
  have hle := h.le
  obtain ⟨v1, v2, v3, v4⟩ := vals_facts h
  unfold ref_NearOf
  rw [bnd_eq, need_of ⟨by omega, by omega, by omega⟩, bnd_eq, off_loop h (body := ref_NearOf_L1 (want.length : Int) gap size) (fun s => rfl), Option.bind_some]
  have e2 : rfor (want.length : Int) (ref_NearOf_L2 (tabI want.length (offF size gap)) want) ([] : List Int) = some (tabI want.length (lvl want size gap)) := by
    obtain ⟨s, p1, p2⟩ := rfor_inv (n := (want.length : Int)) (step := ref_NearOf_L2 (tabI want.length (offF size gap)) want) (s0 := ([] : List Int)) (fun i s => s = tabI i (lvl want size gap)) (by omega) rfl (fun i s hi hI => by
      subst hI
      unfold ref_NearOf_L2
      have := h.wantB i (by omega)
      have := offF_bd h i (by omega)
      rw [need_of ⟨by omega, by omega⟩, need_of ⟨by omega, by rw [tabI_len]; omega⟩, gx_tabI (by omega), Wk (by omega) (by omega), need_of (by rw [room_iff, tabI_len]; simp; omega)]
      refine ⟨_, rfl, ?_⟩
      show tabI i (lvl want size gap) ++ [lvl want size gap i] = _
      simp [tabI, List.range_succ])
    rw [p1, p2]; rfl
  have e3 := vals_eq h
  rw [e2, Option.bind_some]
  obtain ⟨r1, hr1, e3⟩ := Option.bind_eq_some_iff.1 e3
  obtain ⟨r2, hr2, e3⟩ := Option.bind_eq_some_iff.1 e3
  rw [hr1, Option.bind_some, hr2, Option.bind_some, e3, Option.bind_some, bnd_eq, Wk (n := (want.length : Int) + 1) (by omega) (by omega), need_of ⟨by omega, by omega, by omega⟩, bnd_eq]
  have hlen : ((want.length : Int) + 1).toNat = want.length + 1 := by omega
  rw [hlen]
  obtain ⟨tb, t1, t2, t3⟩ := rfor_inv (n := ((List.replicate (want.length + 1) ([] : List Int)).length : Int)) (step := ref_NearOf_L3 (vals want size gap)) (s0 := List.replicate (want.length + 1) ([] : List Int))
    (fun i s => s.length = want.length + 1 ∧ ∀ t : Nat, t < i → gx s (t : Int) = List.replicate ((vals want size gap).length + 1) 0) (by simp; omega) ⟨by simp, fun t ht => by omega⟩ (fun i s hi hI => by
      obtain ⟨a, b⟩ := hI
      simp only [List.length_replicate] at hi
      unfold ref_NearOf_L3
      rw [bnd_eq, Wk (n := ((vals want size gap).length : Int) + 1) (by omega) (by omega), need_of ⟨by omega, by omega, by omega⟩, need_of ⟨by omega, by omega⟩]
      refine ⟨_, rfl, by simp [a], fun t ht => ?_⟩
      simp only [Int.toNat_natCast]
      rw [gx_setR (by omega)]
      by_cases z : t = i
      · rw [if_pos z, show (((vals want size gap).length : Int) + 1).toNat = (vals want size gap).length + 1 by omega]
      · rw [if_neg z]; exact b t (by omega))
  have hl3 : ((List.replicate (want.length + 1) ([] : List Int)).length : Int).toNat = want.length + 1 := by simp
  rw [hl3] at t3
  rw [t1, Option.bind_some, bnd_eq, Wk (n := (want.length : Int) - 1) (by omega) (by omega)]
  obtain ⟨tab, g1, g2⟩ := table_loop h t2 (fun i hi => t3 i (by omega))
  rw [g1, Option.bind_some]
  have hTab : Tab want.length (vals want size gap).length (fun j k => ab (vl want size gap k - lvl want size gap j)) (fun i k => gx (gx tab (i : Int)) (k : Int)) :=
    ⟨fun k hk => g2.e0 k hk, fun i hi => g2.e1 i (Nat.zero_le _) hi, fun i k hi hk => g2.e2 i k (Nat.zero_le _) hi hk, fun i k hi hk => ab_bd h hi hk, hle⟩
  obtain ⟨s, p1, p2⟩ := rfor_inv (n := (want.length : Int)) (step := ref_NearOf_L6 (tabI want.length (offF size gap)) tab want (vals want size gap)) (s0 := (([] : List Int), (0 : Int)))
    (fun i s => s.1 = tabI i (fun i => gx out (i : Int)) ∧ ((i = 0 ∧ s.2 = 0) ∨ (0 < i ∧ s.2 = (K (i - 1) : Nat)))) (by omega) ⟨rfl, .inl ⟨rfl, rfl⟩⟩ (fun i s hi hI => by
      obtain ⟨q1, q2⟩ := hI
      obtain ⟨s1, s2⟩ := s
      simp only at q1 q2
      subst q1
      have hi' : i < want.length := by omega
      obtain ⟨k0, rfl, hk0⟩ : ∃ k0 : Nat, s2 = k0 ∧ ((i = 0 ∧ k0 = 0) ∨ (0 < i ∧ k0 = K (i - 1))) := by
        rcases q2 with ⟨a, b⟩ | ⟨a, b⟩
        · exact ⟨0, b, .inl ⟨a, rfl⟩⟩
        · exact ⟨_, b, .inr ⟨a, rfl⟩⟩
      obtain ⟨b1, b2, b3⟩ := hTab.best (v := vl want size gap) (l := lvl want size gap) (K := K) (fun i j a b => v2 i j a b) (fun i hi => (hK i hi).1) hKm hB hi' hk0
      have hKi := (hK i hi').1
      have hrow := g2.row i (by omega)
      have hrow1 := g2.row (i + 1) (by omega)
      have hlen := g2.len
      have e1 : ((i : Int) + 1) = ((i + 1 : Nat) : Int) := by omega
      unfold ref_NearOf_L6
      rw [need_of ⟨by omega, by omega⟩, need_of ⟨by omega, by omega⟩]
      obtain ⟨e, w1, w2⟩ := loop_inv (body := ref_NearOf_L7 (tabI want.length (offF size gap)) tab ((i : Int), (tabI i (fun i => gx out (i : Int)), (k0 : Int))) want (vals want size gap)) (s0 := (k0 : Int)) (fun s => ∃ k : Nat, s = k ∧ k0 ≤ k ∧ k ≤ K i) (fun s => ((K i : Int) - s).toNat) (fun e => e = (K i : Nat))
        ⟨k0, rfl, Nat.le_refl _, b1⟩ (fun s hs => by
          obtain ⟨k, rfl, k1, k2⟩ := hs
          have hk : k < (vals want size gap).length := by omega
          have hbd := g2.bd (i + 1) k (Nat.zero_le _) (by omega) hk
          have hab := ab_bd h hi' hk
          have hmul : ((want.length - (i + 1) : Nat) : Int) * 100000000 ≤ 100000000000 := by omega
          unfold ref_NearOf_L7
          simp only
          rw [need_of ⟨by omega, by omega⟩, need_of ⟨by omega, by rw [tabI_len]; omega⟩, need_of ⟨by omega, by omega⟩, gx_tabI hi', cost_at h hi' hk, Option.bind_some, Wk (n := (i : Int) + 1) (by omega) (by omega), e1, need_of ⟨by omega, by omega⟩, need_of ⟨by omega, by omega⟩, Wk (n := ab _ + _) (by omega) (by omega)]
          by_cases z : k = K i
          · right
            have : ab (vl want size gap k - lvl want size gap i) + gx (gx tab ((i + 1 : Nat) : Int)) (k : Int) = gx (gx tab (i : Int)) (k0 : Int) := by rw [z]; exact b2
            rw [decide_eq_true this, Bool.not_true, cond_false]
            exact ⟨_, rfl, by rw [z]⟩
          · left
            have : ¬ ab (vl want size gap k - lvl want size gap i) + gx (gx tab ((i + 1 : Nat) : Int)) (k : Int) = gx (gx tab (i : Int)) (k0 : Int) := b3 k k1 (by omega)
            rw [decide_eq_false this, Bool.not_false, cond_true, bnd_eq, Wk (by omega) (by omega)]
            exact ⟨_, rfl, ⟨k + 1, by simp, by omega, by omega⟩, by omega⟩)
      subst w2
      have hv := v4 (K i) hKi
      have hof := offF_bd h i (by omega)
      rw [w1, Option.bind_some, need_of ⟨by omega, by omega⟩, need_of ⟨by omega, by rw [tabI_len]; omega⟩, gx_tabI hi', Wk (by omega) (by omega), need_of (by rw [room_iff, tabI_len]; simp; omega)]
      refine ⟨_, rfl, ?_, .inr ⟨by omega, rfl⟩⟩
      have : gx (vals want size gap) ((K i : Nat) : Int) + offF size gap i = gx out (i : Int) := (hK i hi').2.symm
      simp only
      rw [this]
      simp [tabI, List.range_succ])
  rw [p1, Option.bind_some, p2.1]
  congr 1
  exact (tabI_of (by rw [ho]; rfl) (fun i hi => rfl)).symm
end
end Go.DB
