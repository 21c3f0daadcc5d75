/-
  The law on boxes in a row.
-/
import Derived.Test.YtbahnfkccdlpnaaNeaPuNear3
set_option linter.unusedSimpArgs false
set_option linter.unusedVariables false
namespace Go.DB
open Go Go.RowKit

def wantBad (n : Int) : Bool := decide (n < -1000000) || decide (1000000 < n)
def sizeBad (n : Int) : Bool := decide (n < 1) || decide (20000 < n)
def gapBad (n : Int) : Bool := decide (n < 0) || decide (1000 < n)
def nearErr (want size : List Int) (gap : Int) : Int :=
  if 1000 < want.length ∨ 1000 < size.length then 4 else if want.length ≠ size.length then 2 else if want.any wantBad = true ∨ size.any sizeBad = true ∨ gapBad gap = true then 3 else 0
theorem nearErr_zero {want size : List Int} {gap : Int} (h : nearErr want size gap = 0) : NearOK want size gap := by
  unfold nearErr at h
  by_cases c1 : 1000 < want.length ∨ 1000 < size.length
  · rw [if_pos c1] at h; omega
  · rw [if_neg c1] at h
    by_cases c2 : want.length ≠ size.length
    · rw [if_pos c2] at h; omega
    · rw [if_neg c2] at h
      by_cases c3 : want.any wantBad = true ∨ size.any sizeBad = true ∨ gapBad gap = true
      · rw [if_pos c3] at h; omega
      · have hw : ∀ x ∈ want, wantBad x = false := fun x hx => by
          cases hb : wantBad x with
          | false => rfl
          | true => exact absurd (.inl (List.any_eq_true.2 ⟨x, hx, hb⟩)) c3
        have hs : ∀ x ∈ size, sizeBad x = false := fun x hx => by
          cases hb : sizeBad x with
          | false => rfl
          | true => exact absurd (.inr (.inl (List.any_eq_true.2 ⟨x, hx, hb⟩))) c3
        have hg : ¬ gapBad gap = true := fun h => c3 (.inr (.inr h))
        refine ⟨by omega, by omega, fun i hi => ?_, fun i hi => ?_, ?_⟩
        · have := hw _ (gx_mem (l := want) (k := i) ⟨by omega, by omega⟩)
          unfold wantBad at this; simp at this; omega
        · have := hs _ (gx_mem (l := size) (k := i) ⟨by omega, by omega⟩)
          unfold sizeBad at this; simp at this; omega
        · unfold gapBad at hg; simp at hg; omega
theorem NearError_eq {want size : List Int} (hw : (want.length : Int) ≤ 9223372036854775807) (hs : (size.length : Int) ≤ 9223372036854775807) (gap : Int) : ref_NearError want size gap = some (nearErr want size gap) := by
  unfold ref_NearError nearErr
  rw [When_eq, When_eq]
  simp only [bind_sm]
  rw [First_eq (by simp)]
  simp only [bind_sm, firstErr_cons, firstErr_nil]
  by_cases c1 : 1000 < want.length ∨ 1000 < size.length
  · have e : (decide ((1000 : Int) < (want.length : Int)) || decide ((1000 : Int) < (size.length : Int))) = true := by simp; omega
    simp [e, c1]
  · have e : (decide ((1000 : Int) < (want.length : Int)) || decide ((1000 : Int) < (size.length : Int))) = false := by simp; omega
    by_cases c2 : want.length = size.length
    · have e2 : decide ((want.length : Int) = (size.length : Int)) = true := decide_eq_true (by omega)
      simp only [e, e2, Bool.false_eq_true, if_false, if_true, Bool.not_true, decide_true, cond_false]
      rw [ContainsFunc_int_eq want ref_NearError_1 wantBad hw (fun x _ => by unfold ref_NearError_1 wantBad; rw [In_eq]; simp only [bind_sm]; congr 1; rw [Bool.eq_iff_iff]; simp),
        ContainsFunc_int_eq size ref_NearError_2 sizeBad hs (fun x _ => by unfold ref_NearError_2 sizeBad; rw [In_eq]; simp only [bind_sm]; congr 1; rw [Bool.eq_iff_iff]; simp)]
      rw [if_neg c1, if_neg (by omega)]
      simp only [bind_sm, In_eq]
      cases hb : want.any wantBad with
      | true => simp [When_eq]
      | false =>
        simp only [Bool.not_false, gd_true, bind_sm, Bool.false_or]
        cases hb2 : size.any sizeBad with
        | true => simp [When_eq]
        | false =>
          simp only [Bool.not_false, gd_true, bind_sm, Bool.false_or, When_eq]
          congr 1
          unfold gapBad
          by_cases g : 0 ≤ gap ∧ gap ≤ 1000
          · have g' : (decide (gap < 0) || decide (1000 < gap)) = false := by simp; omega
            simp [g, g']
          · have g' : (decide (gap < 0) || decide (1000 < gap)) = true := by simp; omega
            simp [g, g']
    · have e2 : decide ((want.length : Int) = (size.length : Int)) = false := decide_eq_false (by omega)
      simp only [e, e2, Bool.false_eq_true, if_false, if_true, Bool.not_false, decide_true]
      rw [if_neg c1, if_pos c2]
      simp
theorem Near_bad {want size : List Int} {gap : Int} (h : nearErr want size gap ≠ 0) : layer_Near want size gap = some ([], nearErr want size gap) := by
  unfold layer_Near
  unfold nearErr at *
  by_cases c1 : 1000 < want.length ∨ 1000 < size.length
  · have e : (decide ((1000 : Int) < (want.length : Int)) || decide ((1000 : Int) < (size.length : Int))) = true := by simp; omega
    simp [e, c1]
  · have e : (decide ((1000 : Int) < (want.length : Int)) || decide ((1000 : Int) < (size.length : Int))) = false := by simp; omega
    rw [e, cond_false]
    rw [if_neg c1] at *
    by_cases c2 : want.length ≠ size.length
    · rw [if_pos c2] at *
      rw [decide_eq_false (p := (want.length : Int) = (size.length : Int)) (by omega)]; rfl
    · rw [if_neg c2] at *
      rw [decide_eq_true (p := (want.length : Int) = (size.length : Int)) (by omega), Bool.not_true, cond_false]
      rw [rforE_any wantBad (Res.ab (([] : List Int), (3 : Int))) (by omega) (fun i hi => by
        unfold layer_Near_L1
        rw [need_of hi, bnd_eq]
        unfold wantBad
        cases (decide (gx want i < -1000000) || decide (1000000 < gx want i)) <;> rfl)]
      by_cases c3 : want.any wantBad = true ∨ size.any sizeBad = true ∨ gapBad gap = true
      · rw [if_pos c3]
        cases hb : want.any wantBad with
        | true => rfl
        | false =>
          rw [if_neg (by simp), bindR_nx]
          rw [rforE_any sizeBad (Res.ab (([] : List Int), (3 : Int))) (by omega) (fun i hi => by
            unfold layer_Near_L2
            rw [need_of hi, bnd_eq]
            unfold sizeBad
            cases (decide (gx size i < 1) || decide (20000 < gx size i)) <;> rfl)]
          cases hb2 : size.any sizeBad with
          | true => rfl
          | false =>
            rw [if_neg (by simp), bindR_nx]
            have : gapBad gap = true := by simpa [hb, hb2] using c3
            unfold gapBad at this
            rw [this]; rfl
      · rw [if_neg c3] at h; omega
theorem Near_ok {want size : List Int} {gap : Int} (h : nearErr want size gap = 0) : layer_Near want size gap = if want.length = 0 then some ([], 0) else Option.bind (layer_near want size gap) fun r => some (r, 0) := by
  have hO := nearErr_zero h
  unfold layer_Near
  unfold nearErr at h
  have c1 : ¬ (1000 < want.length ∨ 1000 < size.length) := fun c => by rw [if_pos c] at h; omega
  rw [if_neg c1] at h
  have c2 : ¬ want.length ≠ size.length := fun c => by rw [if_pos c] at h; omega
  rw [if_neg c2] at h
  have c3 : ¬ (want.any wantBad = true ∨ size.any sizeBad = true ∨ gapBad gap = true) := fun c => by rw [if_pos c] at h; omega
  have e : (decide ((1000 : Int) < (want.length : Int)) || decide ((1000 : Int) < (size.length : Int))) = false := by simp; omega
  rw [e, cond_false, decide_eq_true (p := (want.length : Int) = (size.length : Int)) (by omega), Bool.not_true, cond_false]
  rw [rforE_any wantBad (Res.ab (([] : List Int), (3 : Int))) (by omega) (fun i hi => by
    unfold layer_Near_L1
    rw [need_of hi, bnd_eq]
    unfold wantBad
    cases (decide (gx want i < -1000000) || decide (1000000 < gx want i)) <;> rfl), if_neg (fun h => c3 (.inl h)), bindR_nx]
  rw [rforE_any sizeBad (Res.ab (([] : List Int), (3 : Int))) (by omega) (fun i hi => by
    unfold layer_Near_L2
    rw [need_of hi, bnd_eq]
    unfold sizeBad
    cases (decide (gx size i < 1) || decide (20000 < gx size i)) <;> rfl), if_neg (fun h => c3 (.inr (.inl h))), bindR_nx]
  have hg : (decide (gap < 0) || decide (1000 < gap)) = false := by
    cases hb : gapBad gap with
    | true => exact absurd (.inr (.inr hb)) c3
    | false => exact hb
  rw [hg, cond_false]
  by_cases z : want.length = 0
  · rw [if_pos z, decide_eq_true (p := (want.length : Int) = 0) (by omega), cond_true]
  · rw [if_neg z, decide_eq_false (p := (want.length : Int) = 0) (by omega), cond_false]

theorem Clone_int_eq {l : List Int} (hl : l.length ≤ 1073741824) : slices_Clone_int l = some l := by
  unfold slices_Clone_int
  rw [need_of (by rw [room_iff]; simpa using hl)]
  simp only [bnd_eq, List.nil_append]
  unfold nilc
  by_cases h : l = []
  · simp [h]
  · rw [if_neg h]
theorem Sum_eq {want at_ : List Int} (hl : at_.length = want.length) (hn : want.length ≤ 1000) (hw : ∀ i : Nat, i < want.length → -1000000 ≤ gx want (i : Int) ∧ gx want (i : Int) ≤ 1000000) (ha : ∀ i : Nat, i < want.length → -100000000 ≤ gx at_ (i : Int) ∧ gx at_ (i : Int) ≤ 100000000) :
    ref_Sum want at_ = some (sm (fun i => ab (gx want (i : Int) - gx at_ (i : Int))) want.length) := by
  unfold ref_Sum
  obtain ⟨s, h1, h2, h3⟩ := rfor_inv (n := (want.length : Int)) (step := ref_Sum_L1 at_ want) (s0 := (0 : Int)) (fun i s => s = sm (fun i => ab (gx want (i : Int) - gx at_ (i : Int))) i ∧ 0 ≤ s ∧ s ≤ i * 101000000) (by omega) ⟨rfl, by omega, by simp⟩ (fun i s hi hI => by
    obtain ⟨rfl, b1, b2⟩ := hI
    have := hw i (by omega)
    have := ha i (by omega)
    unfold ref_Sum_L1
    rw [need_of ⟨by omega, by omega⟩, need_of ⟨by omega, by omega⟩, Wk (by omega) (by omega), Abs_eq (by omega) (by omega), Option.bind_some, bnd_eq]
    have hab : 0 ≤ max (gx want (i : Int) - gx at_ (i : Int)) (-(gx want (i : Int) - gx at_ (i : Int))) ∧ max (gx want (i : Int) - gx at_ (i : Int)) (-(gx want (i : Int) - gx at_ (i : Int))) ≤ 101000000 := by omega
    have hile : (i : Int) * 101000000 ≤ 101000000000 := by omega
    rw [Wk (by omega) (by omega)]
    refine ⟨_, rfl, rfl, by omega, by push_cast; omega⟩)
  rw [h1, Option.bind_some, h2]; rfl
theorem ab_comm (x y : Int) : ab (x - y) = ab (y - x) := by unfold ab; omega

theorem NearsMatch_true (want size : List Int) (gap move : Int) (other : List Int) (hw : fits want) (hs : fits size) (hm : fits move) (ho : fits other) : law_NearsMatch want size gap move other = some true := by
  have hwl : (want.length : Int) ≤ 9223372036854775807 := by have := (fits_list.1 hw).1; omega
  have hsl : (size.length : Int) ≤ 9223372036854775807 := by have := (fits_list.1 hs).1; omega
  have hol : (other.length : Int) ≤ 9223372036854775807 := by have := (fits_list.1 ho).1; omega
  have hmv := fits_int.1 hm
  unfold law_NearsMatch
  rw [NearError_eq hwl hsl, layers_eq]
  by_cases h : nearErr want size gap = 0
  · have hO := nearErr_zero h
    have hle := hO.le
    have hln := hO.len
    by_cases hn : want.length = 0
    · -- no boxes
      have hnil : want = [] := List.eq_nil_of_length_eq_zero hn
      subst hnil
      have hnilS : size = [] := List.eq_nil_of_length_eq_zero (by omega)
      subst hnilS
      rw [Near_ok h, if_pos (show ([] : List Int).length = 0 from rfl)]
      have e1 : ref_NearOf [] [] gap = some [] := by
        unfold ref_NearOf
        have l1 : loop (ref_NearOf_L1 ((([] : List Int).length : Nat) : Int) gap []) (1, List.replicate ((([] : List Int).length : Nat) : Int).toNat (0 : Int)) = some [] := loop_done rfl
        rw [bnd_eq, need_of ⟨by omega, by omega, by omega⟩, bnd_eq, l1, Option.bind_some, rfor_eq (by omega)]
        have e2 : slices_Sorted_int (⟨[]⟩ : SeqI) = some [] := by unfold slices_Sorted_int; rw [need_of (by simp)]; simp [sortI]
        have e3 : slices_Compact_int [] = some [] := by
          unfold slices_Compact_int
          have hz : compactI ([] : List Int) = [] := List.eq_nil_of_length_eq_zero (by have := compactI_len ([] : List Int); simpa using this)
          rw [need_of (by simp), hz]
        show Option.bind (some []) _ = _
        rw [Option.bind_some]
        show Option.bind (some (⟨[]⟩ : SeqI)) _ = _
        rw [Option.bind_some, e2, Option.bind_some, e3, Option.bind_some, bnd_eq, Wk (by simp) (by simp), need_of (by simp), bnd_eq]
        have e4 : rfor ((List.replicate (((([] : List Int).length : Nat) : Int) + 1).toNat ([] : List Int)).length : Int) (ref_NearOf_L3 []) (List.replicate (((([] : List Int).length : Nat) : Int) + 1).toNat ([] : List Int)) = some [[0]] := by
          have hr : List.replicate (((([] : List Int).length : Nat) : Int) + 1).toNat ([] : List Int) = [[]] := rfl
          rw [hr, rfor_eq (by simp)]
          have h0 : ref_NearOf_L3 [] 0 [[]] = some [[0]] := by
            unfold ref_NearOf_L3
            rw [bnd_eq, Wk (by simp) (by simp), need_of (by simp), need_of ⟨by omega, by simp⟩]
            rfl
          show rgo (ref_NearOf_L3 []) 1 0 [[]] = some [[0]]
          rw [rgo, h0]; rfl
        rw [e4, Option.bind_some, bnd_eq, Wk (by simp) (by simp)]
        have e5 : loop (ref_NearOf_L4 [] [] []) ((((([] : List Int).length : Nat) : Int) - 1), [[0]]) = some [[0]] := loop_done rfl
        rw [e5, Option.bind_some, rfor_eq (by simp)]
        rfl
      have e6 : slices_Equal_int [] [] = some true := by rw [Equal_int_eq _ _ (by simp)]; rfl
      have e7 : slices_Clone_int [] = some [] := Clone_int_eq (by simp)
      have e8 : rforE ((([] : List Int).length : Nat) : Int) (law_NearsMatch_L1 move) (fun s => (Res.nx s : Res (List Int) Bool)) [] = some (Res.nx []) := by rw [rforE_eq (by simp)]; rfl
      have e9 : slices_ContainsFunc_int [] (fun x0 => law_NearsMatch_1 x0 [] [] move) = some false := by rw [ContainsFunc_int_eq [] _ (fun _ => false) (by simp) (fun x hx => by simp at hx)]; rfl
      simp only [bind_sm, Bool.not_true, h, decide_true, Bool.or_self, cond_false]
      rw [decide_eq_false (p := (40 : Int) < ((([] : List Int).length : Nat) : Int)) (by simp), cond_false]
      simp only [Bool.not_false, gd_true, Bool.not_true, Bool.or_self, Bool.false_or]
      rw [e1]
      simp only [bind_sm]
      rw [e6]
      simp only [bind_sm, decide_true, Bool.not_true, cond_false]
      rw [e7]
      simp only [bind_sm]
      rw [e8, bindR_nx, Near_ok h, if_pos (show ([] : List Int).length = 0 from rfl)]
      simp only [bind_sm, decide_true, Bool.not_true, Bool.or_self, Bool.not_false, gd_true, e9, cond_false]
      by_cases hoz : other.length = 0
      · have : other = [] := List.eq_nil_of_length_eq_zero hoz
        subst this
        have s1 : ref_Sum [] [] = some 0 := by unfold ref_Sum; rw [rfor_eq (by simp)]; rfl
        have e10 : rforE ((([] : List Int).length : Nat) : Int) (law_NearsMatch_L2 gap [] []) (fun s => (Res.nx s : Res Unit Bool)) () = some (Res.nx ()) := by rw [rforE_eq (by simp)]; rfl
        simp only [decide_true, Bool.not_true, cond_false, e10, bindR_nx, s1, bind_sm]
        rfl
      · have : decide ((other.length : Int) = ((([] : List Int).length : Nat) : Int)) = false := decide_eq_false (fun e => hoz (by simpa using e))
        rw [this]; rfl
    · -- some boxes
      obtain ⟨x, K, x1, x2, x3, x4, x5⟩ := near_eq hO (by omega)
      rw [Near_ok h, if_neg hn, x1]
      simp only [bind_sm, Bool.not_true, h, decide_true, Bool.or_self, cond_false]
      by_cases c40 : 40 < want.length
      · rw [decide_eq_true (p := (40 : Int) < (want.length : Int)) (by omega), cond_true]
        simp [x2]
      · rw [decide_eq_false (p := (40 : Int) < (want.length : Int)) (by omega), cond_false]
        simp only [Bool.not_false, gd_true, Bool.not_true, Bool.or_self, Bool.false_or]
        rw [NearOf_eq hO (by omega) x2 x3 x4 x5]
        simp only [bind_sm]
        rw [Equal_int_eq _ _ (by omega)]
        simp only [bind_sm, decide_true, Bool.not_true, cond_false]
        rw [Clone_int_eq (by omega)]
        simp only [bind_sm]
        have hxb : ∀ i : Nat, i < want.length → -100000000 ≤ gx x (i : Int) ∧ gx x (i : Int) ≤ 100000000 := fun i hi => by
          obtain ⟨k1, k2⟩ := x3 i hi
          have := (vals_facts hO).2.2.2 _ k1
          have := offF_bd hO i (by omega)
          unfold vl at k2; omega
        obtain ⟨e, f1, f2⟩ := rforE_inv (n := (want.length : Int)) (step := law_NearsMatch_L1 move) (fin := fun s => (Res.nx s : Res (List Int) Bool)) (s0 := want)
          (fun i s => s.length = want.length ∧ (∀ j : Nat, j < want.length → gx s (j : Int) = if j < i then gx want (j : Int) + move else gx want (j : Int)) ∧ ∀ j : Nat, j < i → -1000000 ≤ gx want (j : Int) + move ∧ gx want (j : Int) + move ≤ 1000000)
          (fun e => e = Res.ab true ∨ ∃ s, e = Res.nx s ∧ s.length = want.length ∧ ∀ j : Nat, j < want.length → gx s (j : Int) = gx want (j : Int) + move ∧ -1000000 ≤ gx want (j : Int) + move ∧ gx want (j : Int) + move ≤ 1000000) hwl
          ⟨rfl, fun j hj => by rw [if_neg (by omega)], fun j hj => by omega⟩ (fun i s hi hI => by
            obtain ⟨g1, g2, g3⟩ := hI
            have hi' : i < want.length := by omega
            have hwb := hO.wantB i hi'
            unfold law_NearsMatch_L1
            rw [need_of ⟨by omega, by omega⟩, bnd_eq, need_of ⟨by omega, by omega⟩, bnd_eq, need_of ⟨by omega, by simp; omega⟩, In_eq, Option.bind_some, g2 i hi', if_neg (by omega)]
            have hgs : gx (s.set ((i : Int)).toNat (W (gx want (i : Int) + move))) (i : Int) = W (gx want (i : Int) + move) := by rw [Int.toNat_natCast, gx_setN (by omega), if_pos rfl]
            rw [hgs]
            simp only [Int.toNat_natCast]
            by_cases c : -1000000 ≤ W (gx want (i : Int) + move) ∧ W (gx want (i : Int) + move) ≤ 1000000
            · left
              rw [decide_eq_true c, Bool.not_true, cond_false]
              have hW : W (gx want (i : Int) + move) = gx want (i : Int) + move := by
                by_cases z : -9223372036854775808 ≤ gx want (i : Int) + move ∧ gx want (i : Int) + move ≤ 9223372036854775807
                · exact Wk z.1 z.2
                · exfalso
                  unfold W at c
                  simp only [IntKind.wrap_i64] at c
                  omega
              rw [hW] at c ⊢
              refine ⟨_, rfl, by simp [g1], fun j hj => ?_, fun j hj => ?_⟩
              · rw [gx_setN (by omega)]
                by_cases z : j = i
                · subst z; rw [if_pos rfl, if_pos (by omega)]
                · rw [if_neg z, g2 j hj]
                  by_cases y : j < i
                  · rw [if_pos y, if_pos (by omega)]
                  · rw [if_neg y, if_neg (by omega)]
              · by_cases z : j = i
                · subst z; exact c
                · exact g3 j (by omega)
            · right
              rw [decide_eq_false c, Bool.not_false, cond_true]
              exact ⟨_, rfl, .inl rfl⟩) (fun s hI => by
            obtain ⟨g1, g2, g3⟩ := hI
            simp only [Int.toNat_natCast] at g2 g3
            exact .inr ⟨s, rfl, g1, fun j hj => ⟨by rw [g2 j hj, if_pos hj], g3 j hj⟩⟩)
        rw [f1]
        rcases f2 with rfl | ⟨all, rfl, a1, a2⟩
        · rfl
        · rw [bindR_nx]
          have hlvl : ∀ i, i < want.length → lvl all size gap i = lvl want size gap i + move := fun i hi => by
            unfold lvl; rw [(a2 i hi).1]; omega
          have hA : nearErr all size gap = 0 := by
            unfold nearErr at *
            have c1 : ¬ (1000 < want.length ∨ 1000 < size.length) := fun c => by rw [if_pos c] at h; omega
            rw [if_neg c1] at h
            have c2 : ¬ want.length ≠ size.length := fun c => by rw [if_pos c] at h; omega
            rw [if_neg c2] at h
            have c3 : ¬ (want.any wantBad = true ∨ size.any sizeBad = true ∨ gapBad gap = true) := fun c => by rw [if_pos c] at h; omega
            rw [if_neg (by omega), if_neg (by omega), if_neg]
            rintro (z | z | z)
            · obtain ⟨y, hy, hb⟩ := List.any_eq_true.1 z
              obtain ⟨j, hj, rfl⟩ := List.getElem_of_mem hy
              have := (a2 j (by omega)).1
              have hr := (a2 j (by omega)).2
              rw [gx_nat hj] at this
              unfold wantBad at hb
              rw [this] at hb
              simp at hb; omega
            · exact c3 (.inr (.inl z))
            · exact c3 (.inr (.inr z))
          have hOA := nearErr_zero hA
          obtain ⟨y, K', y1, y2, y3, y4, y5⟩ := near_eq hOA (by omega)
          rw [Near_ok hA, if_neg (by omega), y1]
          simp only [bind_sm, decide_true, Bool.not_true, Bool.false_or]
          have hlen : decide ((y.length : Int) = (x.length : Int)) = true := decide_eq_true (by omega)
          rw [hlen, Bool.not_true, Bool.not_false, gd_true]
          have hxy : ∀ i : Nat, i < want.length → gx y (i : Int) = gx x (i : Int) + move := fun i hi => by
            have hb : Bst want.length (fun i => vl all size gap (K' i)) (fun i => lvl want size gap i + move) := by
              have e : Bst want.length (fun i => vl all size gap (K' i)) (lvl all size gap) := by rw [← a1]; exact y5
              refine ⟨e.ris, fun t p hp => ?_⟩
              have := e.arg t p hp
              have es : ∀ q, sufT want.length (fun i => lvl want size gap i + move) t q = sufT want.length (lvl all size gap) t q := fun q => sm_congr fun j hj => by rw [hlvl j hj]
              exact ⟨this.1, fun q hq => by rw [es, es]; exact this.2.1 q hq, fun q a b => by rw [es, es]; exact this.2.2 q a b⟩
            have : vl all size gap (K' i) = vl want size gap (K i) + move := hb.uni (x5.shift move) i hi
            have h1 := (x3 i hi).2
            have h2 := (y3 i (by omega)).2
            omega
          have hcf : slices_ContainsFunc_int x (fun x0 => law_NearsMatch_1 x0 x y move) = some false := by
            rw [ContainsFunc_int_eq x _ (fun _ => false) (by omega) (fun n hn => ?_)]
            · simp
            · unfold law_NearsMatch_1
              rw [Index_int_eq x n (by omega)]
              obtain ⟨i, hi⟩ : ∃ i, x.findIdx? (fun z => decide (n = z)) = some i := by
                cases hf : x.findIdx? (fun z => decide (n = z)) with
                | some i => exact ⟨i, rfl⟩
                | none =>
                  rw [List.findIdx?_eq_none_iff] at hf
                  have := hf n hn
                  simp at this
              obtain ⟨i1, i2, _⟩ := List.findIdx?_eq_some_iff_getElem.1 hi
              rw [hi]
              simp only [bind_sm]
              have hin : inR y (i : Int) := ⟨by omega, by omega⟩
              have hnx : n = gx x (i : Int) := by rw [gx_nat i1]; simpa using i2
              have hb1 := hxb i (by omega)
              have hb2 := (a2 0 (by omega)).2
              have hb3 := hO.wantB 0 (by omega)
              rw [need_of hin, hxy i (by omega), hnx, Wk (by omega) (by omega)]
              simp
          rw [hcf]
          simp only [bind_sm, Bool.or_self, cond_false]
          by_cases co : other.length = want.length
          · rw [decide_eq_true (p := (other.length : Int) = (want.length : Int)) (by omega), Bool.not_true, cond_false]
            obtain ⟨e, f1, f2⟩ := rforE_inv (n := (other.length : Int)) (step := law_NearsMatch_L2 gap size other) (fin := fun s => (Res.nx s : Res Unit Bool)) (s0 := ())
              (fun i _ => (∀ j : Nat, j < i → -1000000 ≤ gx other (j : Int) ∧ gx other (j : Int) ≤ 1000000) ∧ ∀ j : Nat, j + 1 < i → gx other (j : Int) + gx size (j : Int) + gap ≤ gx other ((j + 1 : Nat) : Int))
              (fun e => e = Res.ab true ∨ e = Res.nx () ∧ (∀ j : Nat, j < want.length → -1000000 ≤ gx other (j : Int) ∧ gx other (j : Int) ≤ 1000000) ∧ ∀ j : Nat, j + 1 < want.length → gx other (j : Int) + gx size (j : Int) + gap ≤ gx other ((j + 1 : Nat) : Int)) hol
              ⟨fun j hj => by omega, fun j hj => by omega⟩ (fun i u hi hI => by
                obtain ⟨g1, g2⟩ := hI
                have hi' : i < want.length := by omega
                unfold law_NearsMatch_L2
                rw [need_of ⟨by omega, by omega⟩, In_eq, Option.bind_some]
                by_cases c : -1000000 ≤ gx other (i : Int) ∧ gx other (i : Int) ≤ 1000000
                · rw [decide_eq_true c, Bool.not_true]
                  by_cases z : i = 0
                  · subst z
                    left
                    rw [need_of (fun _ h => by simp at h), need_of (fun _ h => by simp at h), need_of (fun _ h => by simp at h)]
                    refine ⟨(), by simp, fun j hj => ?_, fun j hj => by omega⟩
                    have : j = 0 := by omega
                    subst this; exact c
                  · obtain ⟨k, rfl⟩ : ∃ k, i = k + 1 := ⟨i - 1, by omega⟩
                    have e1 : ((k + 1 : Nat) : Int) - 1 = (k : Int) := by omega
                    have hsz := hO.sizeB k (by omega)
                    have hg := hO.gapB
                    have hk := g1 k (by omega)
                    rw [Wk (n := ((k + 1 : Nat) : Int) - 1) (by omega) (by omega), e1, need_of (fun _ _ => ⟨by omega, by omega⟩), need_of (fun _ _ => ⟨by omega, by omega⟩), need_of (fun _ _ => ⟨by omega, by omega⟩), decide_eq_true (p := (0 : Int) < ((k + 1 : Nat) : Int)) (by omega), Bool.true_and, Bool.false_or,
                      Wk (n := gx other (k : Int) + gx size (k : Int)) (by omega) (by omega), Wk (by omega) (by omega)]
                    by_cases d : gx other ((k + 1 : Nat) : Int) < gx other (k : Int) + gx size (k : Int) + gap
                    · right
                      rw [decide_eq_true d, cond_true]
                      exact ⟨_, rfl, .inl rfl⟩
                    · left
                      rw [decide_eq_false d, cond_false]
                      refine ⟨(), rfl, fun j hj => ?_, fun j hj => ?_⟩
                      · by_cases y : j = k + 1
                        · subst y; exact c
                        · exact g1 j (by omega)
                      · by_cases y : j = k
                        · subst y; omega
                        · exact g2 j (by omega)
                · right
                  rw [decide_eq_false c, Bool.not_false]
                  rw [need_of (fun h => by cases h), need_of (fun h => by cases h), need_of (fun h => by cases h), Bool.true_or, cond_true]
                  exact ⟨_, rfl, .inl rfl⟩) (fun u hI => by
                simp only [Int.toNat_natCast, co] at hI
                exact .inr ⟨rfl, hI.1, hI.2⟩)
            rw [f1]
            rcases f2 with rfl | ⟨rfl, q1, q2⟩
            · rfl
            · rw [bindR_nx, Sum_eq co hle hO.wantB (fun i hi => by have := q1 i hi; omega), Option.bind_some, Sum_eq x2 hle hO.wantB hxb, Option.bind_some]
              have hz : Ris want.length (fun i => gx other (i : Int) - offF size gap i) := by
                have step : ∀ i, i + 1 < want.length → gx other (i : Int) - offF size gap i ≤ gx other ((i + 1 : Nat) : Int) - offF size gap (i + 1) := fun i hi => by
                  have := q2 i hi
                  have e : offF size gap (i + 1) = offF size gap i + gx size (i : Int) + gap := rfl
                  omega
                intro i j a b
                obtain ⟨d, rfl⟩ : ∃ d, j = i + d := ⟨j - i, by omega⟩
                induction d with
                | zero => exact Int.le_refl _
                | succ d ih =>
                  have h1 := ih (by omega) (by omega)
                  have h2 := step (i + d) (by omega)
                  simp only at h1 ⊢
                  rw [← Nat.add_assoc]
                  omega
              have hc := (x5.le hz).1
              have e1 : sm (fun i => ab (gx want (i : Int) - gx other (i : Int))) want.length = costN want.length (fun i => gx other (i : Int) - offF size gap i) (lvl want size gap) := sm_congr fun i hi => by
                show ab _ = ab (gx other (i : Int) - offF size gap i - lvl want size gap i)
                rw [ab_comm]; unfold lvl; congr 1; omega
              have e2 : sm (fun i => ab (gx want (i : Int) - gx x (i : Int))) want.length = costN want.length (fun i => vl want size gap (K i)) (lvl want size gap) := sm_congr fun i hi => by
                show ab _ = ab (vl want size gap (K i) - lvl want size gap i)
                rw [ab_comm, (x3 i hi).2]; unfold lvl; congr 1; omega
              rw [e1, e2, decide_eq_true hc]
          · rw [decide_eq_false (p := (other.length : Int) = (want.length : Int)) (by omega)]; rfl
  · rw [Near_bad h]
    simp [h]
end Go.DB
