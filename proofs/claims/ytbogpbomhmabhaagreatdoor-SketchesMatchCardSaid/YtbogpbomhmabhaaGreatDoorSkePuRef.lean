/-
  Small functions of the reference and of the library, in plain words.
-/
import Derived.Test.YtbogpbomhmabhaaGreatDoorSkeLi1
import Derived.Test.YtbogpbomhmabhaaGreatDoorPu0
set_option linter.unusedSimpArgs false
set_option linter.unusedVariables false
namespace Go.DB
open Go Go.RowKit

/-- What a search comes to. -/
theorem rforE_index {α : Type} [Inhabited α] {l : List α} {step : Int → Unit → Option (Res Unit (Res Unit Int))} (p : α → Bool) (hl : (l.length : Int) ≤ 9223372036854775807)
    (hf : ∀ (i : Nat) (h : i < l.length), step i () = some (if p l[i] = true then .ab (.ab (i : Int)) else .nx ())) :
    rforE (l.length : Int) step (fun s => Res.nx s) () = some (match l.findIdx? p with | some i => Res.ab (i : Int) | none => Res.nx ()) := by
  obtain ⟨e, he, hp⟩ := rforE_inv (n := (l.length : Int)) (step := step) (fin := fun s => (Res.nx s : Res Unit Int)) (s0 := ()) (fun i _ => ∀ j (h : j < l.length), j < i → p l[j] = false)
    (fun e => e = match l.findIdx? p with | some i => Res.ab (i : Int) | none => Res.nx ()) hl (fun j h hj => by omega) (fun i u hi hI => by
      have hi' : i < l.length := by omega
      cases u
      rw [hf i hi']
      cases hb : p l[i] with
      | false =>
        refine .inl ⟨(), by simp, fun j h hj => ?_⟩
        rcases Nat.lt_or_eq_of_le (Nat.lt_succ_iff.1 hj) with h1 | h1
        · exact hI j h h1
        · subst h1; exact hb
      | true =>
        refine .inr ⟨_, by simp; rfl, ?_⟩
        have : l.findIdx? p = some i := by
          rw [List.findIdx?_eq_some_iff_getElem]
          exact ⟨hi', hb, fun j hj => by simpa using hI j (by omega) hj⟩
        rw [this]) (fun u hI => by
      have : l.findIdx? p = none := by
        rw [List.findIdx?_eq_none_iff]
        intro x hx
        obtain ⟨j, hj, rfl⟩ := List.mem_iff_getElem.1 hx
        exact hI j hj (by simpa using hj)
      rw [this])
  rw [he, hp]
theorem idx_any {α : Type} {l : List α} {p : α → Bool} : decide (0 ≤ (match l.findIdx? p with | some i => (i : Int) | none => -1)) = l.any p := by
  cases h : l.findIdx? p with
  | none =>
    rw [List.findIdx?_eq_none_iff] at h
    simp; exact h
  | some i =>
    obtain ⟨hi, hp, _⟩ := List.findIdx?_eq_some_iff_getElem.1 h
    have : l.any p = true := List.any_eq_true.2 ⟨_, List.getElem_mem hi, hp⟩
    rw [this]; simp
theorem First_eq {l : List Int} (hl : (l.length : Int) ≤ 9223372036854775807) : ref_First l = some (firstErr l) := by
  unfold ref_First
  rw [rforE_err (fun e => e) (fun e => Res.ab e) hl (fun i hi => ?_)]
  · by_cases h : firstErr (l.map fun e => e) = 0
    · simp only [if_pos h, bindR_nx]; simp at h; simp [h]
    · simp only [if_neg h, bindR_ab]; simp
  · unfold ref_First_L1
    rw [need_of hi]
    simp only [bnd_eq]
    by_cases h : gx l i = 0 <;> simp [h]
theorem When_eq (b : Bool) (e : Int) : ref_When b e = some (if b = true then e else 0) := by
  unfold ref_When; cases b <;> rfl
theorem In_eq (n lo hi : Int) : ref_In n lo hi = some (decide (lo ≤ n ∧ n ≤ hi)) := by
  unfold ref_In; simp
theorem Abs_eq {n : Int} (h1 : -9223372036854775807 ≤ n) (h2 : n ≤ 9223372036854775807) : ref_Abs n = some (max n (-n)) := by
  unfold ref_Abs; rw [Wk (by omega) (by omega)]
theorem Down_eq {a b : Int} (hb : 1 ≤ b) (h1 : -1000000000000 ≤ a) (h2 : a ≤ 1000000000000) (h3 : b ≤ 1000000000000) : ref_Down a b = some (a / b) := by
  unfold ref_Down
  rw [need_of (by omega)]
  simp only [bnd_eq]
  have e1 := Int.mul_tdiv_add_tmod a b
  have e2 := Int.mul_ediv_add_emod a b
  have m1 := Int.emod_nonneg a (show b ≠ 0 by omega)
  have m2 := Int.emod_lt_of_pos a (show 0 < b by omega)
  have t1 : -b < a.tmod b := by have := Int.tmod_lt_of_pos (-a) (show 0 < b by omega); rw [Int.neg_tmod] at this; omega
  have t2 := Int.tmod_lt_of_pos a (show 0 < b by omega)
  have e3 : a.tdiv b * b = a - a.tmod b := by rw [Int.mul_comm]; omega
  rw [e3, Wk (n := a - a.tmod b) (by omega) (by omega)]
  by_cases c : a < a - a.tmod b
  · have c1 : decide (a < a - a.tmod b) = true := by simpa using c
    simp only [c1, cond_true, bind_sm, bnd_eq]
    have hq : a.tdiv b = a / b + 1 := by
      have : b * a.tdiv b = b * (a / b + 1) := by
        have h : b * (a / b + 1) = b * (a / b) + b := by rw [Int.mul_add, Int.mul_one]
        have hneg : a < 0 := by
          rcases Int.lt_or_le a 0 with h0 | h0
          · exact h0
          · have := Int.tmod_nonneg b h0; omega
        have hm : a % b = a.tmod b + b := by
          have hd : a % b = (a.tmod b + b) % b := by
            rw [Int.add_emod_right, Int.tmod_def, Int.sub_emod, Int.mul_emod_right, Int.sub_zero, Int.emod_emod_of_dvd _ (Int.dvd_refl b)]
          rw [hd, Int.emod_eq_of_lt (by omega) (by omega)]
        omega
      exact Int.eq_of_mul_eq_mul_left (by omega) this
    have hlo : -1000000000000 ≤ a / b := by
      have := Int.ediv_le_ediv (show 0 < b by omega) h1
      have h4 : -1000000000000 ≤ -1000000000000 / b := by
        rw [Int.le_ediv_iff_mul_le (by omega)]
        have : (-1000000000000 : Int) * b ≤ -1000000000000 * 1 := by omega
        omega
      omega
    have hhi : a / b ≤ 1000000000000 := by
      have h4 : b * (a / b) ≤ a := by omega
      rcases Int.lt_or_le 0 (a / b) with h0 | h0
      · have : 1 * (a / b) ≤ b * (a / b) := Int.mul_le_mul_of_nonneg_right hb (by omega)
        omega
      · omega
    rw [hq, Wk (by omega) (by omega)]
    congr 1; omega
  · have c1 : decide (a < a - a.tmod b) = false := by simpa using c
    simp only [c1, cond_false, bind_sm]
    have hm : a % b = a.tmod b := by
      have hd : a % b = (a.tmod b) % b := by
        rw [Int.tmod_def, Int.sub_emod, Int.mul_emod_right, Int.sub_zero, Int.emod_emod_of_dvd _ (Int.dvd_refl b)]
      rw [hd, Int.emod_eq_of_lt (by omega) (by omega)]
    have : b * a.tdiv b = b * (a / b) := by omega
    rw [Int.eq_of_mul_eq_mul_left (by omega) this]
theorem Sign_eq (n : Int) : ref_Sign n = some (min (max n (-1)) 1) := rfl
end Go.DB
