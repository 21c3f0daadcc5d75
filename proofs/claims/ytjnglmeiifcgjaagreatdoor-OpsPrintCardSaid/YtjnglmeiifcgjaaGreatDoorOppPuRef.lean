/-
  Small functions of the reference and of the library, in plain words.
-/
import Derived.Test.YtjnglmeiifcgjaaGreatDoorOppLi1
import Derived.Test.YtjnglmeiifcgjaaGreatDoorPu0
set_option linter.unusedSimpArgs false
set_option linter.unusedVariables false
namespace Go.DB
open Go Go.RowKit

/-- Two lists are compared. -/
theorem rforE_same {α : Type} [Inhabited α] [DecidableEq α] {l m : List α} {step : Int → Unit → Option (Res Unit (Res Unit Bool))} (hlm : l.length = m.length) (hl : (l.length : Int) ≤ 9223372036854775807)
    (hf : ∀ (i : Nat) (h : i < l.length), step i () = some (if l[i] = m[i]'(hlm ▸ h) then .nx () else .ab (.ab false))) :
    rforE (l.length : Int) step (fun s => Res.nx s) () = some (if l = m then Res.nx () else Res.ab false) := by
  obtain ⟨e, he, hp⟩ := rforE_inv (n := (l.length : Int)) (step := step) (fin := fun s => (Res.nx s : Res Unit Bool)) (s0 := ()) (fun i _ => ∀ j (h : j < l.length), j < i → l[j] = m[j]'(hlm ▸ h))
    (fun e => e = if l = m then Res.nx () else Res.ab false) hl (fun j h hj => by omega) (fun i u hi hI => by
      have hi' : i < l.length := by omega
      cases u
      rw [hf i hi']
      by_cases hb : l[i] = m[i]'(hlm ▸ hi')
      · refine .inl ⟨(), by simp [hb], fun j h hj => ?_⟩
        rcases Nat.lt_or_eq_of_le (Nat.lt_succ_iff.1 hj) with h1 | h1
        · exact hI j h h1
        · subst h1; exact hb
      · refine .inr ⟨_, by rw [if_neg hb], ?_⟩
        have : ¬ l = m := fun e => hb (by subst e; rfl)
        rw [if_neg this]) (fun u hI => by
      have : l = m := List.ext_getElem hlm (fun j h1 h2 => hI j h1 (by simpa using h1))
      rw [if_pos this])
  rw [he, hp]

theorem First_eq {l : List Int} (hl : (l.length : Int) ≤ 9223372036854775807) : ref_First l = some (firstErr l) := by
  unfold ref_First
  rw [rforE_err (fun e => e) (fun e => Res.ab e) hl (fun i hi => ?_)]
  · by_cases h : firstErr (l.map fun e => e) = 0
    · simp only [if_pos h, bindR_nx]; simp at h; simp [h]
    · simp only [if_neg h, bindR_ab]; simp
  · unfold ref_First_L1
    rw [need_of hi]
    simp only [bnd_eq]
    by_cases h : gx l i = 0 <;> simp [h]
theorem When_eq (b : Bool) (e : Int) : ref_When b e = some (if b = true then e else 0) := by
  unfold ref_When; cases b <;> rfl
theorem In_eq (n lo hi : Int) : ref_In n lo hi = some (decide (lo ≤ n ∧ n ≤ hi)) := by
  unfold ref_In; simp
end Go.DB
