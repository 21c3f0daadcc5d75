/-
  Small functions of the reference and of the library, in plain words.
-/
import Derived.Test.YtjkfpjpepjjhlaaTnbLi1
import Derived.Test.YtjkfpjpepjjhlaaPu0
set_option linter.unusedSimpArgs false
set_option linter.unusedVariables false
namespace Go.DB
open Go Go.RowKit

/-- What a search comes to. -/
theorem rforE_index {α : Type} [Inhabited α] {l : List α} {step : Int → Unit → Option (Res Unit (Res Unit Int))} (p : α → Bool) (hl : (l.length : Int) ≤ 9223372036854775807)
    (hf : ∀ (i : Nat) (h : i < l.length), step i () = some (if p l[i] = true then .ab (.ab (i : Int)) else .nx ())) :
    rforE (l.length : Int) step (fun s => Res.nx s) () = some (match l.findIdx? p with | some i => Res.ab (i : Int) | none => Res.nx ()) := by
  obtain ⟨e, he, hp⟩ := rforE_inv (n := (l.length : Int)) (step := step) (fin := fun s => (Res.nx s : Res Unit Int)) (s0 := ()) (fun i _ => ∀ j (h : j < l.length), j < i → p l[j] = false)
    (fun e => e = match l.findIdx? p with | some i => Res.ab (i : Int) | none => Res.nx ()) hl (fun j h hj => by omega) (fun i u hi hI => by
      have hi' : i < l.length := by omega
      cases u
      rw [hf i hi']
      cases hb : p l[i] with
      | false =>
        refine .inl ⟨(), by simp, fun j h hj => ?_⟩
        rcases Nat.lt_or_eq_of_le (Nat.lt_succ_iff.1 hj) with h1 | h1
        · exact hI j h h1
        · subst h1; exact hb
      | true =>
        refine .inr ⟨_, by simp; rfl, ?_⟩
        have : l.findIdx? p = some i := by
          rw [List.findIdx?_eq_some_iff_getElem]
          exact ⟨hi', hb, fun j hj => by simpa using hI j (by omega) hj⟩
        rw [this]) (fun u hI => by
      have : l.findIdx? p = none := by
        rw [List.findIdx?_eq_none_iff]
        intro x hx
        obtain ⟨j, hj, rfl⟩ := List.mem_iff_getElem.1 hx
        exact hI j hj (by simpa using hj)
      rw [this])
  rw [he, hp]
theorem idx_any {α : Type} {l : List α} {p : α → Bool} : decide (0 ≤ (match l.findIdx? p with | some i => (i : Int) | none => -1)) = l.any p := by
  cases h : l.findIdx? p with
  | none =>
    rw [List.findIdx?_eq_none_iff] at h
    simp; exact h
  | some i =>
    obtain ⟨hi, hp, _⟩ := List.findIdx?_eq_some_iff_getElem.1 h
    have : l.any p = true := List.any_eq_true.2 ⟨_, List.getElem_mem hi, hp⟩
    rw [this]; simp
end Go.DB
