/-
  Equal branches: the reference in plain words.
-/
import Derived.Test.YtakkmmhjohadaaaTidPuTree0
set_option linter.unusedSimpArgs false
set_option linter.unusedVariables false
namespace Go.DB
open Go Go.RowKit

/-! Equal branches. -/

/-- A loop that asks all. -/
theorem rforE_alls {O : Type} {n : Nat} {step : Int → Unit → Option (Res Unit O)} {fin : Unit → O} (p : Nat → Bool) (e : O) (hn : (n : Int) ≤ 9223372036854775807)
    (hs : ∀ i : Nat, i < n → step i () = some (if p i = true then .nx () else .ab e)) : rforE (n : Int) step fin () = some (if (List.range n).all p = true then fin () else e) := by
  obtain ⟨x, h1, h2⟩ := rforE_inv (n := (n : Int)) (step := step) (fin := fin) (s0 := ()) (fun i _ => ∀ j, j < i → p j = true) (fun x => x = if (List.range n).all p = true then fin () else e) hn (fun j h => by omega) (fun i u hi hI => by
    rw [hs i (by omega)]
    by_cases hp : p i = true
    · refine .inl ⟨(), by rw [if_pos hp], fun j hj => ?_⟩
      rcases Nat.lt_or_eq_of_le (Nat.lt_succ_iff.1 hj) with h | h
      · exact hI j h
      · subst h; exact hp
    · refine .inr ⟨e, by rw [if_neg hp], ?_⟩
      rw [if_neg]
      intro h
      rw [List.all_eq_true] at h
      exact hp (h i (List.mem_range.2 (by omega)))) (fun u hI => by
    rw [if_pos]
    rw [List.all_eq_true]
    intro j hj
    exact hI j (by simpa using List.mem_range.1 hj))
  rw [h1, h2]

def sm (t : List Branch) : Nat → Int → Int → Bool
  | 0, _, _ => false
  | d + 1, a, b => decide ((gx t a).W_ = (gx t b).W_) && decide ((gx t a).H = (gx t b).H) && decide ((kidsOf t a).length = (kidsOf t b).length) && (List.range (kidsOf t a).length).all (fun i => sm t d (gx (kidsOf t a) (i : Int)) (gx (kidsOf t b) (i : Int)))

theorem SameOf_eq {t : List Branch} {m : Nat} (h : TreeOK t m) {i : Nat} {a b : Int} (hi : i < m) (hk : a ∈ lev (kidsOf t) i) (h2 : 0 ≤ b) (h3 : b < t.length) : ref_SameOf t a b = some (sm t (m - i) a b) := by
  have hl := h.len
  have kr : ∀ {k : Int}, 0 ≤ k → k < t.length → (kidsOf t k).length ≤ 300 := fun {k} h0 h1 => by
    have h2 := nodup_le t.length (kidsOf t k) (h.fo.one k h0 h1) (fun x hx => by have := h.fo.rng k h0 h1 x hx; omega)
    omega
  refine fixp_of (m - i) (h.fo.ind h.nil (fun d a => ∀ b : Int, 0 ≤ b → b < t.length → ∀ n, d ≤ n → fixN ref_SameOf_body n (t, a, b) = some (sm t d a b)) (fun d i a hd ha ih b hb0 hb1 n hn => ?_) (m - i) i a (by omega) hk b h2 h3)
  obtain ⟨e, rfl⟩ : ∃ e, n = e + 1 := ⟨n - 1, by omega⟩
  have hr := h.fo.lev_in ha
  have hka := kr hr.1 hr.2
  show ref_SameOf_body (fixN ref_SameOf_body e) (t, a, b) = _
  have ih' := fun x hx y y0 y1 => ih x hx y y0 y1 e (by omega)
  generalize fixN ref_SameOf_body e = slf at ih' ⊢
  unfold ref_SameOf_body
  simp only
  have q1 : inR t a := ⟨hr.1, hr.2⟩
  have q2 : inR t b := ⟨hb0, hb1⟩
  rw [need_of q1, need_of q2, need_of (fun _ => q1), need_of (fun _ => q2), need_of (fun _ => q1), need_of (fun _ => q2)]
  have e1 : (gx t a).Kids = kidsOf t a := rfl
  have e2 : (gx t b).Kids = kidsOf t b := rfl
  simp only [e1, e2, sm]
  by_cases hc : (gx t a).W_ = (gx t b).W_ ∧ (gx t a).H = (gx t b).H
  · obtain ⟨c1, c2⟩ := hc
    simp only [c1, c2, decide_true, Bool.and_self, gd_true, Bool.true_and]
    unfold slices_EqualFunc_int
    by_cases c3 : (kidsOf t a).length = (kidsOf t b).length
    · simp only [c3, decide_true, Bool.not_true, cond_false]
      rw [rforE_alls (n := (kidsOf t b).length) (fun j => sm t d (gx (kidsOf t a) (j : Int)) (gx (kidsOf t b) (j : Int))) (Res.ab false) (by omega) (fun j hj => by
        unfold slices_EqualFunc_int_L1 ref_SameOf_1
        have q1 : inR (kidsOf t a) (j : Int) := ⟨by omega, by omega⟩
        have q2 : inR (kidsOf t b) (j : Int) := ⟨by omega, by omega⟩
        have q3 := h.fo.rng b hb0 hb1 _ (gx_mem q2)
        rw [need_of q1, need_of q2]
        show Option.bind (Option.bind (slf (t, gx (kidsOf t a) (j : Int), gx (kidsOf t b) (j : Int))) fun r1 => some r1) _ = _
        rw [ih' _ (gx_mem q1) _ (by omega) (by omega)]
        simp only [bind_sm]
        cases sm t d (gx (kidsOf t a) (j : Int)) (gx (kidsOf t b) (j : Int)) <;> rfl)]
      cases (List.range (kidsOf t b).length).all (fun j => sm t d (gx (kidsOf t a) (j : Int)) (gx (kidsOf t b) (j : Int))) <;> simp
    · have c4 : ¬ (((kidsOf t a).length : Int) = ((kidsOf t b).length : Int)) := by omega
      simp [c3, c4]
  · have : (decide ((gx t a).W_ = (gx t b).W_) && decide ((gx t a).H = (gx t b).H)) = false := by simp; omega
    simp [this]

end Go.DB
