/-
  Ranges over maps whose outcome depends on the order, where what comes behind makes the same of all.
-/
import Derived.Test.YtgphjfcibeijiaaDoorCoreF
set_option linter.unusedVariables false
set_option linter.unusedSimpArgs false
namespace Go.DB
open Go Go.RowKit

section
variable {K V σ ρ : Type}
open Classical in
/-- A loop over the entries of a map, and what comes behind: what comes out in whatever order the entries come. -/
noncomputable def mrangeK (m : GMap K V) (step : K → V → σ → Option σ) (s0 : σ) (k : σ → Option ρ) : Option ρ :=
  if h : ∃ r, ∀ l, Lists m l → ∃ s, mfold step l s0 = some s ∧ k s = some r then some h.choose else none
variable {m : GMap K V}
/-- All outcomes are so. -/
def MOut (m : GMap K V) (step : K → V → σ → Option σ) (s0 : σ) (Pp : σ → Prop) : Prop := ∀ l, Lists m l → ∃ s, mfold step l s0 = some s ∧ Pp s
theorem mrangeK_some {step : K → V → σ → Option σ} {s0 : σ} {k : σ → Option ρ} {r : ρ} (h : mrangeK m step s0 k = some r) : ∃ Pp : σ → Prop, MOut m step s0 Pp ∧ ∀ s, Pp s → k s = some r := by
  unfold mrangeK at h
  by_cases hx : ∃ r, ∀ l, Lists m l → ∃ s, mfold step l s0 = some s ∧ k s = some r
  · rw [dif_pos hx] at h
    refine ⟨fun s => k s = some r, fun l hl => ?_, fun _ h => h⟩
    rw [← Option.some.inj h]; exact hx.choose_spec l hl
  · rw [dif_neg hx] at h; cases h
theorem mrangeK_of {step : K → V → σ → Option σ} {s0 : σ} {k : σ → Option ρ} {r : ρ} {l0 : List (K × V)} (h0 : Lists m l0) (h : ∀ l, Lists m l → ∃ s, mfold step l s0 = some s ∧ k s = some r) : mrangeK m step s0 k = some r := by
  unfold mrangeK
  have hx : ∃ r, ∀ l, Lists m l → ∃ s, mfold step l s0 = some s ∧ k s = some r := ⟨r, h⟩
  rw [dif_pos hx]
  obtain ⟨s, e1, e2⟩ := hx.choose_spec l0 h0
  obtain ⟨s', e3, e4⟩ := h l0 h0
  have : s = s' := Option.some.inj (e1.symm.trans e3)
  subst this
  exact e2.symm.trans e4
end

section
variable {P : Program} {Q : Exit → Act → World → Prop} {n : Nat} {F : Fr} {L : Slots} {B : Owns}
variable {K V : Type} {m : GMap K V}
theorem Cod.mrangeKL {c : Code} {σ : Type} {step : K → V → σ → Option σ} {s0 : σ} {Pp : σ → Prop} (he : MOut m step s0 Pp) (hfin : ∃ l, Lists m l) (Ls : List (K × V) × σ → Slots) (Bs : List (K × V) × σ → Owns) {keep : Slots} {keepB : Owns}
    (h0 : Sub L (Ls ([], s0))) (hB0 : SubB B (Bs ([], s0))) (hk : Sub L keep) (hkB : SubB B keepB)
    (round : ∀ (p : List (K × V) × σ), (∀ o, NextOf m p.1 o → ∃ out, mstep step p o = some out ∧ (∀ e', out = .done e' → Pp e')) →
      Cod P c (Exit.then (fun a w => ∃ s', (∃ o, NextOf m p.1 o ∧ mstep step p o = some (.again s')) ∧ Sat n F (Ls s' ++ keep) (Bs s' ++ keepB) a w) Q) n F (Ls p ++ keep) (Bs p ++ keepB)) : Cod P (.loop c) Q n F L B := by
  obtain ⟨l0, hl0⟩ := hfin
  refine Cod.loop (ι := { p : List (K × V) × σ // Part m p.1 ∧ ∀ l, Lists m (p.1 ++ l) → ∃ s, mfold step l p.2 = some s ∧ Pp s }) (fun p => Ls p.1 ++ keep) (fun p => Bs p.1 ++ keepB) (fun p => l0.length - p.1.1.length)
    ⟨([], s0), ⟨List.nodup_nil, by simp⟩, fun l hl => he l (by simpa using hl)⟩ (h0.append hk) (hB0.append hkB) ?_
  rintro ⟨p, hp, hI⟩
  have H : ∀ o, NextOf m p.1 o → ∃ out, mstep step p o = some out ∧ (∀ e', out = .done e' → Pp e') := by
    intro o ho
    cases o with
    | none =>
      obtain ⟨s, h1, h2⟩ := hI [] (by simpa using (show Lists m p.1 from ho))
      refine ⟨_, rfl, fun e' h3 => ?_⟩
      obtain rfl : p.2 = s := Option.some.inj h1
      cases h3
      exact h2
    | some x =>
      obtain ⟨l, hl⟩ := (hp.next ho).more hl0
      obtain ⟨s, h1, h2⟩ := hI (x :: l) (by simpa using hl)
      simp only [mfold] at h1
      simp only [mstep]
      cases hst : step x.1 x.2 p.2 with
      | none => rw [hst] at h1; cases h1
      | some s' => exact ⟨_, rfl, fun e' h3 => by cases h3⟩
  intro a w hs
  refine wp_mono (round p H a w hs) (fun x a w hq => ?_)
  cases x with
  | normal =>
    obtain ⟨s', ⟨o, ho, hst⟩, h3⟩ := hq
    cases o with
    | none => simp [mstep] at hst
    | some x =>
      simp only [mstep] at hst
      cases hx : step x.1 x.2 p.2 with
      | none => rw [hx] at hst; cases hst
      | some s'' =>
        rw [hx] at hst
        simp only [Option.bind_some, Option.some.injEq, Step.again.injEq] at hst
        subst hst
        have hpn := hp.next ho
        refine ⟨⟨(p.1 ++ [x], s''), hpn, fun l hl => ?_⟩, ?_, h3⟩
        · obtain ⟨s, h1, h2⟩ := hI (x :: l) (by simpa using hl)
          simp only [mfold, hx, Option.bind_some] at h1
          exact ⟨s, h1, h2⟩
        · have h1 := hpn.len hl0
          rw [List.length_append] at h1
          simp at h1 ⊢
          omega
  | _ => exact hq
end
end Go.DB
