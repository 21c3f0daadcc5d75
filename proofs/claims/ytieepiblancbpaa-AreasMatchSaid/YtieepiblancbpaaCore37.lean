/-
  Ranges over maps whose outcome depends on the order, where what comes behind makes the same of all.
-/
import Derived.Test.YtieepiblancbpaaCoreF
set_option linter.unusedVariables false
set_option linter.unusedSimpArgs false
namespace Go.DB
open Go Go.RowKit

section
variable {K V σ ρ : Type}
open Classical in
/-- A loop over the entries of a map, and what comes behind: what comes out in whatever order the entries come. -/
noncomputable def mrangeK (m : GMap K V) (step : K → V → σ → Option σ) (s0 : σ) (k : σ → Option ρ) : Option ρ :=
  if h : ∃ r, ∀ l, Lists m l → ∃ s, mfold step l s0 = some s ∧ k s = some r then some h.choose else none
variable {m : GMap K V}
/-- All outcomes are so. -/
def MOut (m : GMap K V) (step : K → V → σ → Option σ) (s0 : σ) (Pp : σ → Prop) : Prop := ∀ l, Lists m l → ∃ s, mfold step l s0 = some s ∧ Pp s
end

section
variable {P : Program} {Q : Exit → Act → World → Prop} {n : Nat} {F : Fr} {L : Slots} {B : Owns}
variable {K V : Type} {m : GMap K V}
end
end Go.DB
