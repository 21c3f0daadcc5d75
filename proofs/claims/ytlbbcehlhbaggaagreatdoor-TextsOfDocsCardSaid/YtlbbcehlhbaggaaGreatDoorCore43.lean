/-
  Rows into which the elements of other rows are put: capacities, parts up to the capacity, copies into a row of one's own, zeros behind a row.
-/
import Derived.Test.YtlbbcehlhbaggaaGreatDoorCoreG
import Derived.Lib.Overlaps
import Derived.Lib.AppendZerosOnto
set_option linter.unusedVariables false
set_option linter.unusedSimpArgs false
namespace Go.DB
open Go Go.RowKit

section
variable {P : Program} {Q : Exit → Act → World → Prop} {n : Nat} {F : Fr} {L : Slots} {B : Owns}

end

section
variable {P : Program} {ops : Array Oper} {fs : Nat} {L : Slots} {B : Owns} {ty : TypeId} {pos : String} {after : Array Edge} {d : Option Tmp} {xr : List Nat}

/-- A row with a gap: the cells are there, and hold whatever. -/
def rowGap (T : TypeId) {α : Type} [Rep α] (A : List α) (m : Nat) (C : List α) : CPred where
  p := fun M D v w => ∃ (ad : Addr) (n cap : Nat), v = .slice (some ad) n cap ∧ A.length + m + C.length ≤ cap ∧ cap ≤ 9223372036854775807 ∧ ad.spot = none ∧ (∀ k, D k ↔ k = ad.block) ∧ M ad.block ∧
    ∃ pre ca mid cc rest : List Value, HRow w ad.block (pre ++ ca ++ mid ++ cc ++ rest) T (Rep.sz α) ∧ pre.length = ad.off ∧ Elems M w A ca ∧ mid.length = m * Rep.sz α ∧ Elems M w C cc ∧ (cap - (A.length + m + C.length)) * Rep.sz α ≤ rest.length
  inM := fun M D v w ⟨ad, n, cap, _, _, _, _, hD, hM, _⟩ k hk => (hD k).1 hk ▸ hM
  law := fun M M' D v w w' hk hm hown ⟨ad, n, cap, hv, h1, h2, hs, hD, hM, pre, ca, mid, cc, rest, hh, hp, ha, hl, hc, hr⟩ => by
    obtain ⟨g1, g2⟩ := hown ad.block ((hD _).2 rfl)
    exact ⟨ad, n, cap, hv, h1, h2, hs, hD, g1, pre, ca, mid, cc, rest, hh.to g2, hp, Elems.law hk hm A ca ha, hl, Elems.law hk hm C cc hc, hr⟩

theorem Elems.split {α : Type} [Rep α] {M : MSet} {w : World} : ∀ {A C : List α} {cs : List Value}, Elems M w (A ++ C) cs → ∃ ca cc, cs = ca ++ cc ∧ Elems M w A ca ∧ Elems M w C cc
  | [], _, cs, h => ⟨[], cs, rfl, rfl, h⟩
  | a :: A, C, _, ⟨c, r, rfl, hc, hr⟩ => by
    obtain ⟨ca, cc, rfl, h1, h2⟩ := Elems.split hr
    exact ⟨c ++ ca, cc, (List.append_assoc _ _ _).symm, ⟨c, ca, rfl, hc, h1⟩, h2⟩
end
end Go.DB
