/-
  Right diagrams, in plain words: what is looked at.
-/
import Derived.Test.YtbogpbomhmabhaaGreatDoorSkePuLook2
import Derived.Test.YtbogpbomhmabhaaGreatDoorSkePuPages
import Derived.Test.YtbogpbomhmabhaaGreatDoorSkePuPort
set_option linter.unusedSimpArgs false
set_option linter.unusedVariables false
namespace Go.DB
open Go Go.RowKit

theorem look_ok {d : Doc} (hc : page_Check d = some 0) (h : Right d) : page_look d = some (some (viewD d), 0) := by
  unfold page_look
  rw [hc, Option.bind_some, h.viewOf]; rfl
theorem nodeAt_nat {l : List DNode} {id : Str} (h : ¬ nodeAt l id < 0) : ∃ i : Nat, ∃ hi : i < l.length, nodeAt l id = i ∧ l[i].Id = id := by
  obtain ⟨⟨h1, h2⟩, h3⟩ := nodeAt_in h
  refine ⟨(nodeAt l id).toNat, by omega, by omega, ?_⟩
  rw [show nodeAt l id = (((nodeAt l id).toNat : Nat) : Int) by omega, gx_nat (by omega)] at h3
  exact h3
theorem isS_bad {e : Int} (he : e ≠ 0) (r : Option Str) : law_is_string Str.nil e e r = some true := by
  unfold law_is_string
  rw [decide_eq_false he]; simp
theorem isS_ok {b : Str} : law_is_string b 0 0 (some b) = some true := by
  unfold law_is_string
  simp [gd]
end Go.DB
