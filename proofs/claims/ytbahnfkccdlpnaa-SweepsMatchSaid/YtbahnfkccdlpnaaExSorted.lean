/-
  Sequences of integers: what the library's iterator over a slice stands for.
-/
import Derived.Test.YtbahnfkccdlpnaaExSort
import Derived.Test.YtbahnfkccdlpnaaCoreD
import Derived.RangeFuncBox
import Derived.RangeFuncNested
import Derived.RangeFuncBound
import Derived.RangeFuncCalls
import Derived.RangeFuncLeaves
import Derived.Shelf.Abstract
import Derived.Shelf.SlIterI.Sorted
import Derived.WalkKit
import Derived.OwnWalkIn
import Derived.TacticsInMore
import Derived.LoopNIn
import Derived.LoopIn
import Derived.Maps.AppendAt
set_option linter.unusedSimpArgs false
set_option linter.unusedVariables false
namespace Go.DB
open Go Go.RowKit

/-- What slices.Values gives: a sequence of integers. -/
structure SeqI where
  l : List Int
  deriving Inhabited
/-- The function value y over a box that holds the slice. -/
def seqP (y : Nat) (M : MSet) (x : SeqI) (v : Value) (w : World) : Prop :=
  ∃ b, v = .func (.func y) #[] #[.pointer (some ⟨b, 0, none⟩)] ∧ ¬ M b ∧ b < w.heap.size ∧ ∃ sv, w.cell? ⟨b, 0, none⟩ = some sv ∧ (rep x.l).p M sv w
@[reducible] def Rep.seq (y : Nat) : Rep SeqI where
  sz := 1
  agg := false
  cells := fun M x cs w => ∃ v, cs = [v] ∧ seqP y M x v w
  len := fun ⟨v, h, _⟩ => by rw [h]; rfl
  pos := by decide
  flat := fun ⟨v, h, b, hv, _⟩ => by rw [h, hv]; rfl
  plain := fun ⟨v, h, b, hv, _⟩ c hc => by rw [h] at hc; simp at hc; rw [hc, hv]; rfl
  law := fun {M M' x cs w w'} hk hm ⟨v, h, b, hv, hM, hb, sv, hc, hr⟩ => ⟨v, h, b, hv, fun h => (hm b h).elim hM (by omega), Nat.lt_of_lt_of_le hb hk.size, sv, (World.cell?_of_block (w := w) (hk.block b hb hM)).trans hc, (rep x.l).law M M' sv w w' hk hm hr⟩

/-- The slice value sv holds the integers zs, in a block below n₀; or there are none. -/
def IntsAt (n₀ : Nat) (W : World) (sv : Value) (zs : List Int) : Prop :=
  (∃ a cap, sv = .slice a 0 cap ∧ zs = []) ∨ ∃ b off cap, sv = .slice (some ⟨b, off, none⟩) zs.length cap ∧ b < n₀ ∧ ∀ j, j < zs.length → W.cell? ⟨b, off + j, none⟩ = some (.int .i64 (zs[j]?.getD 0))
theorem IntsAt.below {n₀ : Nat} {A B : World} (h : Below n₀ A B) {sv : Value} {zs : List Int} : IntsAt n₀ A sv zs → IntsAt n₀ B sv zs
  | .inl e => .inl e
  | .inr ⟨b, off, cap, e, hb, hc⟩ => .inr ⟨b, off, cap, e, hb, fun j hj => (h.cell (p := ⟨b, off + j, none⟩) hb).trans (hc j hj)⟩
theorem IntsAt.of {M : MSet} {sv : Value} {zs : List Int} {W : World} (h : (rep zs).p M sv W) : IntsAt W.heap.size W sv zs ∧ ∀ x ∈ zs, InI x := by
  obtain ⟨a, cap, rfl, h1, h2, h3⟩ := rep_list.1 h
  cases zs with
  | nil => exact ⟨.inl ⟨a, cap, rfl, rfl⟩, fun x hx => by simp at hx⟩
  | cons z zs =>
    cases a with
    | none => exact absurd h3 (by simp [Lies])
    | some ad =>
      obtain ⟨b, off, sp⟩ := ad
      obtain ⟨hsp, _, hb, _⟩ := h3 0 (by simp)
      simp only at hsp hb
      subst hsp
      refine ⟨.inr ⟨b, off, cap, rfl, hb, fun j hj => ?_⟩, fun x hx => ?_⟩
      · obtain ⟨_, _, _, cs, ⟨hc, _⟩, hr⟩ := h3 j hj
        have := hr 0 (by decide)
        simp only [Rep.sz, Nat.mul_one, Nat.add_zero] at this
        rw [this, hc, List.getElem?_eq_getElem hj]; rfl
      · obtain ⟨j, hj, rfl⟩ := List.getElem_of_mem hx
        obtain ⟨_, _, _, cs, ⟨_, hi⟩, _⟩ := h3 j hj
        exact hi

/-- What has come when k rounds are over. -/
def uptoI (zs : List Int) (k : Nat) : List Int := (List.range k).map (fun j => zs[j]?.getD 0)
end Go.DB
