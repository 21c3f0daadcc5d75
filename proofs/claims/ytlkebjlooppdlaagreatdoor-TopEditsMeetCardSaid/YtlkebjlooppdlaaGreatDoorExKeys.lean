/-
  The keys of a map, sorted.
-/
import Derived.Test.YtlkebjlooppdlaaGreatDoorExCmp
import Derived.Test.YtlkebjlooppdlaaGreatDoorCore46
import Derived.Shelf.SlIter.Nil
import Derived.Shelf.SlIter.Sorted
import Derived.Shelf.SlIter.Collect
import Derived.Shelf.SortM.Plain
import Derived.Shelf.SortM.SortNone
set_option linter.unusedSimpArgs false
set_option linter.unusedVariables false
namespace Go.DB
open Go Go.RowKit

section
variable {V : Type} [Rep V]
/-- What maps.Keys gives: the function value y over a box that holds the map. -/
def keysP (y : Nat) (m : GMap Str V) : SPred where
  p := fun M v w => ∃ b, v = .func (.func y) #[] #[.pointer (some ⟨b, 0, none⟩)] ∧ ¬ M b ∧ b < w.heap.size ∧ ∃ sv, w.cell? ⟨b, 0, none⟩ = some sv ∧ (rep m).p M sv w
  law := fun M M' v w w' hk hm ⟨b, hv, hM, hb, sv, hc, hr⟩ => ⟨b, hv, fun h => (hm b h).elim hM (by omega), Nat.lt_of_lt_of_le hb hk.size, sv, (World.cell?_of_block (w := w) (hk.block b hb hM)).trans hc, (rep m).law M M' sv w w' hk hm hr⟩
noncomputable def keysS (m : GMap Str V) : List Str := by
  classical
  exact if h : ∃ l, Lists m l then ((h.choose.map fun x => x.1.b).mergeSort Go.leB).map Str.mk else []
omit [Rep V] in
theorem keysS_eq {m : GMap Str V} {l : List (Str × V)} (h : Lists m l) : keysS m = ((l.map fun x => x.1.b).mergeSort Go.leB).map Str.mk := by
  have he : ∃ l, Lists m l := ⟨l, h⟩
  unfold keysS
  rw [dif_pos he]
  congr 1
  exact Go.mergeSort_of_perm ((he.choose_spec.perm h).map _)
end
end Go.DB
