/-
  Rows, their places, and pairs of rows; how many links cross.
-/
import Derived.Test.YtbahnfkccdlpnaaTLaPuOrders0
import Derived.Test.YtbahnfkccdlpnaaTLaPuRef
set_option linter.unusedSimpArgs false
set_option linter.unusedVariables false
namespace Go.DB
open Go Go.RowKit

def knI (l : List Int) : GMap Int Bool := ⟨fun x => if x ∈ l then some true else none⟩
/-- The places of a row. -/
theorem places_eq {row : List Int} (hl : row.length ≤ 1000000) : ∃ M, layer_places row = some M ∧ (∀ x, M.has x = decide (x ∈ row)) ∧ (row.Nodup → ∀ x ∈ row, M.getD x 0 = (ps row x : Int)) := by
  unfold layer_places
  rw [bnd_eq]
  obtain ⟨M, h1, h2, h3⟩ := rfor_inv (n := (row.length : Int)) (step := layer_places_L1 row) (s0 := (GMap.nil : GMap Int Int))
    (fun i M => (∀ x, (M.f x).isSome = decide (x ∈ row.take i)) ∧ (row.Nodup → ∀ (j : Nat) (hj : j < row.length), j < i → M.f row[j] = some (j : Int))) (by omega) ⟨fun x => by simp [GMap.nil], fun _ j hj h => by omega⟩ (fun i M hi hI => by
      have hi' : i < row.length := by omega
      obtain ⟨g1, g2⟩ := hI
      unfold layer_places_L1
      rw [need_of ⟨by omega, by omega⟩, gx_nat hi']
      refine ⟨_, rfl, fun x => ?_, fun hn j hj hji => ?_⟩
      · show (if x = row[i] then some (i : Int) else M.f x).isSome = _
        rw [List.take_succ_eq_append_getElem hi']
        by_cases e : x = row[i]
        · rw [if_pos e]
          exact (decide_eq_true (List.mem_append_right _ (List.mem_singleton.2 e))).symm
        · rw [if_neg e, g1]
          exact decide_eq_decide.2 ⟨fun h => List.mem_append_left _ h, fun h => (List.mem_append.1 h).elim id (fun h => absurd (List.mem_singleton.1 h) e)⟩
      · show (if row[j] = row[i] then some (i : Int) else M.f row[j]) = _
        by_cases e : j = i
        · subst e; simp
        · have : ¬ row[j] = row[i] := fun h => by
            rcases Nat.lt_or_gt_of_ne e with c | c
            · exact List.pairwise_iff_getElem.1 hn _ _ hj hi' c h
            · omega
          rw [if_neg this]
          exact g2 hn j hj (by omega))
  rw [h1, Option.bind_some]
  simp only [Int.toNat_natCast, List.take_length] at h2 h3
  refine ⟨M, rfl, fun x => h2 x, fun hn x hx => ?_⟩
  have hp := ps_lt hx
  have := h3 hn _ hp hp
  rw [ps_get hp] at this
  unfold GMap.getD
  rw [this]; rfl

/-! How many links cross. -/
/-- More to the right in the upper row. -/
def qU (upper : List Int) (x y : Link) : Prop := ps upper y.From < ps upper x.From
instance (upper : List Int) (x y : Link) : Decidable (qU upper x y) := by unfold qU; infer_instance
def crsF (upper O : List Int) (x y : Link) : Int := if ((ps upper x.From : Int) - (ps upper y.From : Int)) * ((ps O x.To : Int) - (ps O y.To : Int)) < 0 then 1 else 0
end Go.DB
