/-
  Ways along paths, in plain words.
-/
import Derived.Test.YtjkfpjpepjjhlaaTnbPuGeo
set_option linter.unusedSimpArgs false
set_option linter.unusedVariables false
namespace Go.DB
open Go Go.RowKit

def sg (n : Int) : Int := min (max n (-1)) 1
def wayI (a b : Point) : Point := ⟨sg (b.X - a.X), sg (b.Y - a.Y)⟩
theorem heading_eq {a b : Point} (ha : okP a) (hb : okP b) : route_heading a b = some (wayI a b) := by
  unfold okP at ha hb
  unfold route_heading wayI route_heading_1
  simp only [bnd_eq, bind_sm]
  rw [Wk (n := b.X - a.X) (by omega) (by omega), Wk (n := b.Y - a.Y) (by omega) (by omega)]; rfl

/-- The stretch that ends at the point i of a right path. -/
theorem stretch {l : List Point} (h : pathErr l = 0) {i : Nat} (h1 : 1 ≤ i) (h2 : i < l.length) : okP (gx l ((i : Int) - 1)) ∧ okP (gx l (i : Int)) ∧
    (((gx l (i : Int)).X = (gx l ((i : Int) - 1)).X ∧ (gx l (i : Int)).Y ≠ (gx l ((i : Int) - 1)).Y) ∨ ((gx l (i : Int)).X ≠ (gx l ((i : Int) - 1)).X ∧ (gx l (i : Int)).Y = (gx l ((i : Int) - 1)).Y)) := by
  obtain ⟨p1, p2⟩ := pathErr_zero.1 h
  have hb := (isPath_iff.1 p2).2 i h1 h2
  refine ⟨okP_at p1 ⟨by omega, by omega⟩, okP_at p1 ⟨by omega, by omega⟩, ?_⟩
  unfold badAt at hb
  by_cases c1 : (gx l (i : Int)).X = (gx l ((i : Int) - 1)).X <;> by_cases c2 : (gx l (i : Int)).Y = (gx l ((i : Int) - 1)).Y <;> simp [c1, c2] at hb ⊢
theorem lenUpto_next {l : List Point} {i : Nat} (h1 : 1 ≤ i) : lenUpto l (i + 1) = lenUpto l i + farI (gx l ((i : Int) - 1)) (gx l (i : Int)) := by
  have : ¬ i = 0 := by omega
  simp [lenUpto, this]
theorem far_pos {l : List Point} (h : pathErr l = 0) {i : Nat} (h1 : 1 ≤ i) (h2 : i < l.length) : 1 ≤ farI (gx l ((i : Int) - 1)) (gx l (i : Int)) := by
  obtain ⟨_, _, h3⟩ := stretch h h1 h2
  unfold farI; omega
/-- The point on the stretch that ends at i, at the distance n along it. -/
def ptI (l : List Point) (i : Nat) (n : Int) : Point := ⟨(gx l ((i : Int) - 1)).X + n * (wayI (gx l ((i : Int) - 1)) (gx l (i : Int))).X, (gx l ((i : Int) - 1)).Y + n * (wayI (gx l ((i : Int) - 1)) (gx l (i : Int))).Y⟩
/-- A stretch goes across or down, this way or that. -/
theorem stretch_way {l : List Point} (h : pathErr l = 0) {i : Nat} (h1 : 1 ≤ i) (h2 : i < l.length) :
    ∃ s : Int, (s = 1 ∨ s = -1) ∧ ((wayI (gx l ((i : Int) - 1)) (gx l (i : Int)) = ⟨0, s⟩ ∧ (gx l (i : Int)).X = (gx l ((i : Int) - 1)).X ∧ (gx l (i : Int)).Y = (gx l ((i : Int) - 1)).Y + s * farI (gx l ((i : Int) - 1)) (gx l (i : Int))) ∨
      (wayI (gx l ((i : Int) - 1)) (gx l (i : Int)) = ⟨s, 0⟩ ∧ (gx l (i : Int)).Y = (gx l ((i : Int) - 1)).Y ∧ (gx l (i : Int)).X = (gx l ((i : Int) - 1)).X + s * farI (gx l ((i : Int) - 1)) (gx l (i : Int)))) := by
  obtain ⟨_, _, h3⟩ := stretch h h1 h2
  generalize gx l ((i : Int) - 1) = a at *
  generalize gx l (i : Int) = b at *
  rcases h3 with ⟨e1, e2⟩ | ⟨e1, e2⟩
  · by_cases c : a.Y < b.Y
    · refine ⟨1, .inl rfl, .inl ⟨?_, e1, ?_⟩⟩
      · unfold wayI sg; congr 1 <;> omega
      · unfold farI; omega
    · refine ⟨-1, .inr rfl, .inl ⟨?_, e1, ?_⟩⟩
      · unfold wayI sg; congr 1 <;> omega
      · unfold farI; omega
  · by_cases c : a.X < b.X
    · refine ⟨1, .inl rfl, .inr ⟨?_, e2, ?_⟩⟩
      · unfold wayI sg; congr 1 <;> omega
      · unfold farI; omega
    · refine ⟨-1, .inr rfl, .inr ⟨?_, e2, ?_⟩⟩
      · unfold wayI sg; congr 1 <;> omega
      · unfold farI; omega
end Go.DB
