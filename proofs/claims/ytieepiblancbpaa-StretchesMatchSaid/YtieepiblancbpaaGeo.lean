/-
  Points and boxes.
-/
import Derived.Test.YtieepiblancbpaaCore7
set_option linter.unusedSimpArgs false
set_option linter.unusedVariables false
namespace Go.DB
open Go Go.RowKit

structure Pt where
  x : Int
  y : Int
  deriving DecidableEq, Inhabited
structure Bx where
  x : Int
  y : Int
  w : Int
  h : Int
  deriving DecidableEq, Inhabited

instance : Rep Pt := Rep.via (fun p => (p.x, p.y))
instance : Rep Bx := Rep.via (fun b => (b.x, b.y, b.w, b.h))

theorem rep_pt {p : Pt} {M : MSet} {v : Value} {w : World} : (rep p).p M v w ↔ v = .agg #[.int .i64 p.x, .int .i64 p.y] ∧ InI p.x ∧ InI p.y := by
  constructor
  · rintro ⟨cs, ⟨c1, c2, rfl, ⟨rfl, h1⟩, ⟨rfl, h2⟩⟩, rfl⟩
    exact ⟨rfl, h1, h2⟩
  · rintro ⟨rfl, h1, h2⟩
    exact ⟨[.int .i64 p.x, .int .i64 p.y], ⟨[_], [_], rfl, ⟨rfl, h1⟩, ⟨rfl, h2⟩⟩, rfl⟩
theorem rep_bx {p : Bx} {M : MSet} {v : Value} {w : World} : (rep p).p M v w ↔ v = .agg #[.int .i64 p.x, .int .i64 p.y, .int .i64 p.w, .int .i64 p.h] ∧ InI p.x ∧ InI p.y ∧ InI p.w ∧ InI p.h := by
  constructor
  · rintro ⟨cs, ⟨c1, c2, rfl, ⟨rfl, h1⟩, c3, c4, rfl, ⟨rfl, h2⟩, c5, c6, rfl, ⟨rfl, h3⟩, ⟨rfl, h4⟩⟩, rfl⟩
    exact ⟨rfl, h1, h2, h3, h4⟩
  · rintro ⟨rfl, h1, h2, h3, h4⟩
    exact ⟨[.int .i64 p.x, .int .i64 p.y, .int .i64 p.w, .int .i64 p.h], ⟨[_], _, rfl, ⟨rfl, h1⟩, [_], _, rfl, ⟨rfl, h2⟩, [_], [_], rfl, ⟨rfl, h3⟩, ⟨rfl, h4⟩⟩, rfl⟩

theorem rep_pt_cells {p : Pt} {M : MSet} {w : World} (h1 : InI p.x) (h2 : InI p.y) : Rep.cells M p [.int .i64 p.x, .int .i64 p.y] w := ⟨[_], [_], rfl, ⟨rfl, h1⟩, ⟨rfl, h2⟩⟩
theorem rep_bx_cells {p : Bx} {M : MSet} {w : World} (h1 : InI p.x) (h2 : InI p.y) (h3 : InI p.w) (h4 : InI p.h) : Rep.cells M p [.int .i64 p.x, .int .i64 p.y, .int .i64 p.w, .int .i64 p.h] w :=
  ⟨[_], _, rfl, ⟨rfl, h1⟩, [_], _, rfl, ⟨rfl, h2⟩, [_], [_], rfl, ⟨rfl, h3⟩, ⟨rfl, h4⟩⟩

theorem All2.ints {M : MSet} {w : World} : ∀ (xs : List Int) (vs : List Value), All2 M w (xs.map rep) vs → vs = xs.map (.int .i64 ·) ∧ ∀ x ∈ xs, InI x
  | [], [], _ => ⟨rfl, by simp⟩
  | [], _ :: _, h => h.elim
  | _ :: _, [], h => h.elim
  | x :: xs, v :: vs, h => by
    obtain ⟨h1, h2⟩ := All2.ints xs vs h.2
    obtain ⟨h3, h4⟩ := rep_int.1 h.1
    exact ⟨by rw [h1, h3]; rfl, fun y hy => by
      rcases List.mem_cons.1 hy with rfl | hy
      · exact h4
      · exact h2 y hy⟩

end Go.DB
