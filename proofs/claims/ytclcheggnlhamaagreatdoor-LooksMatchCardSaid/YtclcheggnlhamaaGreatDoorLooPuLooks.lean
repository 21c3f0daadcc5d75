/-
  Diagrams, and what is where: the law.
-/
import Derived.Test.YtclcheggnlhamaaGreatDoorLooPuLook5
set_option linter.unusedSimpArgs false
set_option linter.unusedVariables false
namespace Go.DB
open Go Go.RowKit

theorem LooksMatch_true (d : Doc) (id : Str) (p : Point) (b : Box) (whole : Bool) (hd : fits d) : law_LooksMatch d id p b whole = some true := by
  obtain ⟨e, c1, c2, hr⟩ := Check_both hd
  obtain ⟨r1, a1, b1⟩ := BoxOf_part c1 hr id
  obtain ⟨r2, a2, b2⟩ := Below_part c1 hr id
  obtain ⟨r3, a3, b3⟩ := Order_part c1 hr
  obtain ⟨r4, a4, b4⟩ := Hit_part c1 hr p
  obtain ⟨r5, a5, b5⟩ := In_part c1 hr b whole
  obtain ⟨r6, a6, b6⟩ := Line_part c1 hr id
  have hnl : (d.Nodes.length : Int) ≤ 9223372036854775807 := by have : d.Nodes.length ≤ 9223372036854775807 := hd.1.1; omega
  have hel : (d.Edges.length : Int) ≤ 9223372036854775807 := by have : d.Edges.length ≤ 9223372036854775807 := hd.2.1; omega
  have hj : (bif decide (e = 0) then (Option.bind (ref_NodeAt d id) fun r1 => Option.bind (ref_When (decide (r1 < 0)) 10) fun none1 => some none1) else some e) = some (if e = 0 then (if nodeAt d.Nodes id < 0 then 10 else 0) else e) := by
    rw [NodeAt_eq hnl, Option.bind_some, When_eq, Option.bind_some]
    by_cases he : e = 0
    · rw [decide_eq_true he, if_pos he]
      by_cases hn : nodeAt d.Nodes id < 0 <;> simp [hn]
    · rw [decide_eq_false he, if_neg he]; rfl
  unfold law_LooksMatch
  rw [c2, Option.bind_some, hj, Option.bind_some, a1, Option.bind_some, pages_eq, Option.bind_some, c1, PointError_eq, BoxError_eq, EdgeAt_eq hel]
  simp only [Bool.not_true, Bool.not_false, gd_true, Option.bind_some, decide_true, Bool.or_false]
  rw [b1, a2, a3, a4, a5, a6]
  simp only [Option.bind_some, Bool.not_true, Bool.or_false, cond_false]
  rw [b2, b3]
  simp only [Option.bind_some, Bool.not_true, Bool.not_false, gd_true, cond_false, Bool.or_false]
  rw [First_eq (by simp), When_eq]
  simp only [Option.bind_some]
  rw [b4]
  simp only [Option.bind_some, Bool.not_true, Bool.not_false, gd_true, cond_false, Bool.or_false]
  rw [First_eq (by simp)]
  simp only [Option.bind_some]
  rw [b5]
  simp only [Option.bind_some, Bool.not_true, cond_false]
  rw [First_eq (by simp)]
  simp only [Option.bind_some, decide_eq_true_eq]
  rw [b6]; rfl
end Go.DB
