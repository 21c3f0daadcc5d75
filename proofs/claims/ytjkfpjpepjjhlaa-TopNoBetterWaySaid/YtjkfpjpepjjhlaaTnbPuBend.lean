/-
  A best way has few bends.
-/
import Derived.Test.YtjkfpjpepjjhlaaTnbPuRoute
import Derived.Test.YtjkfpjpepjjhlaaTnbPuLevel
set_option linter.unusedSimpArgs false
set_option linter.unusedVariables false
namespace Go.DB
open Go Go.RowKit

def sdO : Lev.Dir → Int
  | .no => 1
  | .ea => 2
  | .so => 3
  | .we => 4
noncomputable def drO (s : Int) : Lev.Dir := if s = 1 then .no else if s = 2 then .ea else if s = 3 then .so else .we
theorem sdO_in (d : Lev.Dir) : 1 ≤ sdO d ∧ sdO d ≤ 4 := by cases d <;> decide
theorem sd_dr {s : Int} (h1 : 1 ≤ s) (h4 : s ≤ 4) : sdO (drO s) = s := by
  have : s = 1 ∨ s = 2 ∨ s = 3 ∨ s = 4 := by omega
  rcases this with rfl | rfl | rfl | rfl <;> rfl
theorem tow_dr (d : Lev.Dir) : tow (sdO d) = ⟨Lev.dx d, Lev.dy d⟩ := by cases d <;> rfl
theorem back_dr (d : Lev.Dir) : backS (sdO d) = sdO (Lev.opp d) := by cases d <;> rfl
theorem sdO_inj {d e : Lev.Dir} (h : sdO d = sdO e) : d = e := by cases d <;> cases e <;> first | rfl | (simp [sdO] at h)

noncomputable def ptP (t : Task) (u : Lev.Pos) : Point := ⟨gx (XL t) u.1, gx (YL t) u.2⟩
def OnP (t : Task) (u : Lev.Pos) : Prop := 0 ≤ u.1 ∧ u.1 < (XL t).length ∧ 0 ≤ u.2 ∧ u.2 < (YL t).length
/-- The stretch in a direction is free. -/
def FrP (t : Task) (u : Lev.Pos) (d : Lev.Dir) : Prop := OnP t u ∧ OnP t (Lev.mv u d 1) ∧ blkB t (ptP t u) (ptP t (Lev.mv u d 1)) = false
/-- The corner of a zone that one sees from there. -/
def cornX (z : Route_zone) (a e : Lev.Dir) : Int := if Lev.dx a + Lev.dx e = 1 then z.left else z.right
def cornY (z : Route_zone) (a e : Lev.Dir) : Int := if Lev.dy a + Lev.dy e = 1 then z.top else z.bottom
def CorP (t : Task) (u : Lev.Pos) (a e : Lev.Dir) : Prop := OnP t u ∧ Lev.perp a e ∧ ∃ j : Nat, ∃ h : j < t.Walls.length, ptP t u = ⟨cornX (zn t t.Walls[j]) a e, cornY (zn t t.Walls[j]) a e⟩

theorem blk_comm (t : Task) (a b : Point) : blkB t a b = blkB t b a := by
  rw [Bool.eq_iff_iff, blkB_iff, blkB_iff]
  have : ∀ z, inZ z a b ↔ inZ z b a := fun z => by unfold inZ; omega
  simp only [this]
/-- Between neighbours there is no line. -/
theorem no_line {x : List Int} (hs : x.Pairwise (· < ·)) {a v : Int} (h0 : 0 ≤ a) (h1 : a + 1 < x.length) (hv : v ∈ x) (g1 : gx x a < v) (g2 : v < gx x (a + 1)) : False := by
  obtain ⟨k, hk, rfl⟩ := List.mem_iff_getElem.1 hv
  rw [← gx_nat hk] at g1 g2
  have c1 : a < (k : Int) := Classical.byContradiction fun hn => by have := gx_le hs (a := (k : Int)) (b := a) (by omega) (by omega) (by omega); omega
  have c2 : (k : Int) < a + 1 := Classical.byContradiction fun hn => by have := gx_le hs (a := a + 1) (b := (k : Int)) (by omega) (by omega) (by omega); omega
  omega
theorem zone_lines {t : Task} {w : Box} (hw : w ∈ t.Walls) : (∀ v, v = (zn t w).left ∨ v = (zn t w).right → -1000000 ≤ v → v ≤ 1000000 → v ∈ XL t) ∧ ∀ v, v = (zn t w).top ∨ v = (zn t w).bottom → -1000000 ≤ v → v ≤ 1000000 → v ∈ YL t := by
  refine ⟨fun v hv h1 h2 => in_grid ?_ h1 h2, fun v hv h1 h2 => in_grid ?_ h1 h2⟩
  · unfold xv
    refine List.mem_append_right _ (List.mem_flatMap.2 ⟨w, hw, ?_⟩)
    rcases hv with rfl | rfl <;> simp
  · unfold yv
    refine List.mem_append_right _ (List.mem_flatMap.2 ⟨w, hw, ?_⟩)
    rcases hv with rfl | rfl <;> simp

/-- One line beside another: what a zone's side can be. -/
theorem side_low {x : List Int} (hs : x.Pairwise (· < ·)) (hb : ∀ v ∈ x, -1000000 ≤ v ∧ v ≤ 1000000) {a v : Int} (h0 : 0 ≤ a) (h1 : a + 1 < x.length) (hv : -1000000 ≤ v → v ≤ 1000000 → v ∈ x) (g1 : gx x a ≤ v) (g2 : v < gx x (a + 1)) : v = gx x a := by
  have b1 := hb _ (gx_mem (show inR x a from ⟨h0, by omega⟩))
  have b2 := hb _ (gx_mem (show inR x (a + 1) from ⟨by omega, h1⟩))
  exact Classical.byContradiction fun hn => no_line hs h0 h1 (hv (by omega) (by omega)) (by omega) g2
theorem side_high {x : List Int} (hs : x.Pairwise (· < ·)) (hb : ∀ v ∈ x, -1000000 ≤ v ∧ v ≤ 1000000) {a v : Int} (h0 : 0 ≤ a) (h1 : a + 1 < x.length) (hv : -1000000 ≤ v → v ≤ 1000000 → v ∈ x) (g1 : gx x a < v) (g2 : v ≤ gx x (a + 1)) : v = gx x (a + 1) := by
  have b1 := hb _ (gx_mem (show inR x a from ⟨h0, by omega⟩))
  have b2 := hb _ (gx_mem (show inR x (a + 1) from ⟨by omega, h1⟩))
  exact Classical.byContradiction fun hn => no_line hs h0 h1 (hv (by omega) (by omega)) g1 (by omega)
theorem XL_bd (t : Task) : ∀ v ∈ XL t, -1000000 ≤ v ∧ v ≤ 1000000 := fun v hv => by
  obtain ⟨n, _, h⟩ := gridOf_mem.1 hv
  have := arnd_mem.1 h
  omega
theorem YL_bd (t : Task) : ∀ v ∈ YL t, -1000000 ≤ v ∧ v ≤ 1000000 := fun v hv => by
  obtain ⟨n, _, h⟩ := gridOf_mem.1 hv
  have := arnd_mem.1 h
  omega

theorem quad {x0 x1 y0 y1 l r t b p q : Int} (hp : (p = 1 ∧ x0 < x1) ∨ (p = -1 ∧ x1 < x0)) (hq : (q = 1 ∧ y0 < y1) ∨ (q = -1 ∧ y1 < y0))
    (hl : ((x0 ≤ l ∧ l < x1) ∨ (x1 < l ∧ l ≤ x0)) → l = x0) (hr : ((x0 ≤ r ∧ r < x1) ∨ (x1 < r ∧ r ≤ x0)) → r = x0) (ht : ((y0 ≤ t ∧ t < y1) ∨ (y1 < t ∧ t ≤ y0)) → t = y0) (hb : ((y0 ≤ b ∧ b < y1) ∨ (y1 < b ∧ b ≤ y0)) → b = y0)
    (n1 : ¬ (l < max x0 x1 ∧ min x0 x1 < r ∧ t < y0 ∧ y0 < b)) (n2 : ¬ (l < x0 ∧ x0 < r ∧ t < max y0 y1 ∧ min y0 y1 < b))
    (hz : (l < max x0 x1 ∧ min x0 x1 < r ∧ t < y1 ∧ y1 < b) ∨ (l < x1 ∧ x1 < r ∧ t < max y0 y1 ∧ min y0 y1 < b)) : x0 = (if p = 1 then l else r) ∧ y0 = if q = 1 then t else b := by
  rcases hp with ⟨rfl, hp⟩ | ⟨rfl, hp⟩ <;> rcases hq with ⟨rfl, hq⟩ | ⟨rfl, hq⟩ <;> simp only [if_true, show ¬ ((-1 : Int) = 1) by decide, if_false] <;> omega
theorem near_lines {x : List Int} (hs : x.Pairwise (· < ·)) (hb : ∀ v ∈ x, -1000000 ≤ v ∧ v ≤ 1000000) {a p v : Int} (h0 : 0 ≤ a) (h1 : a < x.length) (h2 : 0 ≤ a + p) (h3 : a + p < x.length) (hp : p = 1 ∨ p = -1) (hv : -1000000 ≤ v → v ≤ 1000000 → v ∈ x) :
    (((gx x a ≤ v ∧ v < gx x (a + p)) ∨ (gx x (a + p) < v ∧ v ≤ gx x a)) → v = gx x a) ∧ ((p = 1 ∧ gx x a < gx x (a + p)) ∨ (p = -1 ∧ gx x (a + p) < gx x a)) := by
  rcases hp with rfl | rfl
  · have hl := gx_lt hs h0 (show a < a + 1 by omega) h3
    refine ⟨fun h => ?_, .inl ⟨rfl, hl⟩⟩
    rcases h with ⟨g1, g2⟩ | ⟨g1, g2⟩
    · exact side_low hs hb h0 h3 hv g1 g2
    · omega
  · have hl := gx_lt hs h2 (show a + -1 < a by omega) h1
    refine ⟨fun h => ?_, .inr ⟨rfl, hl⟩⟩
    have e : a + -1 + 1 = a := by omega
    rcases h with ⟨g1, g2⟩ | ⟨g1, g2⟩
    · omega
    · have := side_high hs hb (a := a + -1) h2 (by omega) hv g1 (by rw [e]; exact g2)
      rwa [e] at this

/-- A zone at a far side of a cell whose near sides are free has its corner here. -/
theorem cell_zone {t : Task} {w : Box} (hw : w ∈ t.Walls) {x y p q : Int} (hp : p = 1 ∨ p = -1) (hq : q = 1 ∨ q = -1) (x0 : 0 ≤ x) (x1 : x < (XL t).length) (x2 : 0 ≤ x + p) (x3 : x + p < (XL t).length) (y0 : 0 ≤ y) (y1 : y < (YL t).length) (y2 : 0 ≤ y + q) (y3 : y + q < (YL t).length)
    (f1 : blkB t ⟨gx (XL t) x, gx (YL t) y⟩ ⟨gx (XL t) (x + p), gx (YL t) y⟩ = false) (f2 : blkB t ⟨gx (XL t) x, gx (YL t) y⟩ ⟨gx (XL t) x, gx (YL t) (y + q)⟩ = false)
    (hz : inZ (zn t w) ⟨gx (XL t) x, gx (YL t) (y + q)⟩ ⟨gx (XL t) (x + p), gx (YL t) (y + q)⟩ ∨ inZ (zn t w) ⟨gx (XL t) (x + p), gx (YL t) y⟩ ⟨gx (XL t) (x + p), gx (YL t) (y + q)⟩) :
    gx (XL t) x = (if p = 1 then (zn t w).left else (zn t w).right) ∧ gx (YL t) y = if q = 1 then (zn t w).top else (zn t w).bottom := by
  have sx := gridOf_strict (xv t); have sy := gridOf_strict (yv t)
  change (XL t).Pairwise (· < ·) at sx
  change (YL t).Pairwise (· < ·) at sy
  have bx := XL_bd t; have by_ := YL_bd t
  obtain ⟨zx, zy⟩ := zone_lines hw
  have n1 : ¬ inZ (zn t w) ⟨gx (XL t) x, gx (YL t) y⟩ ⟨gx (XL t) (x + p), gx (YL t) y⟩ := fun h => by rw [blkB_iff.2 ⟨w, hw, h⟩] at f1; cases f1
  have n2 : ¬ inZ (zn t w) ⟨gx (XL t) x, gx (YL t) y⟩ ⟨gx (XL t) x, gx (YL t) (y + q)⟩ := fun h => by rw [blkB_iff.2 ⟨w, hw, h⟩] at f2; cases f2
  obtain ⟨hl, hpp⟩ := near_lines sx bx x0 x1 x2 x3 hp (zx _ (.inl rfl))
  obtain ⟨hr, _⟩ := near_lines sx bx x0 x1 x2 x3 hp (zx _ (.inr rfl))
  obtain ⟨ht, hqq⟩ := near_lines sy by_ y0 y1 y2 y3 hq (zy _ (.inl rfl))
  obtain ⟨hb, _⟩ := near_lines sy by_ y0 y1 y2 y3 hq (zy _ (.inr rfl))
  unfold inZ at n1 n2 hz
  simp only at n1 n2 hz
  refine quad hpp hqq hl hr ht hb (by omega) (by omega) ?_
  rcases hz with hz | hz
  · left; omega
  · right; omega
end Go.DB
