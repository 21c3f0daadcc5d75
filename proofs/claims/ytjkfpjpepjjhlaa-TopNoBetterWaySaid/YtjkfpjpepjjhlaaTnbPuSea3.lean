/-
  A prepared search looks at the crossings beside a crossing.
-/
import Derived.Test.YtjkfpjpepjjhlaaTnbPuSea2
import Derived.Test.YtjkfpjpepjjhlaaTnbPuFind3
set_option linter.unusedSimpArgs false
set_option linter.unusedVariables false
namespace Go.DB
open Go Go.RowKit

noncomputable def XL (t : Task) : List Int := gridOf (xv t)
noncomputable def YL (t : Task) : List Int := gridOf (yv t)
/-- The point of a crossing. -/
noncomputable def ptS (t : Task) (p : Route_spot) : Point := ⟨gx (XL t) p.x, gx (YL t) p.y⟩
def sd (p : Route_spot) (side : Int) : Route_spot := ⟨p.x + (tow side).X, p.y + (tow side).Y, side⟩
/-- Which crossing lies to a side, and how far away. -/
noncomputable def nxT (t : Task) (p : Route_spot) (side : Int) : Option (Route_spot × Int) :=
  if (0 ≤ (sd p side).x ∧ (sd p side).x < (XL t).length ∧ 0 ≤ (sd p side).y ∧ (sd p side).y < (YL t).length) ∧ blkB t (ptS t p) (ptS t (sd p side)) = false then some (sd p side, farI (ptS t p) (ptS t (sd p side))) else none

theorem XL_len {t : Task} (h : TaskOK t) : (XL t).length ≤ 1000 := by have := gridOf_len (xv t); rw [xv_len] at this; have := h.few; unfold XL; omega
theorem YL_len {t : Task} (h : TaskOK t) : (YL t).length ≤ 1000 := by have := gridOf_len (yv t); rw [yv_len] at this; have := h.few; unfold YL; omega
theorem grid_in {at_ : List Int} {k : Int} (hk : inR (gridOf at_) k) : -1000000 ≤ gx (gridOf at_) k ∧ gx (gridOf at_) k ≤ 1000000 := by
  obtain ⟨n, _, h⟩ := gridOf_mem.1 (gx_mem hk)
  have := arnd_mem.1 h
  omega
theorem gx_lt {x : List Int} (hs : x.Pairwise (· < ·)) {a b : Int} (h0 : 0 ≤ a) (h1 : a < b) (h2 : b < x.length) : gx x a < gx x b := by
  obtain ⟨n, rfl⟩ := Int.eq_ofNat_of_zero_le h0
  obtain ⟨m, rfl⟩ := Int.eq_ofNat_of_zero_le (show 0 ≤ b by omega)
  exact gx_strict hs (by omega) (by omega)
theorem sea_ok {t : Task} (h : TaskOK t) {s : Route_search} (eX : s.xs = XL t) (eY : s.ys = YL t) (p : Route_spot) (side : Int) (q : Route_spot) (l : Int) (hp : InS s p) (h1 : 1 ≤ side) (h4 : side ≤ 4) (hn : nxT t p side = some (q, l)) :
    InS s q ∧ q.side = side ∧ 0 < l ∧ l ≤ 2000000 := by
  obtain ⟨x0, x1, y0, y1, s1, s4⟩ := hp
  rw [eX] at x1
  rw [eY] at y1
  unfold nxT at hn
  split at hn
  · rename_i hc
    obtain ⟨⟨c1, c2, c3, c4⟩, _⟩ := hc
    simp only [Option.some.injEq, Prod.mk.injEq] at hn
    obtain ⟨rfl, rfl⟩ := hn
    have bx := grid_in (at_ := xv t) (k := p.x) ⟨x0, x1⟩
    have by_ := grid_in (at_ := yv t) (k := p.y) ⟨y0, y1⟩
    have bx' := grid_in (at_ := xv t) (k := (sd p side).x) ⟨c1, c2⟩
    have by' := grid_in (at_ := yv t) (k := (sd p side).y) ⟨c3, c4⟩
    refine ⟨⟨c1, by rw [eX]; exact c2, c3, by rw [eY]; exact c4, h1, h4⟩, rfl, ?_⟩
    have hs : side = 1 ∨ side = 2 ∨ side = 3 ∨ side = 4 := by omega
    have sx := gridOf_strict (xv t)
    have sy := gridOf_strict (yv t)
    unfold farI ptS XL YL
    unfold XL at c2 x1
    unfold YL at c4 y1
    rcases hs with rfl | rfl | rfl | rfl
    · have e1 : (sd p 1).x = p.x := by simp [sd, tow]
      have e2 : (sd p 1).y = p.y - 1 := by simp [sd, tow]; omega
      rw [e1] at bx' c1 c2
      rw [e2] at by' c3 c4
      rw [e1, e2]
      have := gx_lt sy (a := p.y - 1) (b := p.y) (by omega) (by omega) y1
      simp only; omega
    · have e1 : (sd p 2).x = p.x + 1 := by simp [sd, tow]
      have e2 : (sd p 2).y = p.y := by simp [sd, tow]
      rw [e1] at bx' c1 c2
      rw [e2] at by' c3 c4
      rw [e1, e2]
      have := gx_lt sx (a := p.x) (b := p.x + 1) (by omega) (by omega) c2
      simp only; omega
    · have e1 : (sd p 3).x = p.x := by simp [sd, tow]
      have e2 : (sd p 3).y = p.y + 1 := by simp [sd, tow]
      rw [e1] at bx' c1 c2
      rw [e2] at by' c3 c4
      rw [e1, e2]
      have := gx_lt sy (a := p.y) (b := p.y + 1) (by omega) (by omega) c4
      simp only; omega
    · have e1 : (sd p 4).x = p.x - 1 := by simp [sd, tow]; omega
      have e2 : (sd p 4).y = p.y := by simp [sd, tow]
      rw [e1] at bx' c1 c2
      rw [e2] at by' c3 c4
      rw [e1, e2]
      have := gx_lt sx (a := p.x - 1) (b := p.x) (by omega) (by omega) x1
      simp only; omega
  · cases hn

theorem acr_in {t : Task} {x y : Nat} (hx : x + 1 < (XL t).length) (z : Route_zone) (a b : Point) (hab : (a = ⟨gx (XL t) (x : Int), gx (YL t) (y : Int)⟩ ∧ b = ⟨gx (XL t) ((x + 1 : Nat) : Int), gx (YL t) (y : Int)⟩) ∨ (b = ⟨gx (XL t) (x : Int), gx (YL t) (y : Int)⟩ ∧ a = ⟨gx (XL t) ((x + 1 : Nat) : Int), gx (YL t) (y : Int)⟩)) :
    inZ z a b ↔ acr (XL t) (YL t) z x y := by
  have := gx_strict (gridOf_strict (xv t)) (show x < x + 1 by omega) hx
  unfold XL YL at *
  unfold inZ acr
  rcases hab with ⟨rfl, rfl⟩ | ⟨rfl, rfl⟩ <;> simp only <;> omega
theorem dwn_in {t : Task} {x y : Nat} (hy : y + 1 < (YL t).length) (z : Route_zone) (a b : Point) (hab : (a = ⟨gx (XL t) (x : Int), gx (YL t) (y : Int)⟩ ∧ b = ⟨gx (XL t) (x : Int), gx (YL t) ((y + 1 : Nat) : Int)⟩) ∨ (b = ⟨gx (XL t) (x : Int), gx (YL t) (y : Int)⟩ ∧ a = ⟨gx (XL t) (x : Int), gx (YL t) ((y + 1 : Nat) : Int)⟩)) :
    inZ z a b ↔ dwn (XL t) (YL t) z x y := by
  have := gx_strict (gridOf_strict (yv t)) (show y < y + 1 by omega) hy
  unfold XL YL at *
  unfold inZ dwn
  rcases hab with ⟨rfl, rfl⟩ | ⟨rfl, rfl⟩ <;> simp only <;> omega
theorem acrs_blk {t : Task} {x y : Nat} (hx : x + 1 < (XL t).length) {a b : Point} (hab : (a = ⟨gx (XL t) (x : Int), gx (YL t) (y : Int)⟩ ∧ b = ⟨gx (XL t) ((x + 1 : Nat) : Int), gx (YL t) (y : Int)⟩) ∨ (b = ⟨gx (XL t) (x : Int), gx (YL t) (y : Int)⟩ ∧ a = ⟨gx (XL t) ((x + 1 : Nat) : Int), gx (YL t) (y : Int)⟩)) :
    acrs (XL t) (YL t) (t.Walls.map (zn t)) x y = !blkB t a b := by
  unfold acrs blkB
  rw [decide_eq_true hx, Bool.true_and]
  have e : (fun z => decide (acr (XL t) (YL t) z x y)) = (fun z => decide (inZ z a b)) := funext fun z => by rw [decide_eq_decide]; exact (acr_in hx z a b hab).symm
  rw [e]
theorem dwns_blk {t : Task} {x y : Nat} (hy : y + 1 < (YL t).length) {a b : Point} (hab : (a = ⟨gx (XL t) (x : Int), gx (YL t) (y : Int)⟩ ∧ b = ⟨gx (XL t) (x : Int), gx (YL t) ((y + 1 : Nat) : Int)⟩) ∨ (b = ⟨gx (XL t) (x : Int), gx (YL t) (y : Int)⟩ ∧ a = ⟨gx (XL t) (x : Int), gx (YL t) ((y + 1 : Nat) : Int)⟩)) :
    dwns (XL t) (YL t) (t.Walls.map (zn t)) x y = !blkB t a b := by
  unfold dwns blkB
  rw [decide_eq_true hy, Bool.true_and]
  have e : (fun z => decide (dwn (XL t) (YL t) z x y)) = (fun z => decide (inZ z a b)) := funext fun z => by rw [decide_eq_decide]; exact (dwn_in hy z a b hab).symm
  rw [e]

theorem next_eq {t : Task} (h : TaskOK t) {A D : List Bool} (hD : Is2 (XL t).length (YL t).length D (dwns (XL t) (YL t) (t.Walls.map (zn t)))) (hA : Is2 (XL t).length (YL t).length A (acrs (XL t) (YL t) (t.Walls.map (zn t)))) (p : Route_spot) (side : Int)
    (hp : InS ⟨XL t, YL t, A, D⟩ p) (h1 : 1 ≤ side) (h4 : side ≤ 4) :
    ∃ r, route_search_next ⟨XL t, YL t, A, D⟩ p side = some r ∧ ((r.2.2 = true ∧ nxT t p side = some (r.1, r.2.1)) ∨ (r.2.2 = false ∧ nxT t p side = none)) := by
  obtain ⟨x0, x1, y0, y1, s1, s4⟩ := hp
  have hX := XL_len h
  have hY := YL_len h
  simp only at x1 y1
  have tb : -10 ≤ (tow side).X ∧ (tow side).X ≤ 10 ∧ -10 ≤ (tow side).Y ∧ (tow side).Y ≤ 10 := by rcases tow_cases side with h | h | h | h <;> rw [h] <;> decide
  have hsd : (⟨W (p.x + (tow side).X), W (p.y + (tow side).Y), side⟩ : Route_spot) = sd p side := by
    rw [Wk (by omega) (by omega), Wk (by omega) (by omega)]; rfl
  unfold route_search_next
  rw [bnd_eq, toward_eq h1 h4, bind_sm, bnd_eq, hsd]
  simp only
  by_cases c : 0 ≤ (sd p side).x ∧ (sd p side).x < (XL t).length ∧ 0 ≤ (sd p side).y ∧ (sd p side).y < (YL t).length
  · have hc : ((((decide ((sd p side).x < 0)) || (decide (((XL t).length : Int) ≤ (sd p side).x))) || (decide ((sd p side).y < 0))) || (decide (((YL t).length : Int) ≤ (sd p side).y))) = false := by
      simp only [Bool.or_eq_false_iff, decide_eq_false_iff_not]; omega
    rw [hc, cond_false, bnd_eq]
    obtain ⟨c1, c2, c3, c4⟩ := c
    obtain ⟨a, ha⟩ := Int.eq_ofNat_of_zero_le x0
    obtain ⟨b, hb⟩ := Int.eq_ofNat_of_zero_le y0
    obtain ⟨a', ha'⟩ := Int.eq_ofNat_of_zero_le c1
    obtain ⟨b', hb'⟩ := Int.eq_ofNat_of_zero_le c3
    have bx := grid_in (at_ := xv t) (k := p.x) ⟨x0, x1⟩
    have by_ := grid_in (at_ := yv t) (k := p.y) ⟨y0, y1⟩
    have bx' := grid_in (at_ := xv t) (k := (sd p side).x) ⟨c1, c2⟩
    have by' := grid_in (at_ := yv t) (k := (sd p side).y) ⟨c3, c4⟩
    change -1000000 ≤ gx (XL t) p.x ∧ gx (XL t) p.x ≤ 1000000 at bx
    change -1000000 ≤ gx (YL t) p.y ∧ gx (YL t) p.y ≤ 1000000 at by_
    change -1000000 ≤ gx (XL t) (sd p side).x ∧ gx (XL t) (sd p side).x ≤ 1000000 at bx'
    change -1000000 ≤ gx (YL t) (sd p side).y ∧ gx (YL t) (sd p side).y ≤ 1000000 at by'
    have hat : W ((W ((min p.y (sd p side).y) * ((XL t).length : Int))) + (min p.x (sd p side).x)) = ((min b b' * (XL t).length + min a a' : Nat) : Int) := by
      rw [ha, hb, ha', hb', show min (b : Int) (b' : Int) = ((min b b' : Nat) : Int) by omega, show min (a : Int) (a' : Int) = ((min a a' : Nat) : Int) by omega]
      exact ix_W hX hY (by omega) (by omega)
    have hlt := ix_lt (w := (XL t).length) (h := (YL t).length) (x := min a a') (y := min b b') (by omega) (by omega)
    rw [hat]
    by_cases cx : (tow side).X = 0
    · rw [decide_eq_true cx]
      have ex : (sd p side).x = p.x := by simp [sd, cx]
      simp only [Bool.not_true, cond_false]
      rw [need_of ⟨c3, c4⟩, need_of ⟨y0, y1⟩, need_of ⟨y0, y1⟩, need_of ⟨c3, c4⟩, need_of ⟨by omega, by rw [hD.len]; omega⟩, Wk (by omega) (by omega), Wk (by omega) (by omega)]
      have ey : (b' : Int) = b + 1 ∨ (b' : Int) = b - 1 := by
        have : (sd p side).y = p.y + (tow side).Y := rfl
        rcases tow_cases side with e | e | e | e <;> rw [e] at cx this <;> simp only at cx this <;> omega
      have haa : a' = a := by omega
      have hblk : gx D ((min b b' * (XL t).length + min a a' : Nat) : Int) = !blkB t (ptS t p) (ptS t (sd p side)) := by
        rw [hD.val _ _ (by omega) (by omega)]
        refine dwns_blk (by omega) ?_
        unfold ptS
        rw [ha, hb, ha', hb', haa, Nat.min_self]
        rcases ey with ey | ey
        · left; refine ⟨by rw [Nat.min_eq_left (by omega)], by rw [Nat.min_eq_left (by omega), show b' = b + 1 by omega]⟩
        · right; refine ⟨by rw [Nat.min_eq_right (by omega)], by rw [Nat.min_eq_right (by omega), show b' + 1 = b by omega]⟩
      have hlen : max (gx (YL t) (sd p side).y - gx (YL t) p.y) (gx (YL t) p.y - gx (YL t) (sd p side).y) = farI (ptS t p) (ptS t (sd p side)) := by
        unfold farI ptS
        rw [ex]; simp only; omega
      rw [hblk, hlen]
      unfold nxT
      refine ⟨_, rfl, ?_⟩
      cases hz : blkB t (ptS t p) (ptS t (sd p side)) with
      | false => left; exact ⟨rfl, by rw [if_pos ⟨⟨c1, c2, c3, c4⟩, rfl⟩]⟩
      | true => right; exact ⟨rfl, by rw [if_neg (fun hh => by cases hh.2)]⟩
    · rw [decide_eq_false cx]
      have cy : (tow side).Y = 0 := by
        rcases tow_cases side with e | e | e | e <;> rw [e] at cx ⊢ <;> simp at cx ⊢
      have ey : (sd p side).y = p.y := by simp [sd, cy]
      simp only [Bool.not_false, cond_true]
      rw [need_of ⟨c1, c2⟩, need_of ⟨x0, x1⟩, need_of ⟨x0, x1⟩, need_of ⟨c1, c2⟩, need_of ⟨by omega, by rw [hA.len]; omega⟩, Wk (by omega) (by omega), Wk (by omega) (by omega)]
      have ex : (a' : Int) = a + 1 ∨ (a' : Int) = a - 1 := by
        have : (sd p side).x = p.x + (tow side).X := rfl
        rcases tow_cases side with e | e | e | e <;> rw [e] at cx this <;> first | exact absurd rfl cx | (simp only at this; omega)
      have hbb : b' = b := by omega
      have hblk : gx A ((min b b' * (XL t).length + min a a' : Nat) : Int) = !blkB t (ptS t p) (ptS t (sd p side)) := by
        rw [hA.val _ _ (by omega) (by omega)]
        refine acrs_blk (by omega) ?_
        unfold ptS
        rw [ha, hb, ha', hb', hbb, Nat.min_self]
        rcases ex with ex | ex
        · left; refine ⟨by rw [Nat.min_eq_left (by omega)], by rw [Nat.min_eq_left (by omega), show a' = a + 1 by omega]⟩
        · right; refine ⟨by rw [Nat.min_eq_right (by omega)], by rw [Nat.min_eq_right (by omega), show a' + 1 = a by omega]⟩
      have hlen : max (gx (XL t) (sd p side).x - gx (XL t) p.x) (gx (XL t) p.x - gx (XL t) (sd p side).x) = farI (ptS t p) (ptS t (sd p side)) := by
        unfold farI ptS
        rw [ey]; simp only; omega
      rw [hblk, hlen]
      unfold nxT
      refine ⟨_, rfl, ?_⟩
      cases hz : blkB t (ptS t p) (ptS t (sd p side)) with
      | false => left; exact ⟨rfl, by rw [if_pos ⟨⟨c1, c2, c3, c4⟩, rfl⟩]⟩
      | true => right; exact ⟨rfl, by rw [if_neg (fun hh => by cases hh.2)]⟩
  · have hc : ((((decide ((sd p side).x < 0)) || (decide (((XL t).length : Int) ≤ (sd p side).x))) || (decide ((sd p side).y < 0))) || (decide (((YL t).length : Int) ≤ (sd p side).y))) = true := by
      simp only [Bool.or_eq_true, decide_eq_true_eq]; omega
    rw [hc, cond_true]
    refine ⟨_, rfl, .inr ⟨rfl, ?_⟩⟩
    unfold nxT
    rw [if_neg (fun hh => c hh.1)]

/-- A prepared search. -/
theorem sea_of {t : Task} (h : TaskOK t) : ∃ s, route_newSearch t = some (some s) ∧ s.xs = XL t ∧ s.ys = YL t ∧ Sea s (nxT t) := by
  obtain ⟨D, A, e, hD, hA⟩ := newSearch_eq h
  exact ⟨_, e, rfl, rfl, ⟨XL_len h, YL_len h, fun p side hp h1 h4 => next_eq h hD hA p side hp h1 h4, fun p side q l hp h1 h4 hn => sea_ok h rfl rfl p side q l hp h1 h4 hn⟩⟩
end Go.DB
