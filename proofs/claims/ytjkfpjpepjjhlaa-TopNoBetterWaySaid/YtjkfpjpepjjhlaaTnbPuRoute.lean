/-
  What Route gives.
-/
import Derived.Test.YtjkfpjpepjjhlaaTnbPuCor2
set_option linter.unusedSimpArgs false
set_option linter.unusedVariables false
namespace Go.DB
open Go Go.RowKit

theorem in_grid {at_ : List Int} {v : Int} (h : v ∈ at_) (h1 : -1000000 ≤ v) (h2 : v ≤ 1000000) : v ∈ gridOf at_ := gridOf_mem.2 ⟨v, h, arnd_mem.2 ⟨h1, h2, by omega, by omega⟩⟩
/-- The spot of an end. -/
theorem spotAt_eq {t : Task} (h : TaskOK t) {s : Route_search} (eX : s.xs = XL t) (eY : s.ys = YL t) {p : Point} (hx : p.X ∈ XL t) (hy : p.Y ∈ YL t) (side : Int) : ∃ q, route_search_spotAt s p side = some q ∧ OnN t q ∧ ptS t q = p ∧ q.side = side := by
  obtain ⟨a, ab, e1, _, _, _, _, g1⟩ := bs_pos (XL t) p.X (by have := XL_len h; omega) (gridOf_strict _)
  obtain ⟨b, bb, e2, _, _, _, _, g2⟩ := bs_pos (YL t) p.Y (by have := YL_len h; omega) (gridOf_strict _)
  obtain ⟨a1, a2⟩ := g1 hx
  obtain ⟨b1, b2⟩ := g2 hy
  unfold route_search_spotAt
  simp only [bnd_eq]
  rw [eX, eY, e1, e2]
  exact ⟨⟨(a : Int), (b : Int), side⟩, rfl, ⟨by simp, by simp only; omega, by simp, by simp only; omega⟩, by unfold ptS; simp only; rw [a2, b2], rfl⟩

/-- What is told of a way that Route has found. -/
structure Found_ (t : Task) (fr to : Route_spot) (way : List Route_spot) (b n : Int) : Prop where
  tr : Tr (nxT t) fr to way to b n
  least : ∀ l' b' n', Tr (nxT t) fr to l' to b' n' → b < b' ∨ (b = b' ∧ n ≤ n')
  cs : ∃ o m k, Cs t (cor t way) o to.side m ∧ ((cor t way).length : Int) = b ∧ (endP t).X = o.X + k * (tow to.side).X ∧ (endP t).Y = o.Y + k * (tow to.side).Y ∧ 0 ≤ k ∧ blkB t o (endP t) = false ∧ n = m + k

theorem Route_eq {t : Task} (h : TaskOK t) (hc : taskErr t = 0) (hwl : (t.Walls.length : Int) ≤ 9223372036854775807) : ∃ fr to, EndsN t fr to ∧ ∃ r, route_Route t = some r ∧
    ((r = ([], 10) ∧ (blkB t (startP t) (startP t) = true ∨ blkB t (endP t) (endP t) = true ∨ ∀ l b n, ¬ Tr (nxT t) fr to l to b n)) ∨
     (blkB t (startP t) (startP t) = false ∧ blkB t (endP t) (endP t) = false ∧ ∃ way b n, Found_ t fr to way b n ∧ r = (t.From :: cor t way ++ [t.To], 0))) := by
  have hs1 := sideErr_zero.1 h.fs
  have hs2 := sideErr_zero.1 h.ts
  have hb := back_in hs2.1 hs2.2
  have hst := h.start; have hen := h.end_
  unfold okP at hst hen
  obtain ⟨s, hs, eX, eY, hS⟩ := sea_of h
  have m1 : (startP t).X ∈ XL t := in_grid (by unfold xv; simp) (by omega) (by omega)
  have m2 : (startP t).Y ∈ YL t := in_grid (by unfold yv; simp) (by omega) (by omega)
  have m3 : (endP t).X ∈ XL t := in_grid (by unfold xv; simp) (by omega) (by omega)
  have m4 : (endP t).Y ∈ YL t := in_grid (by unfold yv; simp) (by omega) (by omega)
  obtain ⟨fr, f1, f2, f3, f4⟩ := spotAt_eq h eX eY m1 m2 t.FromSide
  obtain ⟨to, g1, g2, g3, g4⟩ := spotAt_eq h eX eY m3 m4 (backS t.ToSide)
  have hE : EndsN t fr to := ⟨f4, g4, f2, g2, f3, g3⟩
  have inF : InS s fr := ⟨f2.1, by rw [eX]; exact f2.2.1, f2.2.2.1, by rw [eY]; exact f2.2.2.2, by rw [f4]; exact hs1.1, by rw [f4]; exact hs1.2⟩
  have inT : InS s to := ⟨g2.1, by rw [eX]; exact g2.2.1, g2.2.2.1, by rw [eY]; exact g2.2.2.2, by rw [g4]; exact hb.1, by rw [g4]; exact hb.2⟩
  refine ⟨fr, to, hE, ?_⟩
  have c1 := h.c1; have c2 := h.c2
  unfold route_Route
  rw [route_Check_eq hwl, bind_sm, hc]
  simp only [decide_true, Bool.not_true, cond_false]
  rw [ends_eq h.from_ h.to h.fs h.ts (by omega) (by omega), bind_sm, zones_eq h, bind_sm, free_val h, bind_sm, free_val h]
  cases b1 : blkB t (startP t) (startP t) with
  | true => exact ⟨_, by simp, .inl ⟨rfl, .inl rfl⟩⟩
  | false =>
  cases b2 : blkB t (endP t) (endP t) with
  | true => exact ⟨_, by simp, .inl ⟨rfl, .inr (.inl rfl)⟩⟩
  | false =>
  simp only [Bool.not_false, Bool.not_true, gd_true, bind_sm, Bool.or_self, cond_false]
  rw [hs, bind_sm, bind_sm, f1, bind_sm, back_eq hs2.1 hs2.2, bind_sm, g1, bind_sm]
  obtain ⟨e, he, hg⟩ := find_eq hS inF inT
  rw [he, bind_sm]
  rcases hg with ⟨rfl, hn⟩ | ⟨way, b, n, rfl, htr, hwlen, hmin⟩
  · exact ⟨_, rfl, .inl ⟨rfl, .inr (.inr hn)⟩⟩
  · simp only [Bool.not_true, cond_false, bnd_eq]
    obtain ⟨l0, hl0⟩ := htr.last
    have hall := (htr.all hS inF inT).2
    rw [bends_eq eX eY hall (by rw [hl0]; simp) (by omega) true, bind_sm]
    have hcl : (cor t way).length ≤ way.length := by
      have : ∀ l : List Route_spot, (cor t l).length ≤ l.length := by
        intro l
        induction l with
        | nil => simp [cor]
        | cons a r ih =>
          cases r with
          | nil => simp [cor]
          | cons b r =>
            simp only [cor, List.length_append, List.length_cons] at ih ⊢
            split <;> simp <;> omega
      exact this way
    rw [need_of (by rw [room_iff]; simp; omega)]
    obtain ⟨o, m, k, i1, i2, i3, i4, i5, _, i7, i8⟩ := tr_cs h hS eX eY hE inF inT b1 htr
    rw [g3] at i3 i4 i7
    exact ⟨_, rfl, .inr ⟨trivial, trivial, way, b, n, ⟨htr, hmin, o, m, k, i1, i2, i3, i4, i5, i7, i8⟩, by simp⟩⟩

/-- The path that Route has found is right. -/
theorem Found_.right {t : Task} (h : TaskOK t) {fr to : Route_spot} (hE : EndsN t fr to) {way : List Route_spot} {b n : Int} (hF : Found_ t fr to way b n) (hb : b ≤ 998) : WayC t (t.From :: cor t way ++ [t.To]) ∧ ((t.From :: cor t way ++ [t.To]).length : Int) = b + 2 ∧
    lenUpto (t.From :: cor t way ++ [t.To]) (t.From :: cor t way ++ [t.To]).length = n + 2 * t.Clear := by
  obtain ⟨o, m, k, i1, i2, i3, i4, i5, i7, i8⟩ := hF.cs
  rw [hE.ts] at i1 i3 i4
  obtain ⟨σ, L⟩ := legs_of h i1
  obtain ⟨w1, w2⟩ := way_of h L i3 i4 i5 i7 (by simp; omega)
  refine ⟨w1, by simp; omega, ?_⟩
  rw [w2]; omega
end Go.DB
