/-
  What can be reached on the lines of a task.
-/
import Derived.Test.YtjkfpjpepjjhlaaTnbPuSea3
set_option linter.unusedSimpArgs false
set_option linter.unusedVariables false
namespace Go.DB
open Go Go.RowKit

/-- Reached with so many bends and so much length, or the end is reached for no more. -/
def Rch (nx : Route_spot → Int → Option (Route_spot × Int)) (fr to q : Route_spot) (b n : Int) : Prop :=
  (∃ l, Tr nx fr to l q b n) ∨ ∃ l b' n', Tr nx fr to l to b' n' ∧ (b' < b ∨ (b' = b ∧ n' ≤ n))
theorem Rch.step {nx : Route_spot → Int → Option (Route_spot × Int)} {fr to p q : Route_spot} {b n b' n' : Int} (h : Rch nx fr to p b n) (hE : Edge nx to p q b' n') (hb : 0 ≤ b') (hn : 0 ≤ n') : Rch nx fr to q (b + b') (n + n') := by
  rcases h with ⟨l, h⟩ | ⟨l, b1, n1, h, hle⟩
  · by_cases c : p = to
    · subst c
      exact .inr ⟨l, b, n, h, by omega⟩
    · exact .inl ⟨_, .snoc h c hE⟩
  · exact .inr ⟨l, b1, n1, h, by omega⟩
theorem Rch.to {nx : Route_spot → Int → Option (Route_spot × Int)} {fr to : Route_spot} {b n : Int} (h : Rch nx fr to to b n) : ∃ l b' n', Tr nx fr to l to b' n' ∧ (b' < b ∨ (b' = b ∧ n' ≤ n)) := by
  rcases h with ⟨l, h⟩ | h
  · exact ⟨l, b, n, h, by omega⟩
  · exact h

/-! On a straight line. -/
def Btw (a b c : Point) : Prop := ((a.X ≤ b.X ∧ b.X ≤ c.X) ∨ (c.X ≤ b.X ∧ b.X ≤ a.X)) ∧ ((a.Y ≤ b.Y ∧ b.Y ≤ c.Y) ∨ (c.Y ≤ b.Y ∧ b.Y ≤ a.Y))
theorem Btw.left {a b c : Point} (h : Btw a b c) {z : Route_zone} (hz : inZ z a b) : inZ z a c := by unfold Btw at h; unfold inZ at hz ⊢; omega
theorem Btw.right {a b c : Point} (h : Btw a b c) {z : Route_zone} (hz : inZ z b c) : inZ z a c := by unfold Btw at h; unfold inZ at hz ⊢; omega
theorem Btw.far {a b c : Point} (h : Btw a b c) : farI a c = farI a b + farI b c := by unfold Btw at h; unfold farI; omega
theorem Btw.free {t : Task} {a b c : Point} (h : Btw a b c) (hb : blkB t a c = false) : blkB t a b = false ∧ blkB t b c = false := by
  refine ⟨?_, ?_⟩
  · rw [Bool.eq_false_iff]
    intro hx
    obtain ⟨w, h1, h2⟩ := blkB_iff.1 hx
    rw [blkB_iff.2 ⟨w, h1, h.left h2⟩] at hb; cases hb
  · rw [Bool.eq_false_iff]
    intro hx
    obtain ⟨w, h1, h2⟩ := blkB_iff.1 hx
    rw [blkB_iff.2 ⟨w, h1, h.right h2⟩] at hb; cases hb

/-- So many crossings on, in a direction. -/
def tgt (p : Route_spot) (s : Int) (k : Int) : Route_spot := ⟨p.x + k * (tow s).X, p.y + k * (tow s).Y, s⟩
theorem tgt_one (p : Route_spot) (s : Int) : tgt p s 1 = sd p s := by simp [tgt, sd]
theorem tgt_next (p : Route_spot) (s k : Int) : sd (tgt p s k) s = tgt p s (k + 1) := by
  unfold sd tgt
  rcases tow_cases s with h | h | h | h <;> rw [h] <;> simp only [Route_spot.mk.injEq, and_true] <;> exact ⟨by omega, by omega⟩
/-- On the net. -/
def OnN (t : Task) (p : Route_spot) : Prop := 0 ≤ p.x ∧ p.x < (XL t).length ∧ 0 ≤ p.y ∧ p.y < (YL t).length
theorem gx_le {x : List Int} (hs : x.Pairwise (· < ·)) {a b : Int} (h0 : 0 ≤ a) (h1 : a ≤ b) (h2 : b < x.length) : gx x a ≤ gx x b := by
  by_cases e : a = b
  · rw [e]; exact Int.le_refl _
  · exact Int.le_of_lt (gx_lt hs h0 (by omega) h2)
theorem tgt_on {t : Task} {p : Route_spot} {s : Int} {k j : Int} (hp : OnN t p) (hk : OnN t (tgt p s k)) (h0 : 0 ≤ j) (h1 : j ≤ k) : OnN t (tgt p s j) := by
  unfold OnN tgt at *
  simp only at *
  rcases tow_cases s with h | h | h | h <;> rw [h] at hk ⊢ <;> simp only at hk ⊢ <;> omega
theorem tgt_btw {t : Task} {p : Route_spot} {s : Int} {j k : Int} (hp : OnN t p) (hk : OnN t (tgt p s k)) (h0 : 0 ≤ j) (h1 : j ≤ k) : Btw (ptS t p) (ptS t (tgt p s j)) (ptS t (tgt p s k)) := by
  have hj := tgt_on hp hk h0 h1
  have sx := gridOf_strict (xv t); have sy := gridOf_strict (yv t)
  change (XL t).Pairwise (· < ·) at sx
  change (YL t).Pairwise (· < ·) at sy
  unfold OnN tgt at *
  unfold Btw ptS
  simp only at *
  rcases tow_cases s with h | h | h | h <;> rw [h] at hk hj ⊢ <;> simp only at hk hj ⊢
  · refine ⟨.inl ⟨by simp, by simp⟩, .inr ⟨gx_le sy (by omega) (by omega) (by omega), gx_le sy (by omega) (by omega) (by omega)⟩⟩
  · refine ⟨.inl ⟨gx_le sx (by omega) (by omega) (by omega), gx_le sx (by omega) (by omega) (by omega)⟩, .inl ⟨by simp, by simp⟩⟩
  · refine ⟨.inl ⟨by simp, by simp⟩, .inl ⟨gx_le sy (by omega) (by omega) (by omega), gx_le sy (by omega) (by omega) (by omega)⟩⟩
  · refine ⟨.inr ⟨gx_le sx (by omega) (by omega) (by omega), gx_le sx (by omega) (by omega) (by omega)⟩, .inl ⟨by simp, by simp⟩⟩
theorem back_ne {s : Int} (h1 : 1 ≤ s) (h4 : s ≤ 4) : s ≠ backS s := by unfold backS; omega
theorem farI_nn (a b : Point) : 0 ≤ farI a b := by unfold farI; omega

/-- Some crossings on, after a bend or straight on. -/
theorem Rch.go {t : Task} {fr to p : Route_spot} {b n s : Int} (h1 : 1 ≤ s) (h4 : s ≤ 4) (hs : s ≠ backS p.side) (hp : OnN t p) (h : Rch (nxT t) fr to p b n) : ∀ k : Nat, OnN t (tgt p s ((k + 1 : Nat) : Int)) → blkB t (ptS t p) (ptS t (tgt p s ((k + 1 : Nat) : Int))) = false →
    Rch (nxT t) fr to (tgt p s ((k + 1 : Nat) : Int)) (b + if s = p.side then 0 else 1) (n + farI (ptS t p) (ptS t (tgt p s ((k + 1 : Nat) : Int))))
  | 0, hk, hb => by
    rw [show ((0 + 1 : Nat) : Int) = 1 from rfl, tgt_one] at *
    refine h.step (.inl ⟨s, h1, h4, hs, ?_, rfl⟩) (by split <;> omega) (farI_nn _ _)
    unfold nxT
    rw [if_pos ⟨hk, hb⟩]
  | k + 1, hk, hb => by
    have hj := tgt_on (j := ((k + 1 : Nat) : Int)) hp hk (by omega) (by omega)
    have hw := tgt_btw (j := ((k + 1 : Nat) : Int)) hp hk (by omega) (by omega)
    obtain ⟨f1, f2⟩ := hw.free hb
    have ih := Rch.go h1 h4 hs hp h k hj f1
    have e : tgt p s (((k + 1 + 1 : Nat)) : Int) = sd (tgt p s ((k + 1 : Nat) : Int)) s := by rw [tgt_next]; congr 1
    rw [hw.far]
    have := ih.step (q := tgt p s (((k + 1 + 1 : Nat)) : Int)) (b' := 0) (n' := farI (ptS t (tgt p s ((k + 1 : Nat) : Int))) (ptS t (tgt p s (((k + 1 + 1 : Nat)) : Int)))) (.inl ⟨s, h1, h4, back_ne h1 h4, by
      unfold nxT
      rw [← e, if_pos ⟨hk, f2⟩], by rw [if_pos]; rfl⟩) (Int.le_refl _) (farI_nn _ _)
    rw [Int.add_zero] at this
    rw [← Int.add_assoc]
    exact this

/-- Which crossing lies so far away. -/
theorem idx_of {t : Task} {p q : Route_spot} {s e : Int} (hp : OnN t p) (hq : OnN t q) (he : 0 ≤ e) (hx : (ptS t q).X = (ptS t p).X + e * (tow s).X) (hy : (ptS t q).Y = (ptS t p).Y + e * (tow s).Y) (hqs : q.side = s) :
    ∃ k : Nat, q = tgt p s (k : Int) ∧ (k = 0 ↔ e = 0) := by
  have sx := gridOf_strict (xv t); have sy := gridOf_strict (yv t)
  change (XL t).Pairwise (· < ·) at sx
  change (YL t).Pairwise (· < ·) at sy
  obtain ⟨p1, p2, p3, p4⟩ := hp
  obtain ⟨q1, q2, q3, q4⟩ := hq
  have lx : ∀ a b : Int, 0 ≤ a → a < (XL t).length → 0 ≤ b → b < (XL t).length → gx (XL t) a ≤ gx (XL t) b → a ≤ b := fun a b a0 a1 b0 b1 h => Classical.byContradiction fun hn => by
    have := gx_lt sx b0 (by omega) a1; omega
  have ly : ∀ a b : Int, 0 ≤ a → a < (YL t).length → 0 ≤ b → b < (YL t).length → gx (YL t) a ≤ gx (YL t) b → a ≤ b := fun a b a0 a1 b0 b1 h => Classical.byContradiction fun hn => by
    have := gx_lt sy b0 (by omega) a1; omega
  have gl : ∀ a b : Int, a = b → gx (XL t) a = gx (XL t) b := fun a b h => by rw [h]
  have gl' : ∀ a b : Int, a = b → gx (YL t) a = gx (YL t) b := fun a b h => by rw [h]
  unfold ptS at hx hy
  simp only at hx hy
  have l1 := lx p.x q.x p1 p2 q1 q2
  have l2 := lx q.x p.x q1 q2 p1 p2
  have m1 := ly p.y q.y p3 p4 q3 q4
  have m2 := ly q.y p.y q3 q4 p3 p4
  have g1 := gl p.x q.x
  have g2 := gl' p.y q.y
  obtain ⟨qx, qy, qs⟩ := q
  simp only at *
  subst hqs
  rcases tow_cases qs with h | h | h | h <;> rw [h] at hx hy <;> simp only at hx hy
  · have a1 := l1 (by omega); have a2 := l2 (by omega); have a3 := m2 (by omega)
    refine ⟨(p.y - qy).toNat, by unfold tgt; rw [h]; simp only [Route_spot.mk.injEq, and_true]; exact ⟨by omega, by omega⟩, fun hk => ?_, fun he0 => ?_⟩
    · have := g2 (by omega); omega
    · have := m1 (by omega); omega
  · have a1 := m1 (by omega); have a2 := m2 (by omega); have a3 := l1 (by omega)
    refine ⟨(qx - p.x).toNat, by unfold tgt; rw [h]; simp only [Route_spot.mk.injEq, and_true]; exact ⟨by omega, by omega⟩, fun hk => ?_, fun he0 => ?_⟩
    · have := g1 (by omega); omega
    · have := l2 (by omega); omega
  · have a1 := l1 (by omega); have a2 := l2 (by omega); have a3 := m1 (by omega)
    refine ⟨(qy - p.y).toNat, by unfold tgt; rw [h]; simp only [Route_spot.mk.injEq, and_true]; exact ⟨by omega, by omega⟩, fun hk => ?_, fun he0 => ?_⟩
    · have := g2 (by omega); omega
    · have := m2 (by omega); omega
  · have a1 := m1 (by omega); have a2 := m2 (by omega); have a3 := l2 (by omega)
    refine ⟨(p.x - qx).toNat, by unfold tgt; rw [h]; simp only [Route_spot.mk.injEq, and_true]; exact ⟨by omega, by omega⟩, fun hk => ?_, fun he0 => ?_⟩
    · have := g1 (by omega); omega
    · have := l1 (by omega); omega

/-- To another crossing on a line through this one. -/
theorem Rch.line {t : Task} {fr to p q : Route_spot} {b n s e : Int} (h1 : 1 ≤ s) (h4 : s ≤ 4) (hs : s ≠ backS p.side) (hp : OnN t p) (hq : OnN t q) (he : 0 < e) (hx : (ptS t q).X = (ptS t p).X + e * (tow s).X) (hy : (ptS t q).Y = (ptS t p).Y + e * (tow s).Y) (hqs : q.side = s)
    (hb : blkB t (ptS t p) (ptS t q) = false) (h : Rch (nxT t) fr to p b n) : Rch (nxT t) fr to q (b + if s = p.side then 0 else 1) (n + e) := by
  obtain ⟨k, hk, hk0⟩ := idx_of hp hq (by omega) hx hy hqs
  obtain ⟨m, rfl⟩ : ∃ m, k = m + 1 := ⟨k - 1, by omega⟩
  have hf : farI (ptS t p) (ptS t q) = e := by
    unfold farI
    rcases tow_cases s with c | c | c | c <;> rw [c] at hx hy <;> simp only at hx hy <;> omega
  rw [hk] at hb hq
  have := Rch.go h1 h4 hs hp h m hq hb
  rw [← hk, hf] at this
  exact this
end Go.DB
