/-
  How a search is prepared: which stretches are free.
-/
import Derived.Test.YtjkfpjpepjjhlaaTnbPuSea1
import Derived.Test.YtjkfpjpepjjhlaaTnbPuHeap
set_option linter.unusedSimpArgs false
set_option linter.unusedVariables false
namespace Go.DB
open Go Go.RowKit

theorem ix_lt {w h x y : Nat} (hx : x < w) (hy : y < h) : y * w + x < w * h := by
  have := Nat.mul_le_mul_right w (show y + 1 ≤ h by omega)
  rw [Nat.add_mul, Nat.mul_comm h w] at this; omega
theorem ix_inj {w x y x' y' : Nat} (hx : x < w) (hx' : x' < w) (h : y * w + x = y' * w + x') : x = x' ∧ y = y' := by
  have h1 : (y * w + x) / w = y := by rw [Nat.add_comm, Nat.add_mul_div_right _ _ (by omega), Nat.div_eq_of_lt hx]; omega
  have h2 : (y' * w + x') / w = y' := by rw [Nat.add_comm, Nat.add_mul_div_right _ _ (by omega), Nat.div_eq_of_lt hx']; omega
  rw [h] at h1
  have : y = y' := by omega
  subst this
  exact ⟨by omega, rfl⟩
/-- A table of so many columns and rows. -/
structure Is2 (w h : Nat) (A : List Bool) (f : Nat → Nat → Bool) : Prop where
  len : A.length = w * h
  val : ∀ x y, x < w → y < h → gx A ((y * w + x : Nat) : Int) = f x y
theorem Is2.congr {w h : Nat} {A : List Bool} {f g : Nat → Nat → Bool} (hA : Is2 w h A f) (he : ∀ x y, x < w → y < h → f x y = g x y) : Is2 w h A g := ⟨hA.len, fun x y hx hy => (hA.val x y hx hy).trans (he x y hx hy)⟩
theorem Is2.set {w h : Nat} {A : List Bool} {f : Nat → Nat → Bool} (hA : Is2 w h A f) {x0 y0 : Nat} (hx : x0 < w) (hy : y0 < h) (v : Bool) : Is2 w h (A.set (y0 * w + x0) v) (fun x y => if x = x0 ∧ y = y0 then v else f x y) := by
  refine ⟨by rw [List.length_set]; exact hA.len, fun x y hx' hy' => ?_⟩
  rw [gx_setH (by rw [hA.len]; exact ix_lt hx hy)]
  by_cases c : x = x0 ∧ y = y0
  · rw [if_pos c, if_pos (by rw [c.1, c.2])]
  · rw [if_neg c, if_neg (fun e => c (ix_inj hx' hx e)), hA.val x y hx' hy']
theorem mul_bd {w h : Nat} (hw : w ≤ 1000) (hh : h ≤ 1000) : w * h ≤ 1000000 := Nat.mul_le_mul hw hh
theorem ix_W {w h x y : Nat} (hw : w ≤ 1000) (hh : h ≤ 1000) (hx : x < w) (hy : y < h) : W ((W ((y : Int) * (w : Int))) + (x : Int)) = ((y * w + x : Nat) : Int) := by
  have h1 := ix_lt hx hy
  have h2 := mul_bd hw hh
  have e : (y : Int) * (w : Int) = ((y * w : Nat) : Int) := by simp
  rw [e, Wk (n := ((y * w : Nat) : Int)) (by omega) (by omega), Wk (by omega) (by omega)]
  omega

/-! One zone's stretches. -/
theorem L4_eq {w h : Nat} (hw : w ≤ 1000) (hh : h ≤ 1000) {r4 : Arr 1 Int × Arr 1 Int} {u0 u1 y : Nat} (e1 : gx r4.2.l 1 = (u1 : Int)) (h01 : u0 ≤ u1) (h1w : u1 ≤ w) (hy : y < h) {A0 : List Bool} (s33 : Int × List Bool) (hs : s33.1 = (y : Int)) {f : Nat → Nat → Bool} (hA : Is2 w h A0 f) :
    ∃ A, loop (route_newSearch_L4 r4 (w : Int) s33) ((u0 : Int), A0) = some A ∧ Is2 w h A (fun x' y' => if y' = y ∧ u0 ≤ x' ∧ x' < u1 then false else f x' y') := by
  refine loop_inv (body := route_newSearch_L4 r4 (w : Int) s33) (s0 := ((u0 : Int), A0)) (fun st => ∃ (x : Nat) (A : List Bool), st = ((x : Int), A) ∧ u0 ≤ x ∧ x ≤ u1 ∧ Is2 w h A (fun x' y' => if y' = y ∧ u0 ≤ x' ∧ x' < x then false else f x' y')) (fun st => (u1 - st.1).toNat) _
    ⟨u0, A0, rfl, Nat.le_refl _, h01, hA.congr (fun x' y' _ _ => by rw [if_neg (by omega)])⟩ ?_
  rintro st ⟨x, A, rfl, h1, h2, hI⟩
  unfold route_newSearch_L4
  simp only [e1, hs]
  by_cases c : x < u1
  · left
    have hlt := ix_lt (show x < w by omega) hy
    rw [decide_eq_true (by omega), cond_true, ix_W hw hh (by omega) hy, need_of ⟨by omega, by rw [hI.len]; omega⟩, bnd_eq, bnd_eq, Wk (by omega) (by omega), Int.toNat_natCast]
    refine ⟨_, rfl, ⟨x + 1, _, rfl, by omega, by omega, (hI.set (show x < w by omega) hy false).congr (fun x' y' _ _ => ?_)⟩, by simp only; omega⟩
    by_cases cc : x' = x ∧ y' = y
    · rw [if_pos cc, if_pos (by omega)]
    · rw [if_neg cc]
      by_cases c3 : y' = y ∧ u0 ≤ x' ∧ x' < x
      · rw [if_pos c3, if_pos (by omega)]
      · rw [if_neg c3, if_neg (by omega)]
  · right
    obtain rfl : x = u1 := by omega
    exact ⟨A, by rw [decide_eq_false (by omega), cond_false], hI⟩
theorem L3_eq {w h : Nat} (hw : w ≤ 1000) (hh : h ≤ 1000) {r3 r4 : Arr 1 Int × Arr 1 Int} {u0 u1 y0 y1 : Nat} (e0 : gx r4.2.l 0 = (u0 : Int)) (e1 : gx r4.2.l 1 = (u1 : Int)) (e2 : gx r3.1.l 1 = (y1 : Int)) (h01 : u0 ≤ u1) (h1w : u1 ≤ w) (k01 : y0 ≤ y1) (k1 : y1 ≤ h) {A0 : List Bool} {f : Nat → Nat → Bool} (hA : Is2 w h A0 f) :
    ∃ A, loop (route_newSearch_L3 r3 r4 (w : Int)) ((y0 : Int), A0) = some A ∧ Is2 w h A (fun x' y' => if (y0 ≤ y' ∧ y' < y1) ∧ u0 ≤ x' ∧ x' < u1 then false else f x' y') := by
  refine loop_inv (body := route_newSearch_L3 r3 r4 (w : Int)) (s0 := ((y0 : Int), A0)) (fun st => ∃ (y : Nat) (A : List Bool), st = ((y : Int), A) ∧ y0 ≤ y ∧ y ≤ y1 ∧ Is2 w h A (fun x' y' => if (y0 ≤ y' ∧ y' < y) ∧ u0 ≤ x' ∧ x' < u1 then false else f x' y')) (fun st => (y1 - st.1).toNat) _
    ⟨y0, A0, rfl, Nat.le_refl _, k01, hA.congr (fun x' y' _ _ => by rw [if_neg (by omega)])⟩ ?_
  rintro st ⟨y, A, rfl, h1, h2, hI⟩
  unfold route_newSearch_L3
  simp only [e2]
  by_cases c : y < y1
  · left
    obtain ⟨A', g1, g2⟩ := L4_eq hw hh e1 h01 h1w (show y < h by omega) ((y : Int), A) rfl hI
    rw [decide_eq_true (by omega), cond_true, bnd_eq, e0, g1, bind_sm, bnd_eq, Wk (by omega) (by omega)]
    refine ⟨_, rfl, ⟨y + 1, _, rfl, by omega, by omega, g2.congr (fun x' y' _ _ => ?_)⟩, by simp only; omega⟩
    by_cases cc : y' = y ∧ u0 ≤ x' ∧ x' < u1
    · rw [if_pos cc, if_pos (by omega)]
    · rw [if_neg cc]
      by_cases c3 : (y0 ≤ y' ∧ y' < y) ∧ u0 ≤ x' ∧ x' < u1
      · rw [if_pos c3, if_pos (by omega)]
      · rw [if_neg c3, if_neg (by omega)]
  · right
    obtain rfl : y = y1 := by omega
    exact ⟨A, by rw [decide_eq_false (by omega), cond_false], hI⟩
theorem L6_eq {w h : Nat} (hw : w ≤ 1000) (hh : h ≤ 1000) {r3 : Arr 1 Int × Arr 1 Int} {y0 y1 x : Nat} (e1 : gx r3.2.l 1 = (y1 : Int)) (h01 : y0 ≤ y1) (h1w : y1 ≤ h) (hx : x < w) {A0 : List Bool} (s44 : Int × List Bool) (hs : s44.1 = (x : Int)) {f : Nat → Nat → Bool} (hA : Is2 w h A0 f) :
    ∃ A, loop (route_newSearch_L6 r3 (w : Int) s44) ((y0 : Int), A0) = some A ∧ Is2 w h A (fun x' y' => if x' = x ∧ y0 ≤ y' ∧ y' < y1 then false else f x' y') := by
  refine loop_inv (body := route_newSearch_L6 r3 (w : Int) s44) (s0 := ((y0 : Int), A0)) (fun st => ∃ (y : Nat) (A : List Bool), st = ((y : Int), A) ∧ y0 ≤ y ∧ y ≤ y1 ∧ Is2 w h A (fun x' y' => if x' = x ∧ y0 ≤ y' ∧ y' < y then false else f x' y')) (fun st => (y1 - st.1).toNat) _
    ⟨y0, A0, rfl, Nat.le_refl _, h01, hA.congr (fun x' y' _ _ => by rw [if_neg (by omega)])⟩ ?_
  rintro st ⟨y, A, rfl, h1, h2, hI⟩
  unfold route_newSearch_L6
  simp only [e1, hs]
  by_cases c : y < y1
  · left
    have hlt := ix_lt hx (show y < h by omega)
    rw [decide_eq_true (by omega), cond_true, ix_W hw hh hx (by omega), need_of ⟨by omega, by rw [hI.len]; omega⟩, bnd_eq, bnd_eq, Wk (by omega) (by omega), Int.toNat_natCast]
    refine ⟨_, rfl, ⟨y + 1, _, rfl, by omega, by omega, (hI.set hx (show y < h by omega) false).congr (fun x' y' _ _ => ?_)⟩, by simp only; omega⟩
    by_cases cc : x' = x ∧ y' = y
    · rw [if_pos cc, if_pos (by omega)]
    · rw [if_neg cc]
      by_cases c3 : x' = x ∧ y0 ≤ y' ∧ y' < y
      · rw [if_pos c3, if_pos (by omega)]
      · rw [if_neg c3, if_neg (by omega)]
  · right
    obtain rfl : y = y1 := by omega
    exact ⟨A, by rw [decide_eq_false (by omega), cond_false], hI⟩
theorem L5_eq {w h : Nat} (hw : w ≤ 1000) (hh : h ≤ 1000) {r3 r4 : Arr 1 Int × Arr 1 Int} {y0 y1 x0 x1 : Nat} (e0 : gx r3.2.l 0 = (y0 : Int)) (e1 : gx r3.2.l 1 = (y1 : Int)) (e2 : gx r4.1.l 1 = (x1 : Int)) (h01 : y0 ≤ y1) (h1w : y1 ≤ h) (k01 : x0 ≤ x1) (k1 : x1 ≤ w) {A0 : List Bool} (j : List Bool) {f : Nat → Nat → Bool} (hA : Is2 w h A0 f) :
    ∃ A, loop (route_newSearch_L5 r3 r4 (w : Int) j) ((x0 : Int), A0) = some (A, j) ∧ Is2 w h A (fun x' y' => if (x0 ≤ x' ∧ x' < x1) ∧ y0 ≤ y' ∧ y' < y1 then false else f x' y') := by
  obtain ⟨e, he, A, rfl, hA'⟩ := loop_inv (body := route_newSearch_L5 r3 r4 (w : Int) j) (s0 := ((x0 : Int), A0)) (fun st => ∃ (x : Nat) (A : List Bool), st = ((x : Int), A) ∧ x0 ≤ x ∧ x ≤ x1 ∧ Is2 w h A (fun x' y' => if (x0 ≤ x' ∧ x' < x) ∧ y0 ≤ y' ∧ y' < y1 then false else f x' y')) (fun st => (x1 - st.1).toNat)
    (fun e => ∃ A, e = (A, j) ∧ Is2 w h A (fun x' y' => if (x0 ≤ x' ∧ x' < x1) ∧ y0 ≤ y' ∧ y' < y1 then false else f x' y'))
    ⟨x0, A0, rfl, Nat.le_refl _, k01, hA.congr (fun x' y' _ _ => by rw [if_neg (by omega)])⟩ (by
    rintro st ⟨x, A, rfl, h1, h2, hI⟩
    unfold route_newSearch_L5
    simp only [e2]
    by_cases c : x < x1
    · left
      obtain ⟨A', g1, g2⟩ := L6_eq hw hh e1 h01 h1w (show x < w by omega) ((x : Int), A) rfl hI
      rw [decide_eq_true (by omega), cond_true, bnd_eq, e0, g1, bind_sm, bnd_eq, Wk (by omega) (by omega)]
      refine ⟨_, rfl, ⟨x + 1, _, rfl, by omega, by omega, g2.congr (fun x' y' _ _ => ?_)⟩, by simp only; omega⟩
      by_cases cc : x' = x ∧ y0 ≤ y' ∧ y' < y1
      · rw [if_pos cc, if_pos (by omega)]
      · rw [if_neg cc]
        by_cases c3 : (x0 ≤ x' ∧ x' < x) ∧ y0 ≤ y' ∧ y' < y1
        · rw [if_pos c3, if_pos (by omega)]
        · rw [if_neg c3, if_neg (by omega)]
    · right
      obtain rfl : x = x1 := by omega
      exact ⟨(A, j), by rw [decide_eq_false (by omega), cond_false], A, rfl, hI⟩)
  exact ⟨A, he, hA'⟩

/-- The lines and the stretches between two limits. -/
theorem some1_eq {l : List Int} (hl : l.length ≤ 1000) (hs : l.Pairwise (· < ·)) {low high : Int} (h1 : nrI low) (h2 : low < high) : ∃ a b : Nat, route_newSearch_1 l low high = some (⟨[(a : Int), (b : Int)]⟩, ⟨[((a - 1 : Nat) : Int), (b : Int)]⟩) ∧ a ≤ b ∧ b ≤ l.length ∧
    (∀ k : Nat, k < l.length → ((a ≤ k ∧ k < b) ↔ low < gx l (k : Int) ∧ gx l (k : Int) < high)) ∧ ∀ k : Nat, k + 1 < l.length → ((a - 1 ≤ k ∧ k < b) ↔ low < gx l ((k + 1 : Nat) : Int) ∧ gx l (k : Int) < high) := by
  obtain ⟨a, fa, e1, a1, a2, a3, _, _⟩ := bs_pos l (low + 1) (by omega) hs
  obtain ⟨b, fb, e2, b1, b2, b3, _, _⟩ := bs_pos l high (by omega) hs
  unfold nrI at h1
  have hab : a ≤ b := by
    rcases Nat.lt_or_ge b a with h | h
    · have := a2 b h
      have := b3 b (Nat.le_refl _) (by omega)
      omega
    · exact h
  refine ⟨a, b, ?_, hab, b1, fun k hk => ?_, fun k hk => ?_⟩
  · unfold route_newSearch_1
    simp only [bnd_eq]
    rw [Wk (n := low + 1) (by omega) (by omega), e1, e2]
    simp only [bind_sm]
    rw [Wk (by omega) (by omega), show max ((a : Int) - 1) 0 = ((a - 1 : Nat) : Int) by omega]
  · constructor
    · rintro ⟨c1, c2⟩
      have := a3 k c1 hk; have := b2 k c2; omega
    · rintro ⟨c1, c2⟩
      refine ⟨Classical.byContradiction fun hn => ?_, Classical.byContradiction fun hn => ?_⟩
      · have := a2 k (by omega); omega
      · have := b3 k (by omega) hk; omega
  · constructor
    · rintro ⟨c1, c2⟩
      have := a3 (k + 1) (by omega) hk; have := b2 k c2; omega
    · rintro ⟨c1, c2⟩
      refine ⟨Classical.byContradiction fun hn => ?_, Classical.byContradiction fun hn => ?_⟩
      · have := a2 (k + 1) (by omega); omega
      · have := b3 k (by omega) (by omega); omega

/-! All of them. -/
section
variable (X Y : List Int)
def acr (z : Route_zone) (x y : Nat) : Prop := (z.left < gx X ((x + 1 : Nat) : Int) ∧ gx X (x : Int) < z.right) ∧ z.top < gx Y (y : Int) ∧ gx Y (y : Int) < z.bottom
def dwn (z : Route_zone) (x y : Nat) : Prop := (z.left < gx X (x : Int) ∧ gx X (x : Int) < z.right) ∧ z.top < gx Y ((y + 1 : Nat) : Int) ∧ gx Y (y : Int) < z.bottom
instance (z : Route_zone) (x y : Nat) : Decidable (acr X Y z x y) := by unfold acr; infer_instance
instance (z : Route_zone) (x y : Nat) : Decidable (dwn X Y z x y) := by unfold dwn; infer_instance
def acrs (zs : List Route_zone) (x y : Nat) : Bool := decide (x + 1 < X.length) && !zs.any (fun z => decide (acr X Y z x y))
def dwns (zs : List Route_zone) (x y : Nat) : Bool := decide (y + 1 < Y.length) && !zs.any (fun z => decide (dwn X Y z x y))
end
theorem zones_loop {X Y : List Int} (hX : X.length ≤ 1000) (hY : Y.length ≤ 1000) (sX : X.Pairwise (· < ·)) (sY : Y.Pairwise (· < ·)) {s1 : Route_search} (eX : s1.xs = X) (eY : s1.ys = Y) : ∀ (zs done : List Route_zone) (D A : List Bool), (∀ z ∈ zs, nrI z.left ∧ nrI z.top ∧ z.left < z.right ∧ z.top < z.bottom) →
    Is2 X.length Y.length D (dwns X Y done) → Is2 X.length Y.length A (acrs X Y done) →
    ∃ D' A', lgo (fun (v6 : Route_zone) (s : List Bool × List Bool) => Option.bind (route_newSearch_1 s1.ys v6.top v6.bottom) fun r3 => Option.bind (route_newSearch_1 s1.xs v6.left v6.right) fun r4 => bnd (gx r3.1.l 0) fun y1 =>
      Option.bind (α := (List Bool)) (loop (route_newSearch_L3 r3 r4 (X.length : Int)) (y1, s.2)) fun j_32 => bnd (gx r4.1.l 0) fun x3 => loop (route_newSearch_L5 r3 r4 (X.length : Int) j_32) (x3, s.1)) zs (D, A) = some (D', A') ∧
      Is2 X.length Y.length D' (dwns X Y (done ++ zs)) ∧ Is2 X.length Y.length A' (acrs X Y (done ++ zs))
  | [], done, D, A, _, hD, hA => ⟨D, A, by simp [lgo], by simpa using hD, by simpa using hA⟩
  | z :: zs, done, D, A, hz, hD, hA => by
    obtain ⟨n1, n2, n3, n4⟩ := hz z (by simp)
    obtain ⟨y0, y1, r3, h1, h2, h3, h4⟩ := some1_eq hY sY n2 n4
    obtain ⟨x0, x1, r4, g1, g2, g3, g4⟩ := some1_eq hX sX n1 n3
    obtain ⟨A', k1, k2⟩ := L3_eq hX hY (r3 := (⟨[(y0 : Int), (y1 : Int)]⟩, ⟨[((y0 - 1 : Nat) : Int), (y1 : Int)]⟩)) (r4 := (⟨[(x0 : Int), (x1 : Int)]⟩, ⟨[((x0 - 1 : Nat) : Int), (x1 : Int)]⟩)) (u0 := x0 - 1) (u1 := x1) (y0 := y0) (y1 := y1) rfl rfl rfl (by omega) g2 h1 h2 hA
    obtain ⟨D', m1, m2⟩ := L5_eq hX hY (r3 := (⟨[(y0 : Int), (y1 : Int)]⟩, ⟨[((y0 - 1 : Nat) : Int), (y1 : Int)]⟩)) (r4 := (⟨[(x0 : Int), (x1 : Int)]⟩, ⟨[((x0 - 1 : Nat) : Int), (x1 : Int)]⟩)) (y0 := y0 - 1) (y1 := y1) (x0 := x0) (x1 := x1) rfl rfl rfl (by omega) h2 g1 g2 A' hD
    have hd : Is2 X.length Y.length D' (dwns X Y (done ++ [z])) := m2.congr (fun x y hx hy => by
      unfold dwns
      by_cases cy : y + 1 < Y.length
      · rw [List.any_append, List.any_cons, List.any_nil, Bool.or_false]
        have e : ((x0 ≤ x ∧ x < x1) ∧ y0 - 1 ≤ y ∧ y < y1) ↔ dwn X Y z x y := by
          unfold dwn; rw [g3 x hx, h4 y cy]
        by_cases c : dwn X Y z x y
        · rw [if_pos (e.2 c), decide_eq_true c]; simp
        · rw [if_neg (fun h => c (e.1 h)), decide_eq_false c]; simp
      · simp [cy])
    have ha : Is2 X.length Y.length A' (acrs X Y (done ++ [z])) := k2.congr (fun x y hx hy => by
      unfold acrs
      by_cases cx : x + 1 < X.length
      · rw [List.any_append, List.any_cons, List.any_nil, Bool.or_false]
        have e : ((y0 ≤ y ∧ y < y1) ∧ x0 - 1 ≤ x ∧ x < x1) ↔ acr X Y z x y := by
          unfold acr; rw [h3 y hy, g4 x cx]; exact And.comm
        by_cases c : acr X Y z x y
        · rw [if_pos (e.2 c), decide_eq_true c]; simp
        · rw [if_neg (fun h => c (e.1 h)), decide_eq_false c]; simp
      · simp [cx])
    obtain ⟨D2, A2, e1, e2, e3⟩ := zones_loop hX hY sX sY eX eY zs (done ++ [z]) D' A' (fun z' hz' => hz z' (by simp [hz'])) hd ha
    refine ⟨D2, A2, ?_, by simpa using e2, by simpa using e3⟩
    rw [eX, eY] at e1
    rw [lgo, eX, eY, r3, bind_sm, r4, bind_sm]
    simp only [bnd_eq]
    rw [show gx (⟨[(y0 : Int), (y1 : Int)]⟩ : Arr 1 Int).l 0 = (y0 : Int) from rfl, k1, bind_sm, show gx (⟨[(x0 : Int), (x1 : Int)]⟩ : Arr 1 Int).l 0 = (x0 : Int) from rfl, m1]
    exact e1

theorem fill_eq {w h : Nat} (hw : w ≤ 1000) (hh : h ≤ 1000) : ∃ D A, rfor (((List.replicate (w * h) false).length : Nat) : Int) (route_newSearch_L1 (h : Int) (w : Int)) (List.replicate (w * h) false, List.replicate (w * h) false) = some (D, A) ∧
    Is2 w h D (fun x y => decide (y + 1 < h)) ∧ Is2 w h A (fun x y => decide (x + 1 < w)) := by
  have hm := mul_bd hw hh
  obtain ⟨⟨D, A⟩, h1, h2, h3, h4⟩ := rfor_inv (n := (((List.replicate (w * h) false).length : Nat) : Int)) (step := route_newSearch_L1 (h : Int) (w : Int)) (s0 := (List.replicate (w * h) false, List.replicate (w * h) false))
    (fun i s => s.1.length = w * h ∧ s.2.length = w * h ∧ ∀ k : Nat, k < i → k < w * h → gx s.1 (k : Int) = decide (k / w + 1 < h) ∧ gx s.2 (k : Int) = decide (k % w + 1 < w)) (by rw [List.length_replicate]; omega) ⟨by simp, by simp, fun k hk => by omega⟩ (fun i s hi ⟨i1, i2, i3⟩ => by
      rw [List.length_replicate] at hi
      have hi' : i < w * h := by omega
      have hw0 : 0 < w := by
        rcases Nat.eq_zero_or_pos w with e | e
        · rw [e] at hi'; simp at hi'
        · exact e
      have hd : i / w < h := by rw [Nat.div_lt_iff_lt_mul hw0, Nat.mul_comm]; exact hi'
      have hmd : i % w < w := Nat.mod_lt _ hw0
      unfold route_newSearch_L1
      have t1 : (i : Int).tmod (w : Int) = ((i % w : Nat) : Int) := by rw [Int.tmod_eq_emod_of_nonneg (by omega)]; exact (Int.natCast_emod i w).symm
      have t2 : (i : Int).tdiv (w : Int) = ((i / w : Nat) : Int) := by rw [Int.tdiv_eq_ediv_of_nonneg (by omega)]; exact (Int.natCast_ediv i w).symm
      rw [need_of (by omega), t1, t2, bnd_eq, need_of (by omega), bnd_eq, Wk (n := (w : Int) - 1) (by omega) (by omega), Wk (n := (h : Int) - 1) (by omega) (by omega), need_of ⟨by omega, by omega⟩, need_of ⟨by omega, by omega⟩, Int.toNat_natCast]
      refine ⟨_, rfl, by simpa using i1, by simpa using i2, fun k hk hk2 => ?_⟩
      simp only
      rw [gx_setH (by omega), gx_setH (by omega)]
      by_cases e : k = i
      · subst e
        rw [if_pos rfl, if_pos rfl]
        exact ⟨by rw [decide_eq_decide]; omega, by rw [decide_eq_decide]; omega⟩
      · rw [if_neg e, if_neg e]; exact i3 k (by omega) hk2)
  rw [List.length_replicate] at h4
  refine ⟨D, A, h1, ⟨h2, fun x y hx hy => ?_⟩, ⟨h3, fun x y hx hy => ?_⟩⟩
  · have hlt := ix_lt hx hy
    rw [(h4 (y * w + x) (by omega) hlt).1, decide_eq_decide, Nat.add_comm (y * w), Nat.add_mul_div_right _ _ (by omega), Nat.div_eq_of_lt hx]
    omega
  · have hlt := ix_lt hx hy
    rw [(h4 (y * w + x) (by omega) hlt).2, decide_eq_decide, Nat.add_comm (y * w), Nat.add_mul_mod_self_right, Nat.mod_eq_of_lt hx]

theorem zn_lt {t : Task} (h : TaskOK t) {w : Box} (hw : w ∈ t.Walls) : (zn t w).left < (zn t w).right ∧ (zn t w).top < (zn t w).bottom := by
  have hb := h.walls w hw
  have c1 := h.c1; have c2 := h.c2
  unfold okB at hb
  unfold zn
  simp only
  rw [Wk (n := w.X - t.Clear) (by omega) (by omega), Wk (n := w.Y - t.Clear) (by omega) (by omega), Wk (n := w.X + w.W_) (by omega) (by omega), Wk (n := w.Y + w.H) (by omega) (by omega), Wk (n := w.X + w.W_ + t.Clear) (by omega) (by omega), Wk (n := w.Y + w.H + t.Clear) (by omega) (by omega)]
  omega

/-- What a prepared search holds. -/
theorem newSearch_eq {t : Task} (h : TaskOK t) : ∃ D A, route_newSearch t = some (some ⟨gridOf (xv t), gridOf (yv t), A, D⟩) ∧
    Is2 (gridOf (xv t)).length (gridOf (yv t)).length D (dwns (gridOf (xv t)) (gridOf (yv t)) (t.Walls.map (zn t))) ∧ Is2 (gridOf (xv t)).length (gridOf (yv t)).length A (acrs (gridOf (xv t)) (gridOf (yv t)) (t.Walls.map (zn t))) := by
  have hf := h.few
  have hX : (gridOf (xv t)).length ≤ 1000 := by have := gridOf_len (xv t); rw [xv_len] at this; omega
  have hY : (gridOf (yv t)).length ≤ 1000 := by have := gridOf_len (yv t); rw [yv_len] at this; omega
  have hm := mul_bd hX hY
  have hN : ((gridOf (xv t)).length : Int) * ((gridOf (yv t)).length : Int) = (((gridOf (xv t)).length * (gridOf (yv t)).length : Nat) : Int) := by simp
  unfold route_newSearch
  rw [lines_eq h]
  simp only [bnd_eq, bind_sm]
  rw [hN, Wk (by omega) (by omega), need_of ⟨by omega, by omega, by omega⟩, need_of ⟨by omega, by omega, by omega⟩, Int.toNat_natCast]
  obtain ⟨D, A, e1, e2, e3⟩ := fill_eq hX hY
  rw [e1, bind_sm, zones_eq h, bind_sm]
  rw [rfor_list (fun (v6 : Route_zone) (s : List Bool × List Bool) => Option.bind (route_newSearch_1 (gridOf (yv t)) v6.top v6.bottom) fun r3 => Option.bind (route_newSearch_1 (gridOf (xv t)) v6.left v6.right) fun r4 => bnd (gx r3.1.l 0) fun y1 =>
      Option.bind (α := (List Bool)) (loop (route_newSearch_L3 r3 r4 ((gridOf (xv t)).length : Int)) (y1, s.2)) fun j_32 => bnd (gx r4.1.l 0) fun x3 => loop (route_newSearch_L5 r3 r4 ((gridOf (xv t)).length : Int) j_32) (x3, s.1)) (by rw [List.length_map]; omega) (fun i s hi => by
    unfold route_newSearch_L2
    rw [need_of hi]; rfl)]
  obtain ⟨D', A', f1, f2, f3⟩ := zones_loop hX hY (gridOf_strict _) (gridOf_strict _) (s1 := ⟨gridOf (xv t), gridOf (yv t), [], []⟩) rfl rfl (t.Walls.map (zn t)) [] D A (fun z hz => by
    obtain ⟨w, hw, rfl⟩ := List.mem_map.1 hz
    obtain ⟨a1, a2, _, _⟩ := zn_nr h hw
    exact ⟨a1, a2, zn_lt h hw⟩) (e2.congr (fun x y _ _ => by unfold dwns; simp)) (e3.congr (fun x y _ _ => by unfold acrs; simp))
  simp only at f1 ⊢
  rw [f1, bind_sm]
  exact ⟨D', A', rfl, by simpa using f2, by simpa using f3⟩
end Go.DB
