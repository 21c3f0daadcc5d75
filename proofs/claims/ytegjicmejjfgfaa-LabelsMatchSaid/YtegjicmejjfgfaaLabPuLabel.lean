/-
  Places of labels: the code and the reference agree.
-/
import Derived.Test.YtegjicmejjfgfaaLabPuWay
import Derived.Test.YtegjicmejjfgfaaLabPuTask
set_option linter.unusedSimpArgs false
set_option linter.unusedVariables false
namespace Go.DB
open Go Go.RowKit

/-! Whether a label fits. -/

def lblBox (w h : Int) (p : Point) : Box := ⟨p.X - w / 2, p.Y - h / 2, w, h⟩
def ovl (b x : Box) : Bool := decide (b.X < x.X + x.W_) && decide (x.X < b.X + b.W_) && decide (b.Y < x.Y + x.H) && decide (x.Y < b.Y + b.H)
def fitB (w h : Int) (walls : List Box) (p : Point) : Bool := decide (okB (lblBox w h p)) && !walls.any (ovl (lblBox w h p))

/-- What a label asks for. -/
structure Lb (l : List Point) (w h : Int) (walls : List Box) : Prop where
  path : pathErr l = 0
  w1 : 1 ≤ w
  w2 : w ≤ 20000
  h1 : 1 ≤ h
  h2 : h ≤ 20000
  many : walls.length ≤ 100
  ok : ∀ b ∈ walls, okB b

section
variable {l : List Point} {w h : Int} {walls : List Box}

theorem at_eq (hL : Lb l w h walls) {p : Point} (hp : okP p) : route_tag_at (⟨w, h, walls⟩ : Route_tag) p = some (lblBox w h p) := by
  have a1 := hL.w1; have a2 := hL.w2; have a3 := hL.h1; have a4 := hL.h2
  unfold okP at hp
  unfold route_tag_at lblBox
  simp only [bnd_eq]
  rw [Int.tdiv_eq_ediv_of_nonneg (by omega), Int.tdiv_eq_ediv_of_nonneg (by omega), Wk (by omega) (by omega), Wk (by omega) (by omega)]
theorem fits_eq (hL : Lb l w h walls) {p : Point} (hp : okP p) : route_tag_fits (⟨w, h, walls⟩ : Route_tag) p = some (fitB w h walls p) := by
  have a1 := hL.w1; have a2 := hL.w2; have a3 := hL.h1; have a4 := hL.h2
  have hm := hL.many
  unfold route_tag_fits
  rw [at_eq hL hp]
  simp only [bind_sm, CheckBox_eq]
  unfold okP at hp
  have hf : ∀ x ∈ walls, route_tag_fits_1 x (lblBox w h p) = some (ovl (lblBox w h p) x) := fun x hx => by
    have ho := hL.ok x hx
    unfold okB at ho
    unfold route_tag_fits_1 ovl lblBox
    simp only
    rw [Wk (by omega) (by omega), Wk (by omega) (by omega), Wk (by omega) (by omega), Wk (by omega) (by omega)]
  rw [ContainsFunc_Box_eq walls _ (ovl (lblBox w h p)) (by omega) hf]
  unfold fitB boxErr
  by_cases c : okB (lblBox w h p) <;> simp [c]

/-! Where it can change. -/

def placeOf (half long : Int) (f : Box → Int × Int) (walls : List Box) : List Int := [-1000000 + half, 1000000 + half] ++ walls.flatMap (fun x => [(f x).1 - long + half, (f x).2 + half])
theorem placeOf_len (half long : Int) (f : Box → Int × Int) (walls : List Box) : (placeOf half long f walls).length = 2 + 2 * walls.length := by
  unfold placeOf
  rw [List.length_append, List.length_flatMap]
  simp only [List.length_cons, List.length_nil, List.map_const', List.sum_replicate_nat]; omega
/-- Ways to look at a box: across, or down. -/
def fX (b : Box) : Int × Int := (b.X, b.X + b.W_)
def fY (b : Box) : Int × Int := (b.Y, b.Y + b.H)

theorem changes_loop2 {t : Route_tag} {d : Point} {j : Int × Int × Int} {ps : List Int} (hps : ps.length ≤ 300) :
    ∃ out, rfor (ps.length : Int) (route_tag_changes_L2 d j ps) ([] : List Int) = some out ∧ out.length ≤ 1000 ∧ ∀ P ∈ ps, W (W (P - j.1) * W (d.X + d.Y)) ∈ out := by
  obtain ⟨s, h1, h2, h3⟩ := rfor_inv (n := (ps.length : Int)) (step := route_tag_changes_L2 d j ps) (s0 := ([] : List Int)) (fun i s => s.length = 3 * i ∧ ∀ k : Nat, k < i → W (W (gx ps (k : Int) - j.1) * W (d.X + d.Y)) ∈ s) (by omega) ⟨rfl, fun k hk => by omega⟩ (fun i s hi hI => by
    have hi' : i < ps.length := by omega
    unfold route_tag_changes_L2
    rw [need_of ⟨by omega, hi⟩]
    simp only [bnd_eq]
    rw [need_of (by rw [room_iff, hI.1]; simp; omega)]
    refine ⟨_, rfl, by rw [List.length_append, hI.1]; simp; omega, fun k hk => ?_⟩
    rcases Nat.lt_or_eq_of_le (Nat.lt_succ_iff.1 hk) with hk | hk
    · exact List.mem_append_left _ (hI.2 k hk)
    · subst hk; exact List.mem_append_right _ (by simp))
  refine ⟨s, h1, by rw [h2]; simp; omega, fun P hP => ?_⟩
  obtain ⟨k, hk, rfl⟩ := List.mem_iff_getElem.1 hP
  have := h3 k (by simpa using hk)
  rwa [gx_nat hk] at this

theorem changes_eq (hL : Lb l w h walls) {a b : Point} (ha : okP a) (hb : okP b) {half long from_ : Int} {f : Box → Int × Int}
    (hax : ((wayI a b).X = 0 ∧ half = h / 2 ∧ long = h ∧ from_ = a.Y ∧ f = fY) ∨ ((wayI a b).X ≠ 0 ∧ half = w / 2 ∧ long = w ∧ from_ = a.X ∧ f = fX)) :
    ∃ out, route_tag_changes (⟨w, h, walls⟩ : Route_tag) a b = some out ∧ out.length ≤ 1000 ∧ ∀ P ∈ placeOf half long f walls, W (W (P - from_) * W ((wayI a b).X + (wayI a b).Y)) ∈ out := by
  have a1 := hL.w1; have a2 := hL.w2; have a3 := hL.h1; have a4 := hL.h2
  have hm := hL.many
  have hhalf : 0 ≤ half ∧ half ≤ 10000 ∧ 1 ≤ long ∧ long ≤ 20000 := by rcases hax with ⟨_, h1, h2, _⟩ | ⟨_, h1, h2, _⟩ <;> subst h1 h2 <;> omega
  unfold route_tag_changes
  rw [heading_eq ha hb]
  simp only [bind_sm, bnd_eq]
  have hj : (bif decide ((wayI a b).X = 0) then some (a.Y, h.tdiv 2, h) else some (a.X, w.tdiv 2, w)) = some (from_, half, long) := by
    rcases hax with ⟨h0, h1, h2, h3, _⟩ | ⟨h0, h1, h2, h3, _⟩
    · have : decide ((wayI a b).X = 0) = true := by simpa using h0
      rw [this, h1, h2, h3, Int.tdiv_eq_ediv_of_nonneg (by omega)]; rfl
    · have : decide ((wayI a b).X = 0) = false := by simpa using h0
      rw [this, h1, h2, h3, Int.tdiv_eq_ediv_of_nonneg (a := w) (by omega)]; rfl
  rw [hj]
  simp only [bind_sm]
  rw [Wk (n := -1000000 + half) (by omega) (by omega), Wk (n := 1000000 + half) (by omega) (by omega)]
  obtain ⟨s, h1, h2⟩ := rfor_inv (n := (walls.length : Int)) (step := route_tag_changes_L1 (wayI a b) (⟨w, h, walls⟩ : Route_tag) (from_, half, long)) (s0 := [-1000000 + half, 1000000 + half]) (fun i s => s = placeOf half long f (walls.take i)) (by omega) (by simp [placeOf]) (fun i s hi hI => by
    have hi' : i < walls.length := by omega
    have hin : inR walls (i : Int) := ⟨by omega, hi⟩
    have ho := hL.ok _ (gx_mem hin)
    unfold okB at ho
    have hte : walls.take (i + 1) = walls.take i ++ [gx walls (i : Int)] := by rw [List.take_add_one, gx_nat hi', List.getElem?_eq_getElem hi']; rfl
    unfold route_tag_changes_L1
    simp only
    rw [need_of hin]
    simp only [bnd_eq]
    generalize gx walls (i : Int) = v at *
    have hf : (bif decide ((wayI a b).X = 0) then some (v.Y, W (v.Y + v.H)) else some (v.X, W (v.X + v.W_))) = some (f v) := by
      rcases hax with ⟨h0, _, _, _, h4⟩ | ⟨h0, _, _, _, h4⟩
      · have : decide ((wayI a b).X = 0) = true := by simpa using h0
        rw [this, h4, Wk (by omega) (by omega)]; rfl
      · have : decide ((wayI a b).X = 0) = false := by simpa using h0
        rw [this, h4, Wk (n := v.X + v.W_) (by omega) (by omega)]; rfl
    have hfb : -1000000 ≤ (f v).1 ∧ (f v).1 ≤ 1000000 ∧ -1000000 ≤ (f v).2 ∧ (f v).2 ≤ 1020000 := by
      rcases hax with ⟨_, _, _, _, h4⟩ | ⟨_, _, _, _, h4⟩ <;> rw [h4]
      · unfold fY; simp only; omega
      · unfold fX; simp only; omega
    rw [hf]
    simp only [bind_sm]
    have hlen : s.length ≤ 202 := by rw [hI, placeOf_len, List.length_take]; omega
    rw [need_of (by rw [room_iff]; simp; omega), Wk (n := (f v).1 - long) (by omega) (by omega), Wk (by omega) (by omega), Wk (by omega) (by omega)]
    refine ⟨_, rfl, ?_⟩
    rw [hI, hte]
    unfold placeOf
    rw [List.flatMap_append, ← List.append_assoc]
    simp)
  rw [h1]
  simp only [Int.toNat_natCast, List.take_length] at h2
  subst h2
  simp only [bind_sm]
  obtain ⟨out, k1, k2, k3⟩ := changes_loop2 (t := ⟨w, h, walls⟩) (d := wayI a b) (j := (from_, half, long)) (ps := placeOf half long f walls) (by rw [placeOf_len]; omega)
  rw [k1]
  exact ⟨out, rfl, k2, k3⟩

/-! The best place. -/

def farN (N k : Int) : Int := max (2 * k - N) (N - 2 * k)
def lexle (N a b : Int) : Prop := farN N a < farN N b ∨ (farN N a = farN N b ∧ a ≤ b)
instance (N a b : Int) : Decidable (lexle N a b) := by unfold lexle; infer_instance
structure Bst (N : Int) (fit : Int → Bool) (mk : Int → Box) (S : Int → Prop) (best : Int) (some : Bool) (box : Box) : Prop where
  b0 : 0 ≤ best
  b1 : best ≤ N
  none : some = false → ∀ k, S k → fit k = false
  is : some = true → fit best = true ∧ box = mk best ∧ ∀ k, S k → fit k = true → lexle N best k
theorem Bst.mono {N : Int} {fit : Int → Bool} {mk : Int → Box} {S S' : Int → Prop} {best : Int} {some : Bool} {box : Box} (h : Bst N fit mk S best some box) (hs : ∀ k, S' k → S k) : Bst N fit mk S' best some box :=
  ⟨h.b0, h.b1, fun e k hk => h.none e k (hs k hk), fun e => ⟨(h.is e).1, (h.is e).2.1, fun k hk => (h.is e).2.2 k (hs k hk)⟩⟩
theorem Bst.skip {N : Int} {fit : Int → Bool} {mk : Int → Box} {S : Int → Prop} {best k : Int} {box : Box} (h : Bst N fit mk S best true box) (hk : lexle N best k) : Bst N fit mk (fun j => S j ∨ j = k) best true box :=
  ⟨h.b0, h.b1, fun e => by (cases e), fun e => ⟨(h.is e).1, (h.is e).2.1, fun j hj hf => by
    rcases hj with hj | rfl
    · exact (h.is e).2.2 j hj hf
    · exact hk⟩⟩
theorem Bst.not {N : Int} {fit : Int → Bool} {mk : Int → Box} {S : Int → Prop} {best k : Int} {some : Bool} {box : Box} (h : Bst N fit mk S best some box) (hk : fit k = false) : Bst N fit mk (fun j => S j ∨ j = k) best some box :=
  ⟨h.b0, h.b1, fun e j hj => by
    rcases hj with hj | rfl
    · exact h.none e j hj
    · exact hk, fun e => ⟨(h.is e).1, (h.is e).2.1, fun j hj hf => by
    rcases hj with hj | rfl
    · exact (h.is e).2.2 j hj hf
    · rw [hk] at hf; cases hf⟩⟩
theorem Bst.take {N : Int} {fit : Int → Bool} {mk : Int → Box} {S : Int → Prop} {best k : Int} {some : Bool} {box : Box} (h : Bst N fit mk S best some box) (h0 : 0 ≤ k) (h1 : k ≤ N) (hk : fit k = true) (hn : some = true → ¬ lexle N best k) : Bst N fit mk (fun j => S j ∨ j = k) k true (mk k) :=
  ⟨h0, h1, fun e => by (cases e), fun _ => ⟨hk, rfl, fun j hj hf => by
    rcases hj with hj | rfl
    · cases hs : some with
      | false => have := h.none hs j hj; rw [hf] at this; cases this
      | true =>
        have a := hn hs
        have b := (h.is hs).2.2 j hj hf
        unfold lexle at *; omega
    · unfold lexle; omega⟩⟩
/-- Both have found the same, if the second looked everywhere and the first where it matters. -/
theorem Bst.same {N : Int} {fit : Int → Bool} {mk : Int → Box} {S : Int → Prop} {b1 b2 : Int} {s1 s2 : Bool} {x1 x2 : Box} (h1 : Bst N fit mk S b1 s1 x1) (h2 : Bst N fit mk (fun k => 0 ≤ k ∧ k ≤ N) b2 s2 x2)
    (hd : ∀ k, 0 ≤ k → k ≤ N → fit k = true → (∀ j, 0 ≤ j → j ≤ N → fit j = true → lexle N k j) → S k) : s1 = s2 ∧ (s1 = true → x1 = x2) := by
  cases e2 : s2 with
  | false =>
    cases e1 : s1 with
    | false => exact ⟨rfl, fun h => by cases h⟩
    | true =>
      have a := h2.none e2 b1 ⟨h1.b0, h1.b1⟩
      rw [(h1.is e1).1] at a; cases a
  | true =>
    obtain ⟨c1, c2, c3⟩ := h2.is e2
    have hS := hd b2 h2.b0 h2.b1 c1 (fun j j0 j1 hf => c3 j ⟨j0, j1⟩ hf)
    cases e1 : s1 with
    | false => have := h1.none e1 b2 hS; rw [c1] at this; cases this
    | true =>
      obtain ⟨d1, d2, d3⟩ := h1.is e1
      have p1 := d3 b2 hS c1
      have p2 := c3 b1 ⟨h1.b0, h1.b1⟩ d1
      have : b1 = b2 := by unfold lexle at *; omega
      refine ⟨rfl, fun _ => ?_⟩
      rw [d2, c2, this]

/-! The places that are tried. -/

noncomputable def pt (l : List Point) (k : Int) : Point := (ref_AtOf l k).getD default
noncomputable def fitK (l : List Point) (w h : Int) (walls : List Box) (k : Int) : Bool := fitB w h walls (pt l k)
noncomputable def mkK (l : List Point) (w h : Int) (k : Int) : Box := lblBox w h (pt l k)
def Nof (l : List Point) : Int := lenUpto l l.length
theorem pt_eq (h : pathErr l = 0) {i : Nat} (h1 : 1 ≤ i) (h2 : i < l.length) {n : Int} (h3 : 0 ≤ n) (h4 : n ≤ farI (gx l ((i : Int) - 1)) (gx l (i : Int))) : pt l (lenUpto l i + n) = ptI l i n := by
  unfold pt
  rw [AtOf_at h h1 h2 (by omega) (by rw [lenUpto_next h1]; omega)]
  simp only [Option.getD_some]
  congr 1; omega
/-- What is tried on the stretch to i. -/
def Tried (l : List Point) (w h : Int) (walls : List Box) (i : Nat) (n : Int) : Prop :=
  n = 0 ∨ n = farI (gx l ((i : Int) - 1)) (gx l (i : Int)) ∨ n = Nof l / 2 - lenUpto l i ∨ n = Nof l / 2 - lenUpto l i + 1 ∨
  ((wayI (gx l ((i : Int) - 1)) (gx l (i : Int))).X = 0 ∧ ∃ P ∈ placeOf (h / 2) h fY walls, n = (P - (gx l ((i : Int) - 1)).Y) * (wayI (gx l ((i : Int) - 1)) (gx l (i : Int))).Y) ∨
  ((wayI (gx l ((i : Int) - 1)) (gx l (i : Int))).Y = 0 ∧ ∃ P ∈ placeOf (w / 2) w fX walls, n = (P - (gx l ((i : Int) - 1)).X) * (wayI (gx l ((i : Int) - 1)) (gx l (i : Int))).X)
def Seen (l : List Point) (w h : Int) (walls : List Box) (m : Nat) (k : Int) : Prop := ∃ i, 1 ≤ i ∧ i < m ∧ ∃ n, Tried l w h walls i n ∧ 0 ≤ n ∧ n ≤ farI (gx l ((i : Int) - 1)) (gx l (i : Int)) ∧ k = lenUpto l i + n

theorem place_base (half long : Int) (f : Box → Int × Int) (walls : List Box) : -1000000 + half ∈ placeOf half long f walls ∧ 1000000 + half ∈ placeOf half long f walls := ⟨by simp [placeOf], by simp [placeOf]⟩
theorem place_wall (half long : Int) (f : Box → Int × Int) {walls : List Box} {x : Box} (hx : x ∈ walls) : (f x).1 - long + half ∈ placeOf half long f walls ∧ (f x).2 + half ∈ placeOf half long f walls := by
  unfold placeOf
  exact ⟨List.mem_append_right _ (List.mem_flatMap.2 ⟨x, hx, by simp⟩), List.mem_append_right _ (List.mem_flatMap.2 ⟨x, hx, by simp⟩)⟩

/-- Where a label fits and beside it does not, something begins or ends: down. -/
theorem edge_down (hL : Lb l w h walls) {x y y' : Int} (hy : y' = y + 1 ∨ y' = y - 1) (hf : fitB w h walls ⟨x, y⟩ = true) (hn : fitB w h walls ⟨x, y'⟩ = false) : y ∈ placeOf (h / 2) h fY walls := by
  have a1 := hL.w1; have a2 := hL.w2; have a3 := hL.h1; have a4 := hL.h2
  unfold fitB at hf hn
  simp only [Bool.and_eq_true, decide_eq_true_eq, Bool.not_eq_true', Bool.and_eq_false_iff, decide_eq_false_iff_not, Bool.not_eq_false'] at hf hn
  obtain ⟨hf1, hf2⟩ := hf
  rcases hn with hn | hn
  · unfold okB lblBox at hf1 hn
    simp only at hf1 hn
    obtain ⟨b1, b2⟩ := place_base (h / 2) h fY walls
    have : y = -1000000 + h / 2 ∨ y = 1000000 + h / 2 := by omega
    rcases this with e | e <;> rw [e] <;> assumption
  · rw [List.any_eq_true] at hn
    rw [List.any_eq_false] at hf2
    obtain ⟨b, hb, ho⟩ := hn
    have hno := hf2 b hb
    obtain ⟨b1, b2⟩ := place_wall (h / 2) h fY hb
    unfold ovl lblBox at ho hno
    simp only [Bool.and_eq_true, decide_eq_true_eq] at ho hno
    unfold fY at b1 b2
    simp only at b1 b2
    have : y = b.Y - h + h / 2 ∨ y = b.Y + b.H + h / 2 := by omega
    rcases this with e | e <;> rw [e] <;> assumption
theorem edge_across (hL : Lb l w h walls) {x x' y : Int} (hx : x' = x + 1 ∨ x' = x - 1) (hf : fitB w h walls ⟨x, y⟩ = true) (hn : fitB w h walls ⟨x', y⟩ = false) : x ∈ placeOf (w / 2) w fX walls := by
  have a1 := hL.w1; have a2 := hL.w2; have a3 := hL.h1; have a4 := hL.h2
  unfold fitB at hf hn
  simp only [Bool.and_eq_true, decide_eq_true_eq, Bool.not_eq_true', Bool.and_eq_false_iff, decide_eq_false_iff_not, Bool.not_eq_false'] at hf hn
  obtain ⟨hf1, hf2⟩ := hf
  rcases hn with hn | hn
  · unfold okB lblBox at hf1 hn
    simp only at hf1 hn
    obtain ⟨b1, b2⟩ := place_base (w / 2) w fX walls
    have : x = -1000000 + w / 2 ∨ x = 1000000 + w / 2 := by omega
    rcases this with e | e <;> rw [e] <;> assumption
  · rw [List.any_eq_true] at hn
    rw [List.any_eq_false] at hf2
    obtain ⟨b, hb, ho⟩ := hn
    have hno := hf2 b hb
    obtain ⟨b1, b2⟩ := place_wall (w / 2) w fX hb
    unfold ovl lblBox at ho hno
    simp only [Bool.and_eq_true, decide_eq_true_eq] at ho hno
    unfold fX at b1 b2
    simp only at b1 b2
    have : x = b.X - w + w / 2 ∨ x = b.X + b.W_ + w / 2 := by omega
    rcases this with e | e <;> rw [e] <;> assumption

/-- The best place of all is one of those that are tried. -/
theorem best_seen (hL : Lb l w h walls) {k : Int} (h0 : 0 ≤ k) (h1 : k ≤ Nof l) (hf : fitK l w h walls k = true) (hb : ∀ j, 0 ≤ j → j ≤ Nof l → fitK l w h walls j = true → lexle (Nof l) k j) : Seen l w h walls l.length k := by
  obtain ⟨i, i1, i2, i3, i4⟩ := stretch_of hL.path h0 h1
  have hnext := lenUpto_next (l := l) i1
  refine ⟨i, i1, i2, k - lenUpto l i, ?_, by omega, by omega, by omega⟩
  generalize hn : k - lenUpto l i = n
  have hk : k = lenUpto l i + n := by omega
  have hn0 : 0 ≤ n := by omega
  have hn1 : n ≤ farI (gx l ((i : Int) - 1)) (gx l (i : Int)) := by omega
  by_cases c : n = 0 ∨ n = farI (gx l ((i : Int) - 1)) (gx l (i : Int)) ∨ n = Nof l / 2 - lenUpto l i ∨ n = Nof l / 2 - lenUpto l i + 1
  · rcases c with c | c | c | c
    · exact .inl c
    · exact .inr (.inl c)
    · exact .inr (.inr (.inl c))
    · exact .inr (.inr (.inr (.inl c)))
  · -- a step toward the middle
    have hstep : ∃ n', (n' = n + 1 ∨ n' = n - 1) ∧ 0 ≤ n' ∧ n' ≤ farI (gx l ((i : Int) - 1)) (gx l (i : Int)) ∧ fitK l w h walls (lenUpto l i + n') = false := by
      have hlm : lenUpto l i + farI (gx l ((i : Int) - 1)) (gx l (i : Int)) ≤ Nof l := by
        rw [← hnext]
        have := lenUpto_mono hL.path (i := i + 1) (by omega) l.length (by omega) (Nat.le_refl _)
        unfold Nof; omega
      have hl0 : 0 ≤ lenUpto l i := (lenUpto_bd (pathErr_zero.1 hL.path).1 i (by omega)).1
      by_cases cc : k < Nof l / 2
      · refine ⟨n + 1, .inl rfl, by omega, by omega, ?_⟩
        cases e : fitK l w h walls (lenUpto l i + (n + 1)) with
        | false => rfl
        | true =>
          have := hb _ (by omega) (by omega) e
          unfold lexle farN at this; omega
      · refine ⟨n - 1, .inr rfl, by omega, by omega, ?_⟩
        cases e : fitK l w h walls (lenUpto l i + (n - 1)) with
        | false => rfl
        | true =>
          have := hb _ (by omega) (by omega) e
          unfold lexle farN at this; omega
    obtain ⟨n', hn', n0, n1, hnf⟩ := hstep
    rw [hk] at hf
    unfold fitK at hf hnf
    rw [pt_eq hL.path i1 i2 hn0 hn1] at hf
    rw [pt_eq hL.path i1 i2 n0 n1] at hnf
    obtain ⟨s, hs, hw⟩ := stretch_way hL.path i1 i2
    unfold ptI at hf hnf
    rcases hw with ⟨e1, e2, e3⟩ | ⟨e1, e2, e3⟩
    · rw [e1] at hf hnf
      simp only [Int.mul_zero, Int.add_zero] at hf hnf
      have hm := edge_down hL (y := (gx l ((i : Int) - 1)).Y + n * s) (y' := (gx l ((i : Int) - 1)).Y + n' * s) (by rcases hs with rfl | rfl <;> rcases hn' with rfl | rfl <;> omega) hf hnf
      refine .inr (.inr (.inr (.inr (.inl ⟨by rw [e1], _, hm, ?_⟩))))
      rw [e1]
      simp only
      rcases hs with rfl | rfl <;> omega
    · rw [e1] at hf hnf
      simp only [Int.mul_zero, Int.add_zero] at hf hnf
      have hm := edge_across hL (x := (gx l ((i : Int) - 1)).X + n * s) (x' := (gx l ((i : Int) - 1)).X + n' * s) (by rcases hs with rfl | rfl <;> rcases hn' with rfl | rfl <;> omega) hf hnf
      refine .inr (.inr (.inr (.inr (.inr ⟨by rw [e1], _, hm, ?_⟩))))
      rw [e1]
      simp only
      rcases hs with rfl | rfl <;> omega
end

end Go.DB
