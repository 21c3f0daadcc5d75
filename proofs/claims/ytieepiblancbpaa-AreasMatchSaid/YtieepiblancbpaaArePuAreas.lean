/-
  Rings, and the least convex one: both sides agree, and it has all points.
-/
import Derived.Test.YtieepiblancbpaaArePuAreas3
set_option linter.unusedSimpArgs false
set_option linter.unusedVariables false
namespace Go.DB
open Go Go.RowKit Go.DB.Hull

/-! Places that follow each other round a ring. -/
def cyc (l : List Point) : List (Point × Point) := edg (l ++ l.take 1)
theorem cyc_len (l : List Point) : (cyc l).length = l.length := by
  unfold cyc
  rw [edg_len]
  cases l <;> simp
theorem next_ix {n i : Nat} (hi : i < n) (hn : n ≤ 100000) : (W ((i : Int) + 1)).tmod (n : Int) = if i + 1 = n then 0 else ((i + 1 : Nat) : Int) := by
  rw [Wk (by omega) (by omega), show (i : Int) + 1 = ((i + 1 : Nat) : Int) by omega, ← Int.ofNat_tmod]
  by_cases c : i + 1 = n
  · rw [if_pos c, c, Nat.mod_self]; rfl
  · rw [if_neg c, Nat.mod_eq_of_lt (by omega)]
theorem next_in {l : List Point} {i : Nat} (hi : i < l.length) (hn : l.length ≤ 100000) : inR l ((W ((i : Int) + 1)).tmod (l.length : Int)) := by
  rw [next_ix hi hn]
  split
  · exact ⟨by omega, by omega⟩
  · exact ⟨by omega, by omega⟩
theorem cyc_get {l : List Point} {i : Nat} (hi : i < l.length) (hn : l.length ≤ 100000) : (cyc l)[i]'(by rw [cyc_len]; exact hi) = (gx l (i : Int), gx l ((W ((i : Int) + 1)).tmod (l.length : Int))) := by
  unfold cyc
  rw [edg_get, gx_nat hi, next_ix hi hn]
  refine Prod.ext (by simp only; rw [List.getElem_append_left hi]) ?_
  simp only
  by_cases c : i + 1 = l.length
  · rw [if_pos c, List.getElem_append_right (by omega)]
    cases l with
    | nil => simp at hi
    | cons x r => simp [gx]
  · rw [if_neg c, gx_nat (by omega), List.getElem_append_left (by omega)]

/-! Areas. -/
theorem area_step : geom_Area_L1 = ref_AreaOf_L1 := by
  funext l i s
  unfold geom_Area_L1 ref_AreaOf_L1
  simp only [bnd_eq]
  rw [Int.mul_comm (gx l ((W (i + 1)).tmod (l.length : Int))).X (gx l i).Y]
theorem area_some {l : List Point} (hl : l.length ≤ 1000) : ∃ s, rfor (l.length : Int) (ref_AreaOf_L1 l) 0 = some s ∧ ref_AreaOf l = some (max s (W (-s))) := by
  obtain ⟨s, h1, _⟩ := rfor_inv (n := (l.length : Int)) (step := ref_AreaOf_L1 l) (s0 := 0) (fun _ _ => True) (by omega) trivial (fun i s hi _ => by
    have hi' : i < l.length := by omega
    suffices h : ∃ s', ref_AreaOf_L1 l i s = some s' from h.imp (fun _ h => ⟨h, trivial⟩)
    unfold ref_AreaOf_L1
    rw [need_of ⟨by omega, hi⟩, bnd_eq, need_of (by omega), need_of (next_in hi' (by omega)), bnd_eq, bnd_eq]
    exact ⟨_, rfl⟩)
  refine ⟨s, h1, ?_⟩
  unfold ref_AreaOf
  rw [h1]; rfl
theorem ring_eq (l : List Point) : geom_ring l = some (if ptsErr l = 0 then (if l.length < 3 then 2 else 0) else ptsErr l) := by
  unfold geom_ring
  rw [CheckPoints_eq, bind_sm]
  by_cases h : ptsErr l = 0
  · rw [if_pos h, h]
    by_cases c : l.length < 3
    · rw [if_pos c, decide_eq_true (p := (l.length : Int) < 3) (by omega)]; rfl
    · rw [if_neg c, decide_eq_false (p := (l.length : Int) < 3) (by omega)]; rfl
  · simp [h]

/-! Where a point is. -/
def onE (p : Point) (e : Point × Point) : Bool := decide (cr e.1 e.2 p = 0) && (decide (min e.1.X e.2.X ≤ p.X) && decide (p.X ≤ max e.1.X e.2.X) && decide (min e.1.Y e.2.Y ≤ p.Y) && decide (p.Y ≤ max e.1.Y e.2.Y))
theorem onE_iff {p : Point} {e : Point × Point} : onE p e = true ↔ cr e.1 e.2 p = 0 ∧ On e.1 e.2 p := by
  unfold onE On
  simp only [Bool.and_eq_true, decide_eq_true_eq]
  omega
def flip (p : Point) (e : Point × Point) : Bool := (decide (p.Y < e.1.Y) != decide (p.Y < e.2.Y)) && (if e.1.Y < e.2.Y then decide (cr e.2 e.1 p < 0) else decide (cr e.1 e.2 p < 0))
def ins (p : Point) : List (Point × Point) → Int → Option Int
  | [], s => some s
  | e :: r, s => if onE p e = true then none else ins p r (if flip p e = true then -s else s)
theorem ins_loop {O : Type} {es : List (Point × Point)} {p : Point} {step : Int → Int → Option (Res Int O)} {fin : Int → O} {o : O} (hl : es.length ≤ 100000)
    (hs : ∀ (i : Nat) (h : i < es.length) (s : Int), s = 1 ∨ s = -1 → step i s = some (if onE p es[i] = true then .ab o else .nx (if flip p es[i] = true then -s else s))) (s0 : Int) (h0 : s0 = 1 ∨ s0 = -1) :
    rforE (es.length : Int) step fin s0 = some (match ins p es s0 with | none => o | some s => fin s) := by
  rw [rforE_eq (by omega)]
  have key : ∀ (k i : Nat) (s : Int), (s = 1 ∨ s = -1) → i + k = es.length → rgoE step fin k (i : Int) s = some (match ins p (es.drop i) s with | none => o | some s => fin s) := by
    intro k
    induction k with
    | zero => intro i s _ hk; rw [List.drop_eq_nil_of_le (by omega)]; rfl
    | succ k ih =>
      intro i s h hk
      have hi : i < es.length := by omega
      rw [List.drop_eq_getElem_cons hi, rgoE, hs i hi s h, ins]
      by_cases c : onE p es[i] = true
      · rw [if_pos c, if_pos c]
      · rw [if_neg c, if_neg c]
        have := ih (i + 1) (if flip p es[i] = true then -s else s) (by split <;> omega) (by omega)
        simpa using this
  have := key es.length 0 s0 h0 (by omega)
  simpa using this
theorem on_geom {a b p : Point} (ha : okP a) (hb : okP b) (hp : okP p) : geom_on a b p = some (onE p (a, b)) := by
  unfold geom_on geom_between onE
  have ab := okP_sub hb ha
  have ap := okP_sub hp ha
  rw [(Wsub hb ha).1, (Wsub hb ha).2, (Wsub hp ha).1, (Wsub hp ha).2, Wmul ab.1 ap.2, Wmul ab.2 ap.1]
  have e : decide ((b.X - a.X) * (p.Y - a.Y) = (b.Y - a.Y) * (p.X - a.X)) = decide (cr a b p = 0) := by
    rw [decide_eq_decide]; unfold cr; omega
  rw [e]
  by_cases c : cr a b p = 0
  · simp [c]
  · simp [c]
theorem on_ref {a b p : Point} (ha : okP a) (hb : okP b) (hp : okP p) : ref_on a b p = some (onE p (a, b)) := by
  unfold ref_on onE
  have ab := okP_sub hb ha
  have ap := okP_sub hp ha
  rw [(Wsub hb ha).1, (Wsub hb ha).2, (Wsub hp ha).1, (Wsub hp ha).2, Wmul ab.1 ap.2, Wmul ab.2 ap.1]
  have e : decide ((b.X - a.X) * (p.Y - a.Y) = (b.Y - a.Y) * (p.X - a.X)) = decide (cr a b p = 0) := by
    rw [decide_eq_decide]; unfold cr; omega
  rw [e]
  simp only [In_eq]
  by_cases c : cr a b p = 0
  · simp only [c, decide_true, gd_true, bind_sm, Bool.true_and]
    by_cases c2 : min a.X b.X ≤ p.X ∧ p.X ≤ max a.X b.X
    · rw [decide_eq_true c2, decide_eq_true c2.1, decide_eq_true c2.2]
      simp only [gd_true, bind_sm, Bool.true_and]
      congr 1
      rw [Bool.eq_iff_iff]; simp
    · rw [decide_eq_false c2]
      simp only [gd_false, bind_sm, Bool.false_and]
      congr 1
      symm
      rw [Bool.eq_false_iff]
      intro h
      simp only [Bool.and_eq_true, decide_eq_true_eq] at h
      exact c2 ⟨h.1.1.1, h.1.1.2⟩
  · simp [c]
theorem W_neg {s : Int} (h : s = 1 ∨ s = -1) : W (-s) = -s := Wk (by omega) (by omega)
theorem inside_geom {l : List Point} {p : Point} (hl : l.length ≤ 1000) (hq : ∀ x ∈ l, okP x) (hp : okP p) : rforE (l.length : Int) (geom_Inside_L1 l p) (fun s => (Res.nx s : Res Int (Int × Int))) (-1) = some (match ins p (cyc l) (-1) with | none => Res.ab (0, 0) | some s => Res.nx s) := by
  have := ins_loop (es := cyc l) (p := p) (step := geom_Inside_L1 l p) (fin := fun s => (Res.nx s : Res Int (Int × Int))) (o := Res.ab (0, 0)) (by rw [cyc_len]; omega) (fun i h s hs => by
    rw [cyc_len] at h
    rw [cyc_get h (by omega)]
    have n1 := next_in h (by omega)
    have a1 := hq _ (gx_mem (l := l) (k := (i : Int)) ⟨by omega, by omega⟩)
    have a2 := hq _ (gx_mem n1)
    unfold geom_Inside_L1
    rw [need_of ⟨by omega, by omega⟩, bnd_eq, need_of (by omega), need_of n1, bnd_eq]
    generalize gx l ((W ((i : Int) + 1)).tmod (l.length : Int)) = b at *
    generalize gx l (i : Int) = a at *
    rw [on_geom a1 a2 hp, bind_sm]
    by_cases c : onE p (a, b) = true
    · rw [if_pos c, c]; rfl
    · rw [if_neg c, Bool.eq_false_iff.2 c, cond_false]
      unfold flip
      simp only
      by_cases c1 : decide (p.Y < a.Y) = decide (p.Y < b.Y)
      · simp [c1]
      · rw [decide_eq_false c1, cond_false]
        have c1' : (decide (p.Y < a.Y) != decide (p.Y < b.Y)) = true := by simpa using c1
        rw [c1', Bool.true_and]
        have pa := okP_sub hp a1
        have pb := okP_sub hp a2
        have ab := okP_sub a2 a1
        have ba := okP_sub a1 a2
        by_cases c2 : b.Y < a.Y
        · rw [decide_eq_true c2, cond_true, bind_sm]
          simp only
          rw [(Wsub hp a2).1, (Wsub a1 a2).2, (Wsub a1 a2).1, (Wsub hp a2).2, Wmul pb.1 ba.2, Wmul ba.1 pb.2, if_neg (show ¬ a.Y < b.Y by omega)]
          have e : ((p.X - b.X) * (a.Y - b.Y) < (a.X - b.X) * (p.Y - b.Y)) ↔ cr a b p < 0 := by
            have : cr a b p = (p.X - b.X) * (a.Y - b.Y) - (a.X - b.X) * (p.Y - b.Y) := by unfold cr; grind
            omega
          by_cases c3 : cr a b p < 0
          · rw [decide_eq_true (e.2 c3), cond_true, bnd_eq, decide_eq_true c3, if_pos rfl, W_neg hs]
          · rw [decide_eq_false (fun h => c3 (e.1 h)), cond_false, decide_eq_false c3, if_neg (by simp)]
        · rw [decide_eq_false c2, cond_false, bind_sm]
          simp only
          have c4 : a.Y < b.Y := by
            rcases Int.lt_trichotomy a.Y b.Y with h | h | h
            · exact h
            · rw [h] at c1; exact (c1 rfl).elim
            · exact (c2 h).elim
          rw [(Wsub hp a1).1, (Wsub a2 a1).2, (Wsub a2 a1).1, (Wsub hp a1).2, Wmul pa.1 ab.2, Wmul ab.1 pa.2, if_pos c4]
          have e : ((p.X - a.X) * (b.Y - a.Y) < (b.X - a.X) * (p.Y - a.Y)) ↔ cr b a p < 0 := by
            have : cr b a p = (p.X - a.X) * (b.Y - a.Y) - (b.X - a.X) * (p.Y - a.Y) := by unfold cr; grind
            omega
          by_cases c3 : cr b a p < 0
          · rw [decide_eq_true (e.2 c3), cond_true, bnd_eq, decide_eq_true c3, if_pos rfl, W_neg hs]
          · rw [decide_eq_false (fun h => c3 (e.1 h)), cond_false, decide_eq_false c3, if_neg (by simp)]) (-1) (.inr rfl)
  rw [cyc_len] at this
  exact this
theorem InsideOf_eq {l : List Point} {p : Point} (hl : l.length ≤ 2000) (hq : ∀ x ∈ l, okP x) (hp : okP p) : ref_InsideOf l p = some (match ins p (cyc l) (-1) with | none => 0 | some s => s) := by
  have := ins_loop (es := cyc l) (p := p) (step := ref_InsideOf_L1 l p) (fin := fun s => (Res.nx s : Res Int Int)) (o := Res.ab 0) (by rw [cyc_len]; omega) (fun i h s hs => by
    rw [cyc_len] at h
    rw [cyc_get h (by omega)]
    have n1 := next_in h (by omega)
    have a1 := hq _ (gx_mem (l := l) (k := (i : Int)) ⟨by omega, by omega⟩)
    have a2 := hq _ (gx_mem n1)
    unfold ref_InsideOf_L1
    rw [need_of ⟨by omega, by omega⟩, bnd_eq, need_of (by omega), need_of n1, bnd_eq]
    generalize gx l ((W ((i : Int) + 1)).tmod (l.length : Int)) = b at *
    generalize gx l (i : Int) = a at *
    rw [on_ref a1 a2 hp, bind_sm]
    by_cases c : onE p (a, b) = true
    · rw [if_pos c, c]; rfl
    · rw [if_neg c, Bool.eq_false_iff.2 c, cond_false]
      unfold flip
      simp only
      by_cases c1 : decide (p.Y < a.Y) = decide (p.Y < b.Y)
      · simp [c1]
      · rw [decide_eq_false c1, Bool.not_false, cond_true]
        have c1' : (decide (p.Y < a.Y) != decide (p.Y < b.Y)) = true := by simpa using c1
        rw [c1', Bool.true_and]
        have pa := okP_sub hp a1
        have pb := okP_sub hp a2
        have ab := okP_sub a2 a1
        have ba := okP_sub a1 a2
        by_cases c2 : a.Y < b.Y
        · rw [decide_eq_true c2, cond_true, bind_sm]
          simp only
          rw [(Wsub hp a2).1, (Wsub a1 a2).2, (Wsub a1 a2).1, (Wsub hp a2).2, Wmul pb.1 ba.2, Wmul ba.1 pb.2, if_pos c2]
          have e : ((a.X - b.X) * (p.Y - b.Y) < (p.X - b.X) * (a.Y - b.Y)) ↔ cr b a p < 0 := by
            have : cr b a p = (a.X - b.X) * (p.Y - b.Y) - (p.X - b.X) * (a.Y - b.Y) := by unfold cr; grind
            omega
          by_cases c3 : cr b a p < 0
          · rw [decide_eq_true (e.2 c3), cond_true, bnd_eq, decide_eq_true c3, if_pos rfl, W_neg hs]
          · rw [decide_eq_false (fun h => c3 (e.1 h)), cond_false, decide_eq_false c3, if_neg (by simp)]
        · rw [decide_eq_false c2, cond_false, bind_sm]
          simp only
          rw [(Wsub hp a1).1, (Wsub a2 a1).2, (Wsub a2 a1).1, (Wsub hp a1).2, Wmul pa.1 ab.2, Wmul ab.1 pa.2, if_neg c2]
          have e : ((b.X - a.X) * (p.Y - a.Y) < (p.X - a.X) * (b.Y - a.Y)) ↔ cr a b p < 0 := by
            have : cr a b p = (b.X - a.X) * (p.Y - a.Y) - (p.X - a.X) * (b.Y - a.Y) := by unfold cr; grind
            omega
          by_cases c3 : cr a b p < 0
          · rw [decide_eq_true (e.2 c3), cond_true, bnd_eq, decide_eq_true c3, if_pos rfl, W_neg hs]
          · rw [decide_eq_false (fun h => c3 (e.1 h)), cond_false, decide_eq_false c3, if_neg (by simp)]) (-1) (.inr rfl)
  rw [cyc_len] at this
  unfold ref_InsideOf
  rw [this]
  cases ins p (cyc l) (-1) <;> rfl

/-! All points are inside. -/
theorem ins_even {p : Point} : ∀ {es : List (Point × Point)} {s : Int}, (∀ e ∈ es, onE p e = false) → ins p es s = some (if (es.filter (flip p)).length % 2 = 0 then s else -s)
  | [], s, _ => by simp [ins]
  | e :: r, s, h => by
    rw [ins, if_neg (by rw [h e (by simp)]; simp), ins_even (fun e he => h e (by simp [he]))]
    by_cases c : flip p e = true
    · rw [if_pos c, List.filter_cons_of_pos c, List.length_cons]
      congr 1
      by_cases c2 : (r.filter (flip p)).length % 2 = 0
      · rw [if_pos c2, if_neg (by omega)]
      · rw [if_neg c2, if_pos (by omega)]; omega
    · rw [if_neg c, List.filter_cons_of_neg c]
theorem ins_on {p : Point} : ∀ {es : List (Point × Point)} {s : Int}, (∃ e ∈ es, onE p e = true) → ins p es s = none
  | [], s, h => by obtain ⟨e, he, _⟩ := h; cases he
  | e :: r, s, h => by
    rw [ins]
    by_cases c : onE p e = true
    · rw [if_pos c]
    · rw [if_neg c]
      obtain ⟨e', he, h'⟩ := h
      rcases List.mem_cons.1 he with rfl | he
      · exact (c h').elim
      · exact ins_on ⟨e', he, h'⟩
theorem inside_hull {l L : List Point} (h : ptsErr l = 0) (hr : Ris 1 L) (hm : ∀ x, x ∈ L ↔ x ∈ l) (h2L : 2 ≤ L.length) (hL : L.length ≤ 1000) {p : Point} (hp : p ∈ l) : ∃ n, ref_InsideOf (hull L) p = some n ∧ 0 ≤ n := by
  obtain ⟨hl, hq⟩ := ptsErr_zero.1 h
  obtain ⟨m, M, v, w, k1, k2, k3, k4, k5⟩ := hull_ok hr h2L
  have hlen : (hull L).length ≤ 2000 := by
    have a1 := there_len (l := L)
    have a2 := there_len (l := L.reverse)
    rw [List.length_reverse] at a2
    unfold hull
    rw [List.length_append, List.length_dropLast, List.length_dropLast]; omega
  rw [InsideOf_eq hlen (fun x hx => hq x ((hm x).1 (k5 x hx))) (hq p hp)]
  have ec : cyc (hull L) = edg (hull L ++ [m]) := by unfold cyc; rw [k1]; rfl
  have e0 : hull L ++ [m] = (m :: v) ++ M :: (w ++ [m]) := by rw [k1]; simp
  have hE : ∀ e ∈ cyc (hull L), E l e.1 e.2 := by
    rw [ec, e0]
    refine edg_cons (Cons.join ?_ ?_)
    · exact k3.mono (fun a b h => .inl (sup_same (fun x hx => (hm x).2 hx) h))
    · exact k4.mono (fun a b h => .inr (sup_same (fun x hx => (hm x).2 hx) h))
  by_cases c : ∃ e ∈ cyc (hull L), onE p e = true
  · rw [ins_on c]; exact ⟨0, rfl, Int.le_refl _⟩
  · have hn : ∀ e ∈ cyc (hull L), onE p e = false := fun e he => Bool.eq_false_iff.2 (fun h => c ⟨e, he, h⟩)
    have hs : ∀ e ∈ cyc (hull L), 0 < cr e.1 e.2 p := by
      intro e he
      have a1 := E_left (hE e he) hp
      rcases Int.lt_or_le 0 (cr e.1 e.2 p) with a2 | a2
      · exact a2
      · have a3 : cr e.1 e.2 p = 0 := by omega
        have := hn e he
        rw [onE_iff.2 ⟨a3, a1.2 a3⟩] at this; cases this
    rw [ins_even hn]
    have hf : (cyc (hull L)).filter (flip p) = (cyc (hull L)).filter (up p) := by
      refine List.filter_congr fun e he => ?_
      have := hs e he
      have e2 : cr e.2 e.1 p = - cr e.1 e.2 p := by unfold cr; grind
      unfold flip up
      rw [Bool.eq_iff_iff]
      simp only [Bool.and_eq_true, decide_eq_true_eq, bne_iff_ne, ne_eq, decide_eq_decide]
      by_cases c1 : e.1.Y < e.2.Y
      · rw [if_pos c1, decide_eq_true_eq]; omega
      · rw [if_neg c1, decide_eq_true_eq]; omega
    have one := ups_one hr h2L k2 ((hm p).2 hp) (by rw [← ec]; exact hs)
    rw [hf, ec, one]
    exact ⟨1, rfl, by omega⟩

theorem AreasMatch_true (l : List Point) (p : Point) (hl : fits l) : law_AreasMatch l p = some true := by
  have hll : (l.length : Int) ≤ 9223372036854775807 := by have := hl.1; omega
  have pz : ptErr p = 0 ∨ ptErr p ≠ 0 := by omega
  have area : geom_Area l = some (if ptsErr l = 0 ∧ 3 ≤ l.length then ((ref_AreaOf l).getD 0, 0) else (0, if ptsErr l = 0 then 2 else ptsErr l)) ∧ (ptsErr l = 0 → ref_AreaOf l = some ((ref_AreaOf l).getD 0)) := by
    unfold geom_Area
    rw [ring_eq, bind_sm]
    by_cases h : ptsErr l = 0
    · have hl1 := (ptsErr_zero.1 h).1
      obtain ⟨s, h1, h2⟩ := area_some hl1
      rw [if_pos h]
      refine ⟨?_, fun _ => by rw [h2]; rfl⟩
      by_cases c : l.length < 3
      · simp [c, h]
      · rw [if_neg c, if_pos ⟨h, by omega⟩, area_step, h1, h2]; rfl
    · refine ⟨?_, fun h' => (h h').elim⟩
      simp [h]
  have ins_ : geom_Inside l p = some (if ptsErr l = 0 ∧ ptErr p = 0 ∧ 3 ≤ l.length then ((ref_InsideOf l p).getD 0, 0) else (0, if ptsErr l = 0 then (if ptErr p = 0 then 2 else ptErr p) else ptsErr l)) ∧ (ptsErr l = 0 → ptErr p = 0 → ref_InsideOf l p = some ((ref_InsideOf l p).getD 0)) := by
    unfold geom_Inside
    rw [CheckPoints_eq, CheckPoint_eq, bind_sm, bind_sm]
    by_cases h : ptsErr l = 0
    · by_cases h' : ptErr p = 0
      · obtain ⟨hl1, hq⟩ := ptsErr_zero.1 h
        have hr := InsideOf_eq (l := l) (p := p) (by omega) hq (ptErr_zero.1 h')
        refine ⟨?_, fun _ _ => by rw [hr]; rfl⟩
        rw [h, h']
        by_cases c : l.length < 3
        · rw [decide_eq_true (p := (l.length : Int) < 3) (by omega), if_neg (fun e => by omega)]; rfl
        · rw [decide_eq_false (p := (l.length : Int) < 3) (by omega), if_pos ⟨rfl, rfl, by omega⟩, inside_geom hl1 hq (ptErr_zero.1 h'), hr]
          cases ins p (cyc l) (-1) <;> rfl
      · refine ⟨?_, fun _ e => (h' e).elim⟩
        simp [h, h']
    · refine ⟨?_, fun e => (h e).elim⟩
      simp [h]
  have i1 : law_is_int (if ptsErr l = 0 ∧ 3 ≤ l.length then ((ref_AreaOf l).getD 0, 0) else (0, if ptsErr l = 0 then 2 else ptsErr l) : Int × Int).1 (if ptsErr l = 0 ∧ 3 ≤ l.length then ((ref_AreaOf l).getD 0, 0) else (0, if ptsErr l = 0 then 2 else ptsErr l) : Int × Int).2
      (firstErr [ptsErr l, if decide ((l.length : Int) < 3) = true then 2 else 0]) (law_AreasMatch_1 l) = some true := by
    unfold law_is_int law_AreasMatch_1
    simp only [firstErr_cons, firstErr_nil, decide_eq_true_eq]
    by_cases h : ptsErr l = 0
    · by_cases c : 3 ≤ l.length
      · have c' : ¬ (l.length : Int) < 3 := by omega
        have e := area.2 h
        generalize (ref_AreaOf l).getD 0 = v at e ⊢
        simp [h, c, c', e]
      · have c' : (l.length : Int) < 3 := by omega
        simp [h, c, c']
    · simp [h]
  have i2 : law_is_int (if ptsErr l = 0 ∧ ptErr p = 0 ∧ 3 ≤ l.length then ((ref_InsideOf l p).getD 0, 0) else (0, if ptsErr l = 0 then (if ptErr p = 0 then 2 else ptErr p) else ptsErr l) : Int × Int).1
      (if ptsErr l = 0 ∧ ptErr p = 0 ∧ 3 ≤ l.length then ((ref_InsideOf l p).getD 0, 0) else (0, if ptsErr l = 0 then (if ptErr p = 0 then 2 else ptErr p) else ptsErr l) : Int × Int).2
      (firstErr [ptsErr l, ptErr p, if decide ((l.length : Int) < 3) = true then 2 else 0]) (law_AreasMatch_2 l p) = some true := by
    unfold law_is_int law_AreasMatch_2
    simp only [firstErr_cons, firstErr_nil, decide_eq_true_eq]
    by_cases h : ptsErr l = 0
    · by_cases h' : ptErr p = 0
      · by_cases c : 3 ≤ l.length
        · have c' : ¬ (l.length : Int) < 3 := by omega
          have e := ins_.2 h h'
          generalize (ref_InsideOf l p).getD 0 = v at e ⊢
          simp [h, h', c, c', e]
        · have c' : (l.length : Int) < 3 := by omega
          simp [h, h', c, c']
      · simp [h, h']
    · simp [h]
  unfold law_AreasMatch
  simp only [PointsError_eq, PointError_eq, When_eq, geoms_eq, bind_sm, area.1, ins_.1, Bool.not_true, Bool.not_false, gd_true, First_eq (l := [_, _]) (by simp), First_eq (l := [_, _, _]) (by simp), i1, i2, Bool.false_or, Bool.or_false, cond_false]
  by_cases h : ptsErr l = 0
  · by_cases hne : l = []
    · subst hne
      have : geom_Convex [] = some ([], 9) := by
        unfold geom_Convex
        rw [CheckPoints_eq, h]; rfl
      rw [this]
      simp [h, law_lists_Point]
    · obtain ⟨L, g1, g2, g3, g4⟩ := Convex_eq h hne
      have g5 := ConvexOf_eq h hne g1 g2 g3
      obtain ⟨hl1, hq⟩ := ptsErr_zero.1 h
      have l0 : decide ((l.length : Int) = 0) = false := decide_eq_false (by cases l with
        | nil => exact (hne rfl).elim
        | cons x r => simp; omega)
      generalize hC : (if L.length = 1 then L else hull L) = C at *
      have hCl : C.length ≤ 2000 := by
        subst hC
        split
        · omega
        · have a1 := there_len (l := L)
          have a2 := there_len (l := L.reverse)
          rw [List.length_reverse] at a2
          unfold hull
          rw [List.length_append, List.length_dropLast, List.length_dropLast]; omega
      have q3 : law_lists_Point C 0 0 (law_AreasMatch_3 l) = some true := by
        unfold law_lists_Point law_AreasMatch_3
        rw [g5]
        simp only [bind_sm, decide_true, Bool.not_true, cond_false, gd_true]
        rw [Equal_Point_eq _ _ (by omega)]; simp
      have q4 : law_lists_Point C 0 0 (law_AreasMatch_4 l) = some true := q3
      rw [g4, h, l0]
      simp only [bind_sm, firstErr_cons, firstErr_nil, if_true, if_false, q3, q4, Bool.false_eq_true, decide_true, Bool.not_true, Bool.false_or]
      by_cases c : C.length < 3
      · rw [decide_eq_true (p := (C.length : Int) < 3) (by omega)]; rfl
      · rw [decide_eq_false (p := (C.length : Int) < 3) (by omega), cond_false]
        have h2L : 2 ≤ L.length := by
          rcases Nat.lt_or_ge L.length 2 with h' | h'
          · exfalso
            have hne' : L.length ≠ 0 := fun e => by
              cases l with
              | nil => exact hne rfl
              | cons x r => have := (g2 x).2 (by simp); rw [List.length_eq_zero_iff.1 e] at this; cases this
            rw [if_pos (by omega)] at hC
            subst hC; omega
          · exact h'
        rw [if_neg (by omega)] at hC
        subst hC
        rw [ContainsFunc_Point_eq l _ (fun _ => false) (by omega) (fun x hx => by
          obtain ⟨n, n1, n2⟩ := inside_hull h g1 g2 h2L g3 hx
          unfold law_AreasMatch_5
          rw [n1, bind_sm, decide_eq_false (by omega)])]
        simp
  · have : geom_Convex l = some ([], ptsErr l) := by
      unfold geom_Convex
      rw [CheckPoints_eq]
      simp [h]
    rw [this]
    simp [h, law_lists_Point]
end Go.DB
