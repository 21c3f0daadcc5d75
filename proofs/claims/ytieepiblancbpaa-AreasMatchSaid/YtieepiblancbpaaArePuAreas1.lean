/-
  The ring of the program's Convex: the points in order, two chains.
-/
import Derived.Test.YtieepiblancbpaaArePuGeo
import Derived.Test.YtieepiblancbpaaArePuHull
import Derived.Test.YtieepiblancbpaaArePuCompP
set_option linter.unusedSimpArgs false
set_option linter.unusedVariables false
namespace Go.DB
open Go Go.RowKit Go.DB.Hull

theorem snoc_ind {α : Type} {P : List α → Prop} (h0 : P []) (h1 : ∀ l a, P l → P (l ++ [a])) (l : List α) : P l := by
  have : ∀ m : List α, P m.reverse := by
    intro m
    induction m with
    | nil => exact h0
    | cons x m ih => rw [List.reverse_cons]; exact h1 _ _ ih
  have := this l.reverse
  rwa [List.reverse_reverse] at this
theorem mulb {x y : Int} (h1 : -2000000 ≤ x) (h2 : x ≤ 2000000) (h3 : -2000000 ≤ y) (h4 : y ≤ 2000000) : -4000000000000 ≤ x * y ∧ x * y ≤ 4000000000000 := by
  have hx : x.natAbs ≤ 2000000 := by omega
  have hy : y.natAbs ≤ 2000000 := by omega
  have := Nat.mul_le_mul hx hy
  rw [← Int.natAbs_mul] at this
  omega
theorem okP_sub {a b : Point} (ha : okP a) (hb : okP b) : (-2000000 ≤ a.X - b.X ∧ a.X - b.X ≤ 2000000) ∧ -2000000 ≤ a.Y - b.Y ∧ a.Y - b.Y ≤ 2000000 := by unfold okP at *; omega
theorem Wsub {a b : Point} (ha : okP a) (hb : okP b) : W (a.X - b.X) = a.X - b.X ∧ W (a.Y - b.Y) = a.Y - b.Y := by
  have := okP_sub ha hb
  exact ⟨Wk (by omega) (by omega), Wk (by omega) (by omega)⟩
theorem Wmul {x y : Int} (h1 : -2000000 ≤ x ∧ x ≤ 2000000) (h2 : -2000000 ≤ y ∧ y ≤ 2000000) : W (x * y) = x * y := by
  have := mulb h1.1 h1.2 h2.1 h2.2
  exact Wk (by omega) (by omega)
theorem cr_eq {a b c : Point} : (b.X - a.X) * (c.Y - b.Y) - (b.Y - a.Y) * (c.X - b.X) = cr a b c := by unfold cr; grind
theorem bend_eq {a b c : Point} (ha : okP a) (hb : okP b) (hc : okP c) : geom_bend a b c = some (min (max (cr a b c) (-1)) 1) := by
  unfold geom_bend
  have ab := okP_sub hb ha
  have bc := okP_sub hc hb
  rw [(Wsub hb ha).1, (Wsub hb ha).2, (Wsub hc hb).1, (Wsub hc hb).2, Wmul ab.1 bc.2, Wmul ab.2 bc.1]
  have m1 := mulb ab.1.1 ab.1.2 bc.2.1 bc.2.2
  have m2 := mulb ab.2.1 ab.2.2 bc.1.1 bc.1.2
  rw [Wk (by omega) (by omega), cr_eq, gsign_eq]; rfl
theorem side_eq {a b c : Point} (ha : okP a) (hb : okP b) (hc : okP c) : ref_side a b c = some (min (max (cr a b c) (-1)) 1) := by
  unfold ref_side
  have ab := okP_sub hb ha
  have ac := okP_sub hc ha
  rw [(Wsub hb ha).1, (Wsub hb ha).2, (Wsub hc ha).1, (Wsub hc ha).2, Wmul ab.1 ac.2, Wmul ab.2 ac.1]
  have m1 := mulb ab.1.1 ab.1.2 ac.2.1 ac.2.2
  have m2 := mulb ab.2.1 ab.2.2 ac.1.1 ac.1.2
  rw [Wk (by omega) (by omega), Sign_eq]; rfl

/-! Half a ring. -/
theorem inner_eq {q : Point} (hq : okP q) : ∀ (st : List Point), (∀ x ∈ st, okP x) → st.length ≤ 100000 → loop (geom_Convex_2_L2 q) st.reverse = some (pop q st).reverse
  | [], _, _ => by
    rw [loop_eq]
    have : geom_Convex_2_L2 q ([] : List Point).reverse = some (Step.done []) := by
      unfold geom_Convex_2_L2
      have d : decide ((2 : Int) ≤ ((([] : List Point).reverse).length : Int)) = false := decide_eq_false (by simp)
      rw [d, need_of (fun h => by cases h), need_of (fun h => by cases h)]; rfl
    rw [this]; rfl
  | [a], _, _ => by
    rw [loop_eq]
    have : geom_Convex_2_L2 q ([a] : List Point).reverse = some (Step.done [a]) := by
      unfold geom_Convex_2_L2
      have d : decide ((2 : Int) ≤ ((([a] : List Point).reverse).length : Int)) = false := decide_eq_false (by simp)
      rw [d, need_of (fun h => by cases h), need_of (fun h => by cases h)]; rfl
    rw [this]; rfl
  | b :: a :: r, h, hl => by
    have hb := h b (by simp)
    have ha := h a (by simp)
    have e : (b :: a :: r).reverse = r.reverse ++ [a, b] := by simp
    simp only [List.length_cons] at hl
    have ga : gx (b :: a :: r).reverse (r.length : Int) = a := by
      rw [e, gx_nat (by simp)]; simp
    have gb : gx (b :: a :: r).reverse ((r.length : Int) + 1) = b := by
      rw [e, show ((r.length : Int) + 1) = ((r.length + 1 : Nat) : Int) by omega, gx_nat (by simp)]; simp [List.getElem_append_right]
    have hlen : ((b :: a :: r).reverse.length : Int) = (r.length : Int) + 2 := by simp
    rw [loop_eq]
    have step : geom_Convex_2_L2 q (b :: a :: r).reverse = some (if cr a b q ≤ 0 then Step.again (a :: r).reverse else Step.done (b :: a :: r).reverse) := by
      unfold geom_Convex_2_L2
      rw [hlen]
      rw [Wk (n := (r.length : Int) + 2 - 2) (by omega) (by omega), Wk (n := (r.length : Int) + 2 - 1) (by omega) (by omega)]
      rw [show (r.length : Int) + 2 - 2 = r.length by omega, show (r.length : Int) + 2 - 1 = r.length + 1 by omega]
      rw [need_of (fun _ => ⟨by omega, by omega⟩), need_of (fun _ => ⟨by omega, by omega⟩), ga, gb, bend_eq ha hb hq]
      have d : decide ((2 : Int) ≤ (r.length : Int) + 2) = true := decide_eq_true (by omega)
      simp only [d, gd_true, bind_sm, Bool.true_and]
      by_cases c : cr a b q ≤ 0
      · rw [decide_eq_true (by omega), cond_true, if_pos c, need_of ⟨by omega, by omega, by omega⟩]
        have : seg (b :: a :: r).reverse 0 ((r.length : Int) + 1) = (a :: r).reverse := by
          unfold seg
          rw [e, show ((r.length : Int) + 1).toNat = r.length + 1 by omega, show r.reverse ++ [a, b] = (r.reverse ++ [a]) ++ [b] by simp, List.take_left' (by simp), List.reverse_cons]; rfl
        rw [this]
      · rw [decide_eq_false (by omega), cond_false, if_neg c]
    rw [step]
    unfold pop
    by_cases c : cr a b q ≤ 0
    · rw [if_pos c, if_pos c]
      exact inner_eq hq (a :: r) (fun x hx => h x (List.mem_cons_of_mem _ hx)) (by simp only [List.length_cons]; omega)
    · rw [if_neg c, if_neg c]
theorem pop_len {q : Point} : ∀ (st : List Point), (pop q st).length ≤ st.length
  | [] => Nat.le_refl _
  | [_] => Nat.le_refl _
  | b :: a :: r => by
    unfold pop
    split
    · exact Nat.le_trans (pop_len (a :: r)) (by simp)
    · exact Nat.le_refl _
theorem half_snoc (l : List Point) (p : Point) : half (l ++ [p]) = p :: pop p (half l) := by unfold half; rw [List.foldl_append]; rfl
theorem half_len (l : List Point) : (half l).length ≤ l.length := by
  induction l using snoc_ind with
  | h0 => exact Nat.le_refl _
  | h1 l p ih =>
    rw [half_snoc]
    have := pop_len (q := p) (half l)
    simp only [List.length_cons, List.length_append, List.length_nil]; omega
theorem half_mem (l : List Point) : ∀ x ∈ half l, x ∈ l := by
  induction l using snoc_ind with
  | h0 => intro x hx; exact hx
  | h1 l p ih =>
    intro x hx
    rw [half_snoc] at hx
    rcases List.mem_cons.1 hx with rfl | hx
    · simp
    · exact List.mem_append.2 (.inl (ih x (pop_mem hx)))
theorem half_eq {l : List Point} (hl : l.length ≤ 1000) (hne : l ≠ []) (h : ∀ x ∈ l, okP x) : geom_Convex_2 l = some (there l).dropLast := by
  unfold geom_Convex_2
  obtain ⟨s, h1, h2⟩ := rfor_inv (n := (l.length : Int)) (step := geom_Convex_2_L1 l) (s0 := []) (fun i s => s = (half (l.take i)).reverse) (by omega) (by simp [half]) (fun i s hi hI => by
    have hi' : i < l.length := by omega
    have hlen := half_len (l.take i)
    rw [List.length_take] at hlen
    refine ⟨_, ?_, rfl⟩
    unfold geom_Convex_2_L1
    rw [need_of ⟨by omega, by omega⟩, bnd_eq, gx_nat hi', hI, inner_eq (h _ (List.getElem_mem hi')) _ (fun x hx => h x (List.mem_of_mem_take (half_mem _ x hx))) (by omega)]
    have hp := pop_len (q := l[i]) (half (l.take i))
    rw [bind_sm, need_of (by rw [room_iff]; simp; omega)]
    congr 1
    rw [List.take_succ_eq_append_getElem hi', half_snoc]
    simp)
  rw [h1, bind_sm]
  have e : s = there l := by
    rw [h2]
    unfold there
    congr 2
    rw [show (l.length : Int).toNat = l.length by omega, List.take_length]
  subst e
  have hn : (there l).length ≠ 0 := by
    obtain ⟨l', x, rfl⟩ := List.eq_nil_or_concat l |>.resolve_left hne
    unfold there
    rw [List.concat_eq_append, List.length_reverse, half_snoc]; simp
  have hle : (there l).length ≤ l.length := by unfold there; rw [List.length_reverse]; exact half_len l
  rw [Wk (by omega) (by omega), need_of ⟨by omega, by omega, by omega⟩, bnd_eq]
  congr 1
  unfold seg
  rw [List.dropLast_eq_take, show (((there l).length : Int) - 1).toNat = (there l).length - 1 by omega]; rfl
end Go.DB
