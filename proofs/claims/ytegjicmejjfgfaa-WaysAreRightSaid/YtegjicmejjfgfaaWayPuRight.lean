/-
  Paths that are right for tasks: the law in plain words.
-/
import Derived.Test.YtegjicmejjfgfaaWayPuGrid
set_option linter.unusedSimpArgs false
set_option linter.unusedVariables false
namespace Go.DB
open Go Go.RowKit

def kept (l : List Point) (i : Nat) : Bool := decide (i = 0) || decide (l.length ≤ i + 1) || !decide (wayI (gx l ((i : Int) - 1)) (gx l i) = wayI (gx l i) (gx l ((i : Int) + 1)))
def tidyUpto (l : List Point) : Nat → List Point
  | 0 => []
  | i + 1 => if kept l i = true then tidyUpto l i ++ [gx l (i : Int)] else tidyUpto l i
theorem tidyUpto_len (l : List Point) : ∀ i : Nat, (tidyUpto l i).length ≤ i
  | 0 => by simp [tidyUpto]
  | i + 1 => by
    have := tidyUpto_len l i
    unfold tidyUpto
    split <;> simp <;> omega
theorem TidyOf_eq {l : List Point} (h : pathErr l = 0) : ref_TidyOf l = some (tidyUpto l l.length) := by
  obtain ⟨h1, h2⟩ := pathErr_zero.1 h
  have hl := (ptsErr_zero.1 h1).1
  unfold ref_TidyOf
  obtain ⟨s, hs, hI⟩ := rfor_inv (n := (l.length : Int)) (step := ref_TidyOf_L1 l) (s0 := ([] : List Point)) (fun i s => s = tidyUpto l i) (by omega) rfl (fun i s hi hI => by
    subst hI
    have ht := tidyUpto_len l i
    have hi' : i < l.length := by omega
    refine ⟨tidyUpto l (i + 1), ?_, rfl⟩
    unfold ref_TidyOf_L1
    have e3 : W ((i : Int) + 1) = (i : Int) + 1 := Wk (by omega) (by omega)
    have e2 : W ((i : Int) - 1) = (i : Int) - 1 := Wk (by omega) (by omega)
    rw [need_of ⟨by omega, hi⟩]
    simp only [bnd_eq, e2, e3]
    have hroom : room ((tidyUpto l i).length + [gx l (i : Int)].length) := by rw [room_iff]; simp; omega
    by_cases c1 : 0 < i
    · by_cases c2 : i + 1 < l.length
      · have g1 : inR l ((i : Int) - 1) := ⟨by omega, by omega⟩
        have g2 : inR l (i : Int) := ⟨by omega, by omega⟩
        have g3 : inR l ((i : Int) + 1) := ⟨by omega, by omega⟩
        have d1 : decide ((0 : Int) < (i : Int)) = true := by simp; omega
        have d2 : decide ((i : Int) + 1 < (l.length : Int)) = true := by simp; omega
        simp only [d1, d2, Bool.and_self, gd_true]
        rw [need_of (fun _ => g1), way_eq (okP_at h1 g1) (okP_at h1 g2)]
        simp only [bind_sm]
        rw [need_of (fun _ => g3), way_eq (okP_at h1 g2) (okP_at h1 g3)]
        simp only [bind_sm, Bool.true_and]
        rw [need_of hroom]
        have hk : kept l i = !decide (wayI (gx l ((i : Int) - 1)) (gx l i) = wayI (gx l i) (gx l ((i : Int) + 1))) := by
          unfold kept
          have c1 : ¬ i = 0 := by omega
          have c2 : ¬ l.length ≤ i + 1 := by omega
          simp [c1, c2]
        simp only [tidyUpto, hk]
        by_cases hw : wayI (gx l ((i : Int) - 1)) (gx l i) = wayI (gx l i) (gx l ((i : Int) + 1)) <;> simp [hw]
      · have d2 : decide ((i : Int) + 1 < (l.length : Int)) = false := by simp; omega
        have hk : kept l i = true := by
          have : l.length ≤ i + 1 := by omega
          unfold kept
          simp [this]
        simp only [d2, Bool.and_false, gd_false, bind_sm, Bool.false_and, cond_false]
        rw [need_of (by simp), need_of (by simp), need_of hroom]
        simp [tidyUpto, hk]
    · have d1 : decide ((0 : Int) < (i : Int)) = false := by simp; omega
      have hk : kept l i = true := by
        have : i = 0 := by omega
        unfold kept
        simp [this]
      simp only [d1, Bool.false_and, gd_false, bind_sm, cond_false]
      rw [need_of (by simp), need_of (by simp), need_of hroom]
      simp [tidyUpto, hk])
  rw [hs]
  simp only [Int.toNat_natCast] at hI
  rw [hI]; rfl

/-- At i a path goes on or turns back. -/
def flagAt (l : List Point) (i : Nat) : Prop := decide ((gx l ((i : Int) - 1)).X = (gx l (i : Int)).X) = decide ((gx l (i : Int)).X = (gx l ((i : Int) + 1)).X)
instance (l : List Point) : DecidablePred (flagAt l) := fun i => by unfold flagAt; infer_instance
def oppP (p : Point) : Point := ⟨-p.X, -p.Y⟩
theorem turn_iff {p q r : Point} (h1 : ¬ decide (q.X = p.X) = decide (q.Y = p.Y)) (h2 : ¬ decide (r.X = q.X) = decide (r.Y = q.Y)) : (wayI p q = wayI q r ∨ wayI p q = oppP (wayI q r)) ↔ decide (p.X = q.X) = decide (q.X = r.X) := by
  rw [decide_eq_decide] at *
  unfold wayI oppP sg
  simp only [Point.mk.injEq]
  omega
theorem same_flag {p q r : Point} (h1 : ¬ decide (q.X = p.X) = decide (q.Y = p.Y)) (h2 : ¬ decide (r.X = q.X) = decide (r.Y = q.Y)) (h : wayI p q = wayI q r) : decide (p.X = q.X) = decide (q.X = r.X) := (turn_iff h1 h2).1 (.inl h)
theorem way_back (a b : Point) : wayI b a = oppP (wayI a b) := by
  unfold wayI oppP sg
  simp only [Point.mk.injEq]
  omega
theorem opp_opp (p : Point) : oppP (oppP p) = p := by unfold oppP; simp
theorem opposite_eq {p : Point} (h : -10 ≤ p.X ∧ p.X ≤ 10 ∧ -10 ≤ p.Y ∧ p.Y ≤ 10) : route_opposite p = some (oppP p) := by
  unfold route_opposite oppP
  simp only [bnd_eq]
  rw [Wk (by omega) (by omega), Wk (by omega) (by omega)]
theorem way_small (a b : Point) : -10 ≤ (wayI a b).X ∧ (wayI a b).X ≤ 10 ∧ -10 ≤ (wayI a b).Y ∧ (wayI a b).Y ≤ 10 := by unfold wayI sg; simp only; omega
theorem tow_small (s : Int) : -10 ≤ (tow s).X ∧ (tow s).X ≤ 10 ∧ -10 ≤ (tow s).Y ∧ (tow s).Y ≤ 10 := by rcases tow_cases s with h | h | h | h <;> rw [h] <;> decide

/-- A loop over numbers that ends at the first bad one. -/
theorem loop_upto {ρ : Type} {body : Int → Option (Step Int (Res Unit ρ))} (a n : Nat) (bad : Nat → Prop) (e : ρ) (hbad : ∀ i : Nat, a ≤ i → i < n → bad i → body (i : Int) = some (.done (.ab e)))
    (hgood : ∀ i : Nat, a ≤ i → i < n → ¬ bad i → body (i : Int) = some (.again ((i : Int) + 1))) (hf : body (n : Int) = some (.done (.nx ()))) :
    ∀ (k i : Nat), i + k = n → a ≤ i → ((∃ j, i ≤ j ∧ j < n ∧ bad j) → loop body (i : Int) = some (.ab e)) ∧ ((¬ ∃ j, i ≤ j ∧ j < n ∧ bad j) → loop body (i : Int) = some (.nx ()))
  | 0, i, hk, ha => by
    obtain rfl : i = n := by omega
    exact ⟨fun ⟨j, h1, h2, _⟩ => by omega, fun _ => loop_done hf⟩
  | k + 1, i, hk, ha => by
    by_cases hb : bad i
    · exact ⟨fun _ => loop_done (hbad i ha (by omega) hb), fun h => absurd ⟨i, Nat.le_refl _, by omega, hb⟩ h⟩
    · have ih := loop_upto a n bad e hbad hgood hf k (i + 1) (by omega) (by omega)
      have hl : loop body (i : Int) = loop body ((i + 1 : Nat) : Int) := loop_again (hgood i ha (by omega) hb)
      rw [hl]
      refine ⟨fun ⟨j, h1, h2, h3⟩ => ih.1 ⟨j, ?_, h2, h3⟩, fun h => ih.2 fun ⟨j, h1, h2, h3⟩ => h ⟨j, by omega, h2, h3⟩⟩
      rcases Nat.lt_or_eq_of_le h1 with h4 | h4
      · exact h4
      · subst h4; exact absurd h3 hb

theorem loop1_eq {l : List Point} (h : pathErr l = 0) : ((∃ i, 2 ≤ i ∧ i < l.length ∧ flagAt l (i - 1)) → loop (route_right_L1 l (l.length : Int)) 2 = some (Res.ab false)) ∧ ((¬ ∃ i, 2 ≤ i ∧ i < l.length ∧ flagAt l (i - 1)) → loop (route_right_L1 l (l.length : Int)) 2 = some (Res.nx ())) := by
  obtain ⟨h1, h2⟩ := pathErr_zero.1 h
  have hl := (ptsErr_zero.1 h1).1
  obtain ⟨hn, hbad⟩ := isPath_iff.1 h2
  have key : ∀ i : Nat, 2 ≤ i → i < l.length → route_right_L1 l (l.length : Int) (i : Int) = some (if flagAt l (i - 1) then .done (.ab false) else .again ((i : Int) + 1)) := fun i a b => by
    unfold route_right_L1
    have d : decide ((i : Int) < (l.length : Int)) = true := by rw [decide_eq_true_eq]; omega
    rw [Wk (n := (i : Int) - 2) (by omega) (by omega), Wk (n := (i : Int) - 1) (by omega) (by omega), Wk (n := (i : Int) + 1) (by omega) (by omega)]
    have g1 : inR l ((i : Int) - 2) := ⟨by omega, by omega⟩
    have g2 : inR l ((i : Int) - 1) := ⟨by omega, by omega⟩
    have g3 : inR l (i : Int) := ⟨by omega, by omega⟩
    simp only [d, cond_true, bnd_eq]
    rw [need_of g1, need_of g2, heading_eq (okP_at h1 g1) (okP_at h1 g2)]
    simp only [bind_sm]
    rw [need_of g2, need_of g3, heading_eq (okP_at h1 g2) (okP_at h1 g3)]
    simp only [bind_sm]
    rw [opposite_eq (way_small _ _)]
    have hp : ((i - 1 : Nat) : Int) = (i : Int) - 1 := by omega
    have b1 := hbad (i - 1) (by omega) (by omega)
    have b2 := hbad i (by omega) b
    unfold badAt at b1 b2
    have ht := turn_iff (p := gx l ((i : Int) - 2)) (q := gx l ((i : Int) - 1)) (r := gx l (i : Int)) (by rw [hp, show (i : Int) - 1 - 1 = (i : Int) - 2 by omega] at b1; exact b1) b2
    have hf : flagAt l (i - 1) ↔ decide ((gx l ((i : Int) - 2)).X = (gx l ((i : Int) - 1)).X) = decide ((gx l ((i : Int) - 1)).X = (gx l (i : Int)).X) := by
      unfold flagAt
      rw [hp, show (i : Int) - 1 - 1 = (i : Int) - 2 by omega, show (i : Int) - 1 + 1 = (i : Int) by omega]
    by_cases c1 : wayI (gx l ((i : Int) - 2)) (gx l ((i : Int) - 1)) = wayI (gx l ((i : Int) - 1)) (gx l (i : Int))
    · rw [if_pos (hf.2 (ht.1 (.inl c1)))]
      simp only [c1, decide_true, Bool.not_true, gd_false, bind_sm, Bool.true_or, cond_true]
    · by_cases c2 : wayI (gx l ((i : Int) - 2)) (gx l ((i : Int) - 1)) = oppP (wayI (gx l ((i : Int) - 1)) (gx l (i : Int)))
      · rw [if_pos (hf.2 (ht.1 (.inr c2)))]
        have d1 : decide (wayI (gx l ((i : Int) - 2)) (gx l ((i : Int) - 1)) = wayI (gx l ((i : Int) - 1)) (gx l (i : Int))) = false := decide_eq_false c1
        simp only [d1, Bool.not_false, gd_true, bind_sm, Bool.false_or]
        rw [decide_eq_true c2]; rfl
      · rw [if_neg (fun h => (ht.2 (hf.1 h)).elim c1 c2)]
        have d1 : decide (wayI (gx l ((i : Int) - 2)) (gx l ((i : Int) - 1)) = wayI (gx l ((i : Int) - 1)) (gx l (i : Int))) = false := decide_eq_false c1
        simp only [d1, Bool.not_false, gd_true, bind_sm, Bool.false_or]
        rw [decide_eq_false c2]; rfl
  have := loop_upto (body := route_right_L1 l (l.length : Int)) 2 l.length (fun i => flagAt l (i - 1)) false (fun i a b c => by rw [key i a b, if_pos c]) (fun i a b c => by rw [key i a b, if_neg c]) (by
    unfold route_right_L1
    have d : decide ((l.length : Int) < (l.length : Int)) = false := by simp
    simp only [d, cond_false]) (l.length - 2) 2 (by omega) (Nat.le_refl _)
  exact this
theorem loop2_eq {l : List Point} (hl : l.length ≤ 1000) (h2 : 2 ≤ l.length) : ((∃ i, 1 ≤ i ∧ i < l.length - 1 ∧ flagAt l i) → loop (ref_IsWay_L1 l (l.length : Int)) 1 = some (Res.ab false)) ∧ ((¬ ∃ i, 1 ≤ i ∧ i < l.length - 1 ∧ flagAt l i) → loop (ref_IsWay_L1 l (l.length : Int)) 1 = some (Res.nx ())) := by
  have key : ∀ i : Nat, 1 ≤ i → i < l.length - 1 → ref_IsWay_L1 l (l.length : Int) (i : Int) = some (if flagAt l i then .done (.ab false) else .again ((i : Int) + 1)) := fun i a b => by
    unfold ref_IsWay_L1
    rw [Wk (n := (i : Int) - 1) (by omega) (by omega), Wk (n := (i : Int) + 1) (by omega) (by omega)]
    have d : decide ((i : Int) + 1 < (l.length : Int)) = true := by rw [decide_eq_true_eq]; omega
    simp only [d, cond_true, bnd_eq]
    rw [need_of ⟨by omega, by omega⟩, need_of ⟨by omega, by omega⟩, need_of ⟨by omega, by omega⟩, need_of ⟨by omega, by omega⟩]
    by_cases c : flagAt l i
    · have : decide (decide ((gx l ((i : Int) - 1)).X = (gx l (i : Int)).X) = decide ((gx l (i : Int)).X = (gx l ((i : Int) + 1)).X)) = true := decide_eq_true c
      simp only [this, cond_true, if_pos c]
    · have : decide (decide ((gx l ((i : Int) - 1)).X = (gx l (i : Int)).X) = decide ((gx l (i : Int)).X = (gx l ((i : Int) + 1)).X)) = false := decide_eq_false c
      simp only [this, cond_false, if_neg c]
  have := loop_upto (body := ref_IsWay_L1 l (l.length : Int)) 1 (l.length - 1) (flagAt l) false (fun i a b c => by rw [key i a b, if_pos c]) (fun i a b c => by rw [key i a b, if_neg c]) (by
    unfold ref_IsWay_L1
    rw [Wk (n := ((l.length - 1 : Nat) : Int) + 1) (by omega) (by omega)]
    have d : decide (((l.length - 1 : Nat) : Int) + 1 < (l.length : Int)) = false := by rw [decide_eq_false_iff_not]; omega
    simp only [d, cond_false]) (l.length - 2) 1 (by omega) (Nat.le_refl _)
  exact this

theorem tidy_all {l : List Point} (h : ∀ i, i < l.length → kept l i = true) : ∀ m, m ≤ l.length → tidyUpto l m = l.take m
  | 0, _ => by simp [tidyUpto]
  | m + 1, hm => by
    rw [tidyUpto, if_pos (h m (by omega)), tidy_all h m (by omega), gx_nat (by omega), List.take_succ_eq_append_getElem (by omega)]
theorem tidy_same {l : List Point} (h : pathErr l = 0) (hn : ¬ ∃ i, 1 ≤ i ∧ i < l.length - 1 ∧ flagAt l i) : tidyUpto l l.length = l := by
  have hbad := (isPath_iff.1 (pathErr_zero.1 h).2).2
  rw [tidy_all (fun i hi => ?_) _ (Nat.le_refl _)]
  · simp
  · unfold kept
    by_cases c1 : i = 0
    · simp [c1]
    · by_cases c2 : l.length ≤ i + 1
      · simp [c2]
      · have b1 := hbad i (by omega) (by omega)
        have b2 := hbad (i + 1) (by omega) (by omega)
        unfold badAt at b1 b2
        have e : ((i + 1 : Nat) : Int) - 1 = (i : Int) := by omega
        have e' : ((i + 1 : Nat) : Int) = (i : Int) + 1 := by omega
        rw [e, e'] at b2
        have : ¬ wayI (gx l ((i : Int) - 1)) (gx l (i : Int)) = wayI (gx l (i : Int)) (gx l ((i : Int) + 1)) := fun hw => hn ⟨i, by omega, by omega, same_flag b1 b2 hw⟩
        simp [this]

/-- Two neighbours as a path. -/
theorem seg_two {l : List Point} {i : Int} (h0 : 0 ≤ i) (h1 : i + 1 < l.length) : seg l i (i + 2) = [gx l i, gx l (i + 1)] := by
  obtain ⟨k, rfl⟩ : ∃ k : Nat, i = k := ⟨i.toNat, by omega⟩
  have e1 : gx l (k : Int) = l[k] := gx_nat (by omega)
  have e2 : gx l ((k : Int) + 1) = l[k + 1] := gx_nat (i := k + 1) (by omega)
  rw [e1, e2]
  unfold seg
  rw [show ((k : Int) + 2).toNat = k + 2 by omega, show ((k : Int)).toNat = k by omega]
  apply List.ext_getElem
  · simp; omega
  · intro j h1 h2
    simp only [List.length_cons, List.length_nil] at h2
    have : j = 0 ∨ j = 1 := by omega
    rcases this with rfl | rfl <;> simp
theorem two_path {a b : Point} (ha : okP a) (hb : okP b) (h : ¬ decide (b.X = a.X) = decide (b.Y = a.Y)) : geom_Length [a, b] = some (farI a b, 0) := by
  have hp : pathErr [a, b] = 0 := pathErr_zero.2 ⟨ptsErr_zero.2 ⟨by simp, fun p hp => by simp at hp; rcases hp with rfl | rfl; exact ha; exact hb⟩, isPath_iff.2 ⟨by simp, fun i h1 h2 => by
    have : i = 1 := by simp at h2; omega
    subst this
    exact h⟩⟩
  rw [Length_eq, if_pos hp, hp]
  have : lenUpto [a, b] [a, b].length = farI a b := by
    show lenUpto [a, b] 2 = _
    simp only [lenUpto]
    have e1 : gx [a, b] (((1 : Nat) : Int) - 1) = a := rfl
    have e2 : gx [a, b] ((1 : Nat) : Int) = b := rfl
    rw [e1, e2]; simp
  rw [this]

/-- Walls and lines, on both sides. -/
theorem walls_both {t : Task} (h : TaskOK t) (way : List Point) (n : Nat) (r : Point × Point) : route_right_L2 (n : Int) r way (t.Walls.map (zn t)) = ref_IsWay_L3 way (n : Int) t r := by
  funext s
  unfold route_right_L2 ref_IsWay_L3
  obtain ⟨x, h1, h2⟩ := free_eq h (gx ((way.set (0 : Int).toNat r.1).set (W ((n : Int) - 1)).toNat r.2) (W (s - 1))) (gx ((way.set (0 : Int).toNat r.1).set (W ((n : Int) - 1)).toNat r.2) s)
  rw [h1, h2]
  simp only [bind_sm, Bool.not_not]
theorem walls_some {t : Task} (h : TaskOK t) (way : List Point) (hw : 1 ≤ way.length ∧ way.length ≤ 1000) (r : Point × Point) : loop (ref_IsWay_L3 way (way.length : Int) t r) 1 = some (Res.ab false) ∨ loop (ref_IsWay_L3 way (way.length : Int) t r) 1 = some (Res.nx ()) := by
  obtain ⟨e, h1, h2⟩ := loop_nat (body := ref_IsWay_L3 way (way.length : Int) t r) (fun i => (i : Int)) (fun e => e = Res.ab false ∨ e = Res.nx ()) 1 way.length hw.1 (fun i a b => by
    unfold ref_IsWay_L3
    have d : decide ((i : Int) < (way.length : Int)) = true := by rw [decide_eq_true_eq]; omega
    simp only [d, cond_true]
    rw [Wk (n := (i : Int) - 1) (by omega) (by omega)]
    have hl : ((way.set (0 : Int).toNat r.1).set (W ((way.length : Int) - 1)).toNat r.2).length = way.length := by simp
    rw [need_of ⟨by omega, by rw [hl]; omega⟩, need_of ⟨by omega, by rw [hl]; omega⟩]
    obtain ⟨x, g1, _⟩ := free_eq h (gx ((way.set (0 : Int).toNat r.1).set (W ((way.length : Int) - 1)).toNat r.2) ((i : Int) - 1)) (gx ((way.set (0 : Int).toNat r.1).set (W ((way.length : Int) - 1)).toNat r.2) (i : Int))
    rw [g1]
    simp only [bind_sm, bnd_eq]
    cases x with
    | true => right; exact ⟨_, rfl, .inl rfl⟩
    | false => left; simp only [cond_false]; rw [Wk (by omega) (by omega)]; rfl) ⟨_, by
    unfold ref_IsWay_L3
    have d : decide ((way.length : Int) < (way.length : Int)) = false := by simp
    simp only [d, cond_false], .inr rfl⟩
  rw [show (1 : Int) = ((1 : Nat) : Int) from rfl]
  rcases h2 with rfl | rfl
  · exact .inl h1
  · exact .inr h1
theorem marks_both : route_right_L3 = ref_IsWay_L2 := rfl
theorem marks_some (v : List Point) (xs ys : List Int) (hv : v.length ≤ 1000) (hx : xs.length ≤ 1000000) (hy : ys.length ≤ 1000000) : rforE (v.length : Int) (ref_IsWay_L2 v (xs, ys)) (fun s => (Res.nx s : Res Unit Bool)) () = some (Res.ab false) ∨ rforE (v.length : Int) (ref_IsWay_L2 v (xs, ys)) (fun s => (Res.nx s : Res Unit Bool)) () = some (Res.nx ()) := by
  obtain ⟨f, hf⟩ : ∃ f : List Int → Int → Int × Bool, ∀ x, x.length ≤ 1000000 → ∀ v, slices_BinarySearch_int x v = some (f x v) := ⟨fun x v => (slices_BinarySearch_int x v).getD default, fun x hx v => by obtain ⟨r, hr⟩ := bs_some x v hx; show _ = some ((slices_BinarySearch_int x v).getD default); rw [hr]; rfl⟩
  rw [rforE_any (fun p : Point => !(f xs p.X).2 || !(f ys p.Y).2) (Res.ab false) (by omega) (fun i hi => by
    unfold ref_IsWay_L2
    rw [need_of hi]
    simp only [bnd_eq]
    rw [hf xs hx, hf ys hy]
    simp only [bind_sm]
    cases (!(f xs (gx v i).X).2 || !(f ys (gx v i).Y).2) <;> rfl)]
  split
  · exact .inl rfl
  · exact .inr rfl

theorem right_both {t : Task} {l : List Point} (ht : TaskOK t) (hl : ptsErr l = 0) : ∃ b, route_right t l = some b ∧ ref_IsWay t l = some b := by
  have hll := (ptsErr_zero.1 hl).1
  have c1 := ht.c1; have c2 := ht.c2
  have hR := IsRight_eq (l := l) (by omega)
  have hC := CheckPath_eq l
  unfold route_right ref_IsWay
  rw [hR, hC]
  simp only [bind_sm, bnd_eq]
  cases hp : isPath l with
  | false =>
    have hpe : decide (pathErr l = 0) = false := decide_eq_false fun h => by
      have := (pathErr_zero.1 h).2
      rw [hp] at this; cases this
    simp only [hpe, Bool.not_false, Bool.true_or, Bool.not_true, gd_false, bind_sm, cond_true]
    refine ⟨false, ?_, ?_⟩
    · rw [need_of (fun h => by cases h), need_of (fun h => by cases h)]
    · rw [need_of (fun h => by cases h), need_of (fun h => by cases h)]
  | true =>
    have hpe : pathErr l = 0 := pathErr_zero.2 ⟨hl, hp⟩
    obtain ⟨hn, hbad⟩ := isPath_iff.1 hp
    have en1 : W ((l.length : Int) - 1) = (l.length : Int) - 1 := Wk (by omega) (by omega)
    have en2 : W ((l.length : Int) - 2) = (l.length : Int) - 2 := Wk (by omega) (by omega)
    have g0 : inR l 0 := ⟨by omega, by omega⟩
    have g1 : inR l 1 := ⟨by omega, by omega⟩
    have gm : inR l ((l.length : Int) - 1) := ⟨by omega, by omega⟩
    have gk : inR l ((l.length : Int) - 2) := ⟨by omega, by omega⟩
    have o0 := okP_at hl g0; have o1 := okP_at hl g1; have om := okP_at hl gm; have ok := okP_at hl gk
    have n0 : ∀ (p : Prop) (m : Option Bool), need (p → inR l 0) m = m := fun p m => need_of (fun _ => g0)
    have n1 : ∀ (p : Prop) (m : Option Bool), need (p → inR l 1) m = m := fun p m => need_of (fun _ => g1)
    have nm : ∀ (p : Prop) (m : Option Bool), need (p → inR l ((l.length : Int) - 1)) m = m := fun p m => need_of (fun _ => gm)
    have nk : ∀ (p : Prop) (m : Option Bool), need (p → inR l ((l.length : Int) - 2)) m = m := fun p m => need_of (fun _ => gk)
    have m0 : ∀ m : Option Bool, need (inR l 0) m = m := fun m => need_of g0
    have m1 : ∀ m : Option Bool, need (inR l 1) m = m := fun m => need_of g1
    simp only [en1, en2, hpe, n0, n1, nm, nk, m0, m1, decide_true, Bool.not_true, Bool.false_or]
    cases cF : decide (gx l 0 = t.From) with
    | false => exact ⟨false, by simp, by simp⟩
    | true =>
    cases cT : decide (gx l ((l.length : Int) - 1) = t.To) with
    | false => exact ⟨false, by simp, by simp⟩
    | true =>
    rw [TidyOf_eq hpe]
    simp only [Bool.not_true, Bool.not_false, Bool.or_self, gd_true, bind_sm, cond_false, Bool.false_or]
    rw [Equal_Point_eq _ _ (by have := tidyUpto_len l l.length; omega)]
    simp only [bind_sm]
    obtain ⟨p1, p2⟩ := loop1_eq hpe
    obtain ⟨q1, q2⟩ := loop2_eq hll hn
    by_cases cf : ∃ i, 1 ≤ i ∧ i < l.length - 1 ∧ flagAt l i
    · have cf' : ∃ i, 2 ≤ i ∧ i < l.length ∧ flagAt l (i - 1) := by
        obtain ⟨i, a, b, c⟩ := cf
        exact ⟨i + 1, by omega, by omega, c⟩
      rw [p1 cf', q1 cf]
      simp only [bindR_ab]
      refine ⟨false, rfl, ?_⟩
      cases decide (tidyUpto l l.length = l) <;> rfl
    · have cf' : ¬ ∃ i, 2 ≤ i ∧ i < l.length ∧ flagAt l (i - 1) := fun ⟨i, a, b, c⟩ => cf ⟨i - 1, by omega, by omega, c⟩
      rw [p2 cf', q2 cf, tidy_same hpe cf]
      have hs1 := sideErr_zero.1 ht.fs
      have hs2 := sideErr_zero.1 ht.ts
      simp only [bindR_nx, decide_true, Bool.not_true, cond_false, bind_sm]
      rw [ends_eq ht.from_ ht.to ht.fs ht.ts (by omega) (by omega), rEnds_eq ht.from_ ht.to (by omega) (by omega), toward_eq hs1.1 hs1.2, toward_eq hs2.1 hs2.2, rtoward_eq, rtoward_eq, heading_eq o0 o1, way_eq o0 o1]
      simp only [bind_sm]
      rw [opposite_eq (tow_small _)]
      simp only [bind_sm]
      cases ca : decide (wayI (gx l 0) (gx l 1) = tow t.FromSide) with
      | false => exact ⟨false, by simp, by simp⟩
      | true =>
      simp only [Bool.not_true, Bool.not_false, gd_true, bind_sm, Bool.false_or]
      rw [heading_eq ok om, way_eq om ok]
      simp only [bind_sm]
      have hback : decide (wayI (gx l ((l.length : Int) - 1)) (gx l ((l.length : Int) - 2)) = tow t.ToSide) = decide (wayI (gx l ((l.length : Int) - 2)) (gx l ((l.length : Int) - 1)) = oppP (tow t.ToSide)) := by
        rw [way_back (gx l ((l.length : Int) - 2)) (gx l ((l.length : Int) - 1)), decide_eq_decide]
        exact ⟨fun h => by rw [← h, opp_opp], fun h => by rw [h, opp_opp]⟩
      rw [hback]
      cases cb : decide (wayI (gx l ((l.length : Int) - 2)) (gx l ((l.length : Int) - 1)) = oppP (tow t.ToSide)) with
      | false => exact ⟨false, by simp, by simp⟩
      | true =>
      simp only [Bool.not_true, cond_false]
      have bb1 := hbad 1 (Nat.le_refl _) hn
      have bb2 := hbad (l.length - 1) (by omega) (by omega)
      unfold badAt at bb1 bb2
      have es0 : seg l 0 2 = [gx l 0, gx l 1] := seg_two (i := 0) (Int.le_refl _) (by omega)
      have es1 : seg l ((l.length : Int) - 2) (l.length : Int) = [gx l ((l.length : Int) - 2), gx l ((l.length : Int) - 1)] := by
        have := seg_two (l := l) (i := (l.length : Int) - 2) (by omega) (by omega)
        rw [show (l.length : Int) - 2 + 2 = (l.length : Int) by omega, show (l.length : Int) - 2 + 1 = (l.length : Int) - 1 by omega] at this
        exact this
      rw [need_of ⟨by omega, by omega, by omega⟩, es0, two_path o0 o1 bb1]
      simp only [bind_sm]
      have e3 : ((l.length - 1 : Nat) : Int) = (l.length : Int) - 1 := by omega
      rw [e3, show (l.length : Int) - 1 - 1 = (l.length : Int) - 2 by omega] at bb2
      rw [need_of ⟨by omega, by omega, Int.le_refl _⟩, es1, two_path ok om bb2, Far_eq o0 o1, Far_eq ok om]
      simp only [bind_sm]
      have hW : W (2 * t.Clear) = 2 * t.Clear := Wk (by omega) (by omega)
      rw [hW]
      -- walls and lines
      rw [zones_eq ht, Clone_Point_eq hll, gridLines_eq ht, lines_eq ht]
      simp only [bind_sm, m0]
      have gs : inR (l.set (0 : Int).toNat (startP t)) ((l.length : Int) - 1) := ⟨by omega, by simp; omega⟩
      have hss : segR l.length 1 ((l.length : Int) - 1) := ⟨by omega, by omega, by omega⟩
      have ns : ∀ m : Option Bool, need (inR (l.set (0 : Int).toNat (startP t)) ((l.length : Int) - 1)) m = m := fun m => need_of gs
      have nss : ∀ m : Option Bool, need (segR l.length 1 ((l.length : Int) - 1)) m = m := fun m => need_of hss
      simp only [ns, nss]
      rw [walls_both ht l l.length (startP t, endP t), marks_both]
      have hgx := gridOf_len (xv t); have hgy := gridOf_len (yv t)
      rw [xv_len] at hgx; rw [yv_len] at hgy
      have hfew := ht.few
      have hsl : (seg l 1 ((l.length : Int) - 1)).length ≤ 1000 := by unfold seg; simp; omega
      have hm := marks_some (seg l 1 ((l.length : Int) - 1)) (gridOf (xv t)) (gridOf (yv t)) hsl (by omega) (by omega)
      have hw := walls_some ht l ⟨by omega, hll⟩ (startP t, endP t)
      have hfin : ∃ b, (bindR (σ := Unit) (ρ := Bool) (loop (ref_IsWay_L3 l (l.length : Int) t (startP t, endP t)) 1) fun j_38 => bindR (σ := Unit) (ρ := Bool) (rforE ((seg l 1 ((l.length : Int) - 1)).length : Int) (ref_IsWay_L2 (seg l 1 ((l.length : Int) - 1)) (gridOf (xv t), gridOf (yv t))) (fun s => Res.nx s) ()) fun j_49 => some true) = some b ∧
          (bindR (σ := Unit) (ρ := Bool) (rforE ((seg l 1 ((l.length : Int) - 1)).length : Int) (ref_IsWay_L2 (seg l 1 ((l.length : Int) - 1)) (gridOf (xv t), gridOf (yv t))) (fun s => Res.nx s) ()) fun j_39 => bindR (σ := Unit) (ρ := Bool) (loop (ref_IsWay_L3 l (l.length : Int) t (startP t, endP t)) 1) fun j_52 => some true) = some b := by
        rcases hm with hm | hm <;> rcases hw with hw | hw <;> rw [hm, hw]
        · exact ⟨false, rfl, rfl⟩
        · exact ⟨false, rfl, rfl⟩
        · exact ⟨false, rfl, rfl⟩
        · exact ⟨true, rfl, rfl⟩
      obtain ⟨b, f1, f2⟩ := hfin
      rw [f1, f2]
      -- lengths
      cases hA : decide (farI (gx l 0) (gx l 1) < t.Clear) <;> cases hB : decide (farI (gx l ((l.length : Int) - 2)) (gx l ((l.length : Int) - 1)) < t.Clear) <;> cases hC2 : decide (farI (gx l 0) (gx l 1) < 2 * t.Clear) <;> cases hN : decide ((l.length : Int) = 2) <;>
        first
        | (refine ⟨b, ?_, ?_⟩ <;> simp only [hN, hA, hB, hC2, gd_true, gd_false, bind_sm, Bool.not_true, Bool.not_false, Bool.true_and, Bool.false_and, Bool.or_false, Bool.true_or, Bool.or_true, Bool.false_or, cond_true, cond_false] <;> done)
        | (refine ⟨false, ?_, ?_⟩ <;> simp only [hN, hA, hB, hC2, gd_true, gd_false, bind_sm, Bool.not_true, Bool.not_false, Bool.true_and, Bool.false_and, Bool.or_false, Bool.true_or, Bool.or_true, Bool.false_or, cond_true, cond_false] <;> done)

theorem WaysAreRight_true (t : Task) (l : List Point) (ht : fits t) : law_WaysAreRight t l = some true := by
  have hwl : (t.Walls.length : Int) ≤ 9223372036854775807 := by
    have := ht.2.2.2.2.1.1
    omega
  unfold law_WaysAreRight route_Right law_WaysAreRight_1
  rw [TaskError_eq hwl, route_Check_eq hwl, routes_eq]
  simp only [bind_sm, gd_true, decide_true, Bool.true_and, PointsError_eq, CheckPoints_eq]
  rw [First_eq (by simp)]
  simp only [bind_sm, firstErr_cons, firstErr_nil]
  unfold law_is_bool
  by_cases h1 : taskErr t = 0
  · by_cases h2 : ptsErr l = 0
    · obtain ⟨b, e1, e2⟩ := right_both (task_ok h1) h2
      simp [h1, h2, e1, e2]
    · simp [h1, h2]
  · simp [h1]
end Go.DB
