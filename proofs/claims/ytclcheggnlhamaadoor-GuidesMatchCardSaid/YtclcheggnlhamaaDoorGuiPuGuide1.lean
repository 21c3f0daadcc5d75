/-
  Lines that come to lines: the nearest correction, in whatever order one looks.
-/
import Derived.Test.YtclcheggnlhamaaDoorGuiPuSel1
set_option linter.unusedSimpArgs false
set_option linter.unusedVariables false
namespace Go.DB
open Go Go.RowKit

def absI (x : Int) : Int := max x (-x)
def ltK (c v : Int) : Bool := decide (absI c < absI v) || (decide (absI c = absI v) && decide (v < c))
theorem ltK_iff {c v : Int} : ltK c v = true ↔ absI c < absI v ∨ absI c = absI v ∧ v < c := by simp [ltK]
/-- One look: x is how far a line is from another one, doubled. -/
def btS (reach : Int) (s : Int × Bool) (x : Int) : Int × Bool :=
  if x % 2 ≠ 0 ∨ x < -(2 * reach) ∨ 2 * reach < x then s else if s.2 = false ∨ ltK (x / 2) s.1 = true then (x / 2, true) else s
theorem btS_comm (reach : Int) (s : Int × Bool) (a b : Int) : btS reach (btS reach s a) b = btS reach (btS reach s b) a := by
  by_cases ha : a % 2 ≠ 0 ∨ a < -(2 * reach) ∨ 2 * reach < a
  · have e : ∀ s, btS reach s a = s := fun s => if_pos ha
    rw [e, e]
  by_cases hb : b % 2 ≠ 0 ∨ b < -(2 * reach) ∨ 2 * reach < b
  · have e : ∀ s, btS reach s b = s := fun s => if_pos hb
    rw [e, e]
  have ea : ∀ s, btS reach s a = if s.2 = false ∨ ltK (a / 2) s.1 = true then (a / 2, true) else s := fun s => if_neg ha
  have eb : ∀ s, btS reach s b = if s.2 = false ∨ ltK (b / 2) s.1 = true then (b / 2, true) else s := fun s => if_neg hb
  rw [ea s, eb s, ea, eb]
  generalize a / 2 = x
  generalize b / 2 = y
  obtain ⟨v, f⟩ := s
  have hxy : ltK x y = false → ltK y x = false → x = y := by simp only [← Bool.not_eq_true, ltK_iff]; unfold absI; omega
  have hnot : ltK x y = true → ltK y x = true → False := by simp only [ltK_iff]; unfold absI; omega
  have t1 : ltK x v = true → ltK y v = false → ltK y x = false := by simp only [← Bool.not_eq_true, ltK_iff]; unfold absI; omega
  have t2 : ltK y v = true → ltK x v = false → ltK x y = false := by simp only [← Bool.not_eq_true, ltK_iff]; unfold absI; omega
  cases f <;> cases h1 : ltK x v <;> cases h2 : ltK y v <;> cases h3 : ltK x y <;> cases h4 : ltK y x <;> simp_all
theorem btS_bd {reach : Int} (hr : 0 ≤ reach ∧ reach ≤ 1000) {s : Int × Bool} (hs : -1000 ≤ s.1 ∧ s.1 ≤ 1000) (x : Int) : -1000 ≤ (btS reach s x).1 ∧ (btS reach s x).1 ≤ 1000 := by
  unfold btS
  split
  · exact hs
  · split
    · simp only; omega
    · exact hs
theorem btS_fold_bd {reach : Int} (hr : 0 ≤ reach ∧ reach ≤ 1000) : ∀ (l : List Int) (s : Int × Bool), (-1000 ≤ s.1 ∧ s.1 ≤ 1000) → -1000 ≤ (l.foldl (btS reach) s).1 ∧ (l.foldl (btS reach) s).1 ≤ 1000
  | [], s, hs => hs
  | x :: l, s, hs => btS_fold_bd hr l _ (btS_bd hr hs x)
theorem half2 (a : Int) : (a.tmod 2 = 0 ↔ a % 2 = 0) ∧ (a % 2 = 0 → a.tdiv 2 = a / 2) := by
  refine ⟨by rw [← Int.dvd_iff_tmod_eq_zero, ← Int.dvd_iff_emod_eq_zero], fun h => ?_⟩
  obtain ⟨b, rfl⟩ := Int.dvd_of_emod_eq_zero h
  rw [Int.mul_tdiv_cancel_left b (by decide), Int.mul_ediv_cancel_left b (by decide)]

theorem nearer_eq {line reach best : Int} {some_ : Bool} {others : List Int} (hl : -10000000 ≤ line ∧ line ≤ 10000000) (hr : 0 ≤ reach ∧ reach ≤ 1000) (hb : -1000 ≤ best ∧ best ≤ 1000) (ho : ∀ o ∈ others, -10000000 ≤ o ∧ o ≤ 10000000) (hn : others.length ≤ 1000000) :
    page_nearer line others reach best some_ = some ((others.map (fun o => o - line)).foldl (btS reach) (best, some_)) := by
  unfold page_nearer
  obtain ⟨s, h1, h2⟩ := rfor_inv (n := (others.length : Int)) (step := page_nearer_L1 line reach others) (s0 := (best, some_)) (fun k s => s = ((others.take k).map (fun o => o - line)).foldl (btS reach) (best, some_)) (by omega) rfl (fun k s hk hI => by
    have hk' : k < others.length := by omega
    have hbd : -1000 ≤ s.1 ∧ s.1 ≤ 1000 := by rw [hI]; exact btS_fold_bd hr _ _ hb
    have hnx : ((others.take (k + 1)).map (fun o => o - line)).foldl (btS reach) (best, some_) = btS reach s (others[k] - line) := by
      rw [List.take_succ_eq_append_getElem hk', List.map_append, List.foldl_append, ← hI]; rfl
    rw [hnx]
    clear hnx hI
    have hok := ho _ (List.getElem_mem hk')
    unfold page_nearer_L1
    rw [need_of ⟨by omega, by omega⟩, gx_nat hk', bnd_eq, Wk (n := others[k] - line) (by omega) (by omega)]
    generalize others[k] = o at *
    refine ⟨_, ?_, rfl⟩
    obtain ⟨t1, t2⟩ := half2 (o - line)
    obtain ⟨v, f⟩ := s
    unfold btS
    by_cases hm : (o - line) % 2 = 0
    case neg =>
      rw [decide_eq_false (fun e => hm (t1.1 e)), if_pos (.inl hm)]; rfl
    rw [decide_eq_true (t1.2 hm), t2 hm, bnd_eq]
    simp only [Bool.not_true, cond_false]
    rw [Wk (n := -reach) (by omega) (by omega)]
    by_cases hx : o - line < -(2 * reach) ∨ 2 * reach < o - line
    · have : (decide ((o - line) / 2 < -reach) || decide (reach < (o - line) / 2)) = true := by simp; omega
      rw [this, if_pos (.inr hx)]; rfl
    · have : (decide ((o - line) / 2 < -reach) || decide (reach < (o - line) / 2)) = false := by simp; omega
      rw [this, if_neg (by omega), cond_false]
      simp only at hbd
      rw [Wk (n := -((o - line) / 2)) (by omega) (by omega), Wk (n := -v) (by omega) (by omega)]
      have hc : ((!f) || decide (max ((o - line) / 2) (-((o - line) / 2)) < max v (-v)) || (decide ((o - line) / 2 = -v) && decide (v < (o - line) / 2))) = decide (f = false ∨ ltK ((o - line) / 2) v = true) := by
        rw [Bool.eq_iff_iff]
        cases f
        · simp
        · rw [decide_eq_true_eq, ltK_iff]
          unfold absI
          simp only [Bool.not_true, Bool.false_or, Bool.or_eq_true, Bool.and_eq_true, decide_eq_true_eq, Bool.true_eq_false, false_or]
          omega
      rw [hc]
      by_cases hd : f = false ∨ ltK ((o - line) / 2) v = true
      · rw [decide_eq_true hd, if_pos hd]; rfl
      · rw [decide_eq_false hd, if_neg hd]; rfl)
  rw [h1, h2, show (others.length : Int).toNat = others.length by omega, List.take_length]
  rfl
theorem take_eq {a b reach best : Int} {f : Bool} (ha : -10000000 ≤ a ∧ a ≤ 10000000) (hb : -10000000 ≤ b ∧ b ≤ 10000000) (hr : 0 ≤ reach ∧ reach ≤ 1000) (hs : -1000 ≤ best ∧ best ≤ 1000) :
    ref_snapped_1 a b reach f best = some ((btS reach (best, f) (b - a)).2, (btS reach (best, f) (b - a)).1) := by
  unfold ref_snapped_1
  rw [Wk (n := b - a) (by omega) (by omega), Wk (n := 2 * reach) (by omega) (by omega)]
  obtain ⟨t1, t2⟩ := half2 (b - a)
  unfold btS
  by_cases hm : (b - a) % 2 = 0
  case neg =>
    rw [decide_eq_false (fun e => hm (t1.1 e)), if_pos (.inl hm)]
    simp [gd]
  rw [decide_eq_true (t1.2 hm), t2 hm, bnd_eq]
  simp only [Bool.not_true, Bool.not_false, gd_true, Bool.false_or]
  rw [Abs_eq (by omega) (by omega), Option.bind_some]
  by_cases hx : b - a < -(2 * reach) ∨ 2 * reach < b - a
  · rw [decide_eq_true (show 2 * reach < max (b - a) (-(b - a)) by omega), if_pos (.inr hx)]; rfl
  · rw [decide_eq_false (show ¬ 2 * reach < max (b - a) (-(b - a)) by omega), if_neg (by omega), cond_false]
    rw [Abs_eq (n := (b - a) / 2) (by omega) (by omega), Abs_eq (n := best) (by omega) (by omega)]
    cases f with
    | false => simp [gd]
    | true =>
      simp only [Bool.not_true, Bool.not_false, gd_true, Option.bind_some, Bool.false_or, Bool.true_eq_false, false_or]
      have hk : ltK ((b - a) / 2) best = true ↔ max ((b - a) / 2) (-((b - a) / 2)) < max best (-best) ∨ max ((b - a) / 2) (-((b - a) / 2)) = max best (-best) ∧ best < (b - a) / 2 := ltK_iff
      by_cases h1 : max ((b - a) / 2) (-((b - a) / 2)) < max best (-best)
      · rw [decide_eq_true h1, if_pos (hk.2 (.inl h1))]
        simp [gd]
      · rw [decide_eq_false h1]
        simp only [Bool.not_false, gd_true, Option.bind_some, Bool.false_or]
        by_cases h2 : max ((b - a) / 2) (-((b - a) / 2)) = max best (-best) ∧ best < (b - a) / 2
        · rw [decide_eq_true h2.1, decide_eq_true h2.2, if_pos (hk.2 (.inr h2))]; rfl
        · rw [if_neg (fun hh => (hk.1 hh).elim h1 h2)]
          by_cases h3 : max ((b - a) / 2) (-((b - a) / 2)) = max best (-best)
          · rw [decide_eq_true h3, decide_eq_false (fun h4 => h2 ⟨h3, h4⟩)]; rfl
          · rw [decide_eq_false h3]; rfl
/-- The three lines of something: begin, middle, end. -/
def three (p : Int × Int) : Arr 2 Int := ⟨[2 * p.1, 2 * p.1 + p.2, 2 * p.1 + 2 * p.2]⟩
theorem snapped_eq {m0 m1 m2 reach : Int} {bs : List (Int × Int)} (h0 : -10000000 ≤ m0 ∧ m0 ≤ 10000000) (h1 : -10000000 ≤ m1 ∧ m1 ≤ 10000000) (h2 : -10000000 ≤ m2 ∧ m2 ≤ 10000000) (hr : 0 ≤ reach ∧ reach ≤ 1000)
    (hb : ∀ p ∈ bs, -1000000 ≤ p.1 ∧ p.1 ≤ 1000000 ∧ 0 ≤ p.2 ∧ p.2 ≤ 20000) (hn : bs.length ≤ 1000000) :
    ref_snapped (⟨[m0, m1, m2]⟩ : Arr 2 Int) (bs.map three) reach = some ((bs.flatMap (fun p => [2 * p.1 - m0, 2 * p.1 + 2 * p.2 - m0, 2 * p.1 - m2, 2 * p.1 + 2 * p.2 - m2, 2 * p.1 + p.2 - m1])).foldl (btS reach) (0, false)).1 := by
  unfold ref_snapped
  have hlen : ((bs.map three).length : Int) ≤ 9223372036854775807 := by simp; omega
  obtain ⟨s, g1, g2⟩ := rfor_inv (n := ((bs.map three).length : Int)) (step := ref_snapped_L1 (⟨[m0, m1, m2]⟩ : Arr 2 Int) reach (bs.map three)) (s0 := ((0, false) : Int × Bool))
    (fun k s => s = ((bs.take k).flatMap (fun p => [2 * p.1 - m0, 2 * p.1 + 2 * p.2 - m0, 2 * p.1 - m2, 2 * p.1 + 2 * p.2 - m2, 2 * p.1 + p.2 - m1])).foldl (btS reach) (0, false)) hlen rfl (fun k s hk hI => by
    have hk' : k < bs.length := by simp at hk; omega
    have hbd : -1000 ≤ s.1 ∧ s.1 ≤ 1000 := by rw [hI]; exact btS_fold_bd hr _ _ (by simp)
    have hnx : ((bs.take (k + 1)).flatMap (fun p => [2 * p.1 - m0, 2 * p.1 + 2 * p.2 - m0, 2 * p.1 - m2, 2 * p.1 + 2 * p.2 - m2, 2 * p.1 + p.2 - m1])).foldl (btS reach) (0, false) =
        [2 * bs[k].1 - m0, 2 * bs[k].1 + 2 * bs[k].2 - m0, 2 * bs[k].1 - m2, 2 * bs[k].1 + 2 * bs[k].2 - m2, 2 * bs[k].1 + bs[k].2 - m1].foldl (btS reach) s := by
      rw [List.take_succ_eq_append_getElem hk', List.flatMap_append, List.foldl_append, ← hI, List.flatMap_singleton]
    rw [hnx]
    clear hnx hI
    have hok := hb _ (List.getElem_mem hk')
    unfold ref_snapped_L1
    have hg : gx (bs.map three) (k : Int) = three bs[k] := by rw [gx_nat (by simpa using hk')]; simp
    rw [need_of ⟨by omega, by simp; omega⟩, bnd_eq, hg, bnd_eq]
    generalize bs[k] = p at *
    have a0 : gx (three p).l 0 = 2 * p.1 := rfl
    have a1 : gx (three p).l 1 = 2 * p.1 + p.2 := rfl
    have a2 : gx (three p).l 2 = 2 * p.1 + 2 * p.2 := rfl
    have b0 : gx (⟨[m0, m1, m2]⟩ : Arr 2 Int).l 0 = m0 := rfl
    have b1 : gx (⟨[m0, m1, m2]⟩ : Arr 2 Int).l 1 = m1 := rfl
    have b2 : gx (⟨[m0, m1, m2]⟩ : Arr 2 Int).l 2 = m2 := rfl
    rw [b0, b1, b2]
    have st : ∀ (i : Nat) (m : Int) (s : Int × Bool), ([m0, m2] : List Int)[i]? = some m → (-10000000 ≤ m ∧ m ≤ 10000000) → (-1000 ≤ s.1 ∧ s.1 ≤ 1000) → ref_snapped_L2 (three p) [m0, m2] reach (i : Int) s = some (btS reach (btS reach s (2 * p.1 - m)) (2 * p.1 + 2 * p.2 - m)) := fun i m s hi hm hs => by
      have hlt := (List.getElem?_eq_some_iff.1 hi).1
      have hx := (List.getElem?_eq_some_iff.1 hi).2
      unfold ref_snapped_L2
      rw [need_of ⟨by omega, by omega⟩, gx_nat hlt, hx, bnd_eq, a0, a2, take_eq hm (by omega) hr hs, Option.bind_some]
      simp only
      rw [take_eq hm (by omega) hr (btS_bd hr hs _), Option.bind_some]
    have hs1 := btS_bd hr (btS_bd hr hbd (2 * p.1 - m0)) (2 * p.1 + 2 * p.2 - m0)
    have hs2 := btS_bd hr (btS_bd hr hs1 (2 * p.1 - m2)) (2 * p.1 + 2 * p.2 - m2)
    rw [rfor_eq (by simp)]
    have e2 : (([m0, m2] : List Int).length : Int).toNat = 2 := rfl
    rw [e2]
    simp only [rgo]
    rw [show (0 : Int) = ((0 : Nat) : Int) from rfl, st 0 m0 _ rfl h0 hbd]
    simp only
    rw [show ((0 : Nat) : Int) + 1 = ((1 : Nat) : Int) from rfl, st 1 m2 _ rfl h2 hs1]
    simp only [Option.bind_some]
    rw [a1, take_eq h1 (by omega) hr hs2, Option.bind_some]
    exact ⟨_, rfl, rfl⟩)
  rw [g1, g2]
  have : ((bs.map three).length : Int).toNat = bs.length := by simp
  rw [this, List.take_length]
  rfl
theorem looks_perm (m0 m1 m2 : Int) : ∀ bs : List (Int × Int), ((bs.flatMap (fun p => [2 * p.1, 2 * (p.1 + p.2)])).map (fun o => o - m0) ++ (bs.flatMap (fun p => [2 * p.1, 2 * (p.1 + p.2)])).map (fun o => o - m2) ++ (bs.map (fun p => 2 * p.1 + p.2)).map (fun o => o - m1)).Perm
    (bs.flatMap (fun p => [2 * p.1 - m0, 2 * p.1 + 2 * p.2 - m0, 2 * p.1 - m2, 2 * p.1 + 2 * p.2 - m2, 2 * p.1 + p.2 - m1]))
  | [] => List.Perm.refl _
  | p :: bs => by
    have ih := List.perm_iff_count.1 (looks_perm m0 m1 m2 bs)
    rw [List.perm_iff_count]
    intro a
    have := ih a
    simp only [List.flatMap_cons, List.map_cons, List.map_append, List.count_append, List.count_cons, List.map_nil, List.count_nil] at this ⊢
    rw [show 2 * (p.1 + p.2) = 2 * p.1 + 2 * p.2 by omega]
    omega
theorem fix_eq {way from_ long reach m0 m1 m2 : Int} {c0 c2 : Arr 1 (List Int)} {bs : List (Int × Int)} (hw : way = 0 ∨ way = 1) (hf : -4000000 ≤ from_ ∧ from_ ≤ 4000000) (hl : 0 ≤ long ∧ long ≤ 20000) (hr : 0 ≤ reach ∧ reach ≤ 1000)
    (hs : gx c0.l way = bs.flatMap (fun p => [2 * p.1, 2 * (p.1 + p.2)])) (hm : gx c2.l way = bs.map (fun p => 2 * p.1 + p.2)) (e0 : m0 = 2 * from_) (e1 : m1 = 2 * from_ + long) (e2 : m2 = 2 * (from_ + long))
    (hb : ∀ p ∈ bs, -1000000 ≤ p.1 ∧ p.1 ≤ 1000000 ∧ 0 ≤ p.2 ∧ p.2 ≤ 20000) (hn : bs.length ≤ 400000) :
    page_Guide_1 way from_ long c0 reach c2 = some ((bs.flatMap (fun p => [2 * p.1 - m0, 2 * p.1 + 2 * p.2 - m0, 2 * p.1 - m2, 2 * p.1 + 2 * p.2 - m2, 2 * p.1 + p.2 - m1])).foldl (btS reach) (0, false)).1 := by
  subst e0 e1 e2
  unfold page_Guide_1
  have hway : 0 ≤ way ∧ way < (1 + 1 : Nat) := by rcases hw with rfl | rfl <;> constructor <;> decide
  simp only [need_of hway]
  rw [hs, hm]
  have ls : (bs.flatMap (fun p => [2 * p.1, 2 * (p.1 + p.2)])).length = 2 * bs.length := by
    clear hs hm hb hn
    induction bs with
    | nil => rfl
    | cons p bs ih => rw [List.flatMap_cons, List.length_append, ih, List.length_cons]; simp; omega
  have hside : ∀ o ∈ bs.flatMap (fun p => [2 * p.1, 2 * (p.1 + p.2)]), -10000000 ≤ o ∧ o ≤ 10000000 := fun o ho => by
    obtain ⟨p, hp, hx⟩ := List.mem_flatMap.1 ho
    have := hb p hp
    simp at hx
    omega
  have hmid : ∀ o ∈ bs.map (fun p => 2 * p.1 + p.2), -10000000 ≤ o ∧ o ≤ 10000000 := fun o ho => by
    obtain ⟨p, hp, rfl⟩ := List.mem_map.1 ho
    have := hb p hp
    omega
  rw [Wk (n := 2 * from_) (by omega) (by omega), Wk (n := from_ + long) (by omega) (by omega), Wk (n := 2 * (from_ + long)) (by omega) (by omega), Wk (n := 2 * from_ + long) (by omega) (by omega)]
  rw [nearer_eq (by omega) hr (by omega) hside (by omega), Option.bind_some]
  try simp only
  rw [nearer_eq (by omega) hr (btS_fold_bd hr _ _ (by simp)) hside (by omega), Option.bind_some]
  try simp only
  rw [nearer_eq (by omega) hr (btS_fold_bd hr _ _ (btS_fold_bd hr _ _ (by simp))) hmid (by simp; omega), Option.bind_some]
  rw [← List.foldl_append, ← List.foldl_append]
  have e := (looks_perm (2 * from_) (2 * from_ + long) (2 * (from_ + long)) bs).foldl_eq' (f := btS reach) (fun x _ y _ z => btS_comm reach z x y) (0, false)
  first | rw [e] | (rw [List.append_assoc] at e; rw [e])
end Go.DB
