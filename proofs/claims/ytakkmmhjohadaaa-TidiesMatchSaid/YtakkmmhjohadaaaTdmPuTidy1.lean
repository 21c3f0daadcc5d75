/-
  Drawings of branches: levels that are put beside each other, in plain words.
-/
import Derived.Test.YtakkmmhjohadaaaTdmPuTree0
set_option linter.unusedSimpArgs false
set_option linter.unusedVariables false
namespace Go.DB
open Go Go.RowKit

abbrev Tst := Tree_stretch

/-- By how much l must move to be right of b. -/
def mvs (gap : Int) (b l : List Tst) : List Int := List.zipWith (fun x y => x.to_ + gap - y.from_) b l
def mvOf (gap : Int) (b l : List Tst) : Int := match mvs gap b l with
  | [] => 0
  | n :: r => r.foldl max n
theorem foldl_max : ∀ (r : List Int) (n : Int), n ≤ r.foldl max n ∧ (∀ x ∈ r, x ≤ r.foldl max n) ∧ (r.foldl max n = n ∨ r.foldl max n ∈ r)
  | [], n => ⟨Int.le_refl _, by simp, .inl rfl⟩
  | x :: r, n => by
    obtain ⟨h1, h2, h3⟩ := foldl_max r (max n x)
    simp only [List.foldl_cons]
    refine ⟨by omega, fun y hy => ?_, ?_⟩
    · rcases List.mem_cons.1 hy with rfl | hy
      · omega
      · exact h2 y hy
    · rcases h3 with h3 | h3
      · rw [h3]
        by_cases h : n ≤ x
        · right; rw [Int.max_eq_right h]; simp
        · left; omega
      · exact .inr (List.mem_cons_of_mem _ h3)
theorem mvOf_spec {gap : Int} {b l : List Tst} (hb : b ≠ []) (hl : l ≠ []) :
    (∀ (r : Nat) (h1 : r < b.length) (h2 : r < l.length), b[r].to_ + gap - l[r].from_ ≤ mvOf gap b l) ∧ ∃ (r : Nat) (h1 : r < b.length) (h2 : r < l.length), mvOf gap b l = b[r].to_ + gap - l[r].from_ := by
  have hlen : (mvs gap b l).length = min b.length l.length := by unfold mvs; simp
  have hget : ∀ (r : Nat) (h1 : r < b.length) (h2 : r < l.length), (mvs gap b l)[r]'(by rw [hlen]; omega) = b[r].to_ + gap - l[r].from_ := fun r h1 h2 => by unfold mvs; simp
  have hpos : 0 < (mvs gap b l).length := by rw [hlen]; have := List.length_pos_iff.2 hb; have := List.length_pos_iff.2 hl; omega
  have hall : (∀ x ∈ mvs gap b l, x ≤ mvOf gap b l) ∧ mvOf gap b l ∈ mvs gap b l := by
    unfold mvOf
    cases hm : mvs gap b l with
    | nil => rw [hm] at hpos; simp at hpos
    | cons n r =>
      obtain ⟨g1, g2, g3⟩ := foldl_max r n
      refine ⟨fun x hx => ?_, ?_⟩
      · rcases List.mem_cons.1 hx with rfl | hx
        · exact g1
        · exact g2 x hx
      · rcases g3 with g3 | g3
        · simp only; rw [g3]; simp
        · exact List.mem_cons_of_mem _ g3
  refine ⟨fun r h1 h2 => ?_, ?_⟩
  · rw [← hget r h1 h2]; exact hall.1 _ (List.getElem_mem _)
  · obtain ⟨r, hr, he⟩ := List.mem_iff_getElem.1 hall.2
    have hr' : r < b.length ∧ r < l.length := by rw [hlen] at hr; omega
    exact ⟨r, hr'.1, hr'.2, by rw [← he, hget r hr'.1 hr'.2]⟩

/-- Two drawings beside each other. -/
def mrg (m : Int) : List Tst → List Tst → List Tst
  | b :: bs, s :: ss => ⟨b.from_, s.to_ + m⟩ :: mrg m bs ss
  | [], s :: ss => ⟨s.from_ + m, s.to_ + m⟩ :: mrg m [] ss
  | bs, [] => bs
theorem mrg_len (m : Int) : ∀ b l : List Tst, (mrg m b l).length = max b.length l.length
  | b :: bs, s :: ss => by simp [mrg, mrg_len m bs ss]
  | [], s :: ss => by simp [mrg, mrg_len m [] ss]
  | [], [] => rfl
  | b :: bs, [] => by simp [mrg]
theorem mrg_get (m : Int) : ∀ (b l : List Tst) (r : Nat) (h : r < (mrg m b l).length), (mrg m b l)[r] =
    if h2 : r < l.length then ⟨if h1 : r < b.length then b[r].from_ else l[r].from_ + m, l[r].to_ + m⟩ else b[r]'(by rw [mrg_len] at h; omega)
  | b :: bs, s :: ss, 0, h => by simp [mrg]
  | b :: bs, s :: ss, r + 1, h => by
    have := mrg_get m bs ss r (by rw [mrg_len] at h ⊢; simp at h; omega)
    simp only [mrg, List.getElem_cons_succ, this, List.length_cons]
    simp only [Nat.add_lt_add_iff_right]
  | [], s :: ss, 0, h => by simp [mrg]
  | [], s :: ss, r + 1, h => by
    have := mrg_get m [] ss r (by rw [mrg_len] at h ⊢; simp at h ⊢; omega)
    simp only [mrg, List.getElem_cons_succ, this, List.length_cons]
    simp only [Nat.add_lt_add_iff_right]
    by_cases hr : r < ss.length
    · simp [hr]
    · rw [mrg_len] at h; simp at h; omega
  | b :: bs, [], r, h => by simp [mrg]
  | [], [], r, h => by rw [mrg_len] at h; simp at h

/-- Drawings one beside the other: what comes of it, and the moves. -/
def run (gap : Int) : List Tst → List (List Tst) → List Tst × List Int
  | b, [] => (b, [])
  | b, l :: ls => ((run gap (mrg (mvOf gap b l) b l) ls).1, mvOf gap b l :: (run gap (mrg (mvOf gap b l) b l) ls).2)
theorem run_len (gap : Int) : ∀ (b : List Tst) (ls : List (List Tst)), (run gap b ls).2.length = ls.length
  | _, [] => rfl
  | b, l :: ls => by simp [run, run_len gap _ ls]

/-- Drawn nodes: level by level ls, at the places pos; sk are the levels' ends. -/
structure Dr (w : Int → Int) (gap : Int) (ls : Nat → List Int) (pos : Int → Int) (sk : List Tst) (lo hi : Int) : Prop where
  nil : ∀ r, sk.length ≤ r → ls r = []
  ord : ∀ r, (ls r).Pairwise (fun a b => pos a + w a + gap ≤ pos b)
  fr : ∀ (r : Nat) (h : r < sk.length), (∃ n ∈ ls r, pos n = sk[r].from_) ∧ ∀ n ∈ ls r, sk[r].from_ ≤ pos n
  to : ∀ (r : Nat) (h : r < sk.length), (∃ n ∈ ls r, pos n + w n = sk[r].to_) ∧ ∀ n ∈ ls r, pos n + w n ≤ sk[r].to_
  bd : ∀ r, ∀ n ∈ ls r, lo ≤ pos n ∧ pos n + w n ≤ hi
  l0 : lo ≤ 0
  h0 : 0 ≤ hi

theorem Dr.wider {w : Int → Int} {gap : Int} {ls : Nat → List Int} {pos : Int → Int} {sk : List Tst} {lo hi lo' hi' : Int} (h : Dr w gap ls pos sk lo hi) (h1 : lo' ≤ lo) (h2 : hi ≤ hi') : Dr w gap ls pos sk lo' hi' where
  nil := h.nil
  ord := h.ord
  fr := h.fr
  to := h.to
  bd r n hn := by have := h.bd r n hn; omega
  l0 := by have := h.l0; omega
  h0 := by have := h.h0; omega

/-- One more drawing to the right. -/
theorem Dr.beside {w : Int → Int} {gap : Int} {l1 l2 : Nat → List Int} {pos pos2 : Int → Int} {b l : List Tst} {lo1 hi1 lo2 hi2 : Int} (hw : ∀ r, ∀ n ∈ l1 r ++ l2 r, 0 ≤ w n) (hg : 0 ≤ gap) (hb : b ≠ []) (hl : l ≠ [])
    (h1 : Dr w gap l1 pos b lo1 hi1) (h2 : Dr w gap l2 pos2 l lo2 hi2) (hp : ∀ r, ∀ n ∈ l2 r, pos n = pos2 n + mvOf gap b l) :
    ∃ lo hi, Dr w gap (fun r => l1 r ++ l2 r) pos (mrg (mvOf gap b l) b l) lo hi ∧ hi - lo ≤ (hi1 - lo1) + gap + (hi2 - lo2) ∧ lo ≤ lo1 ∧ hi1 ≤ hi := by
  obtain ⟨m1, r0, hr1, hr2, hm⟩ := mvOf_spec (gap := gap) hb hl
  generalize mvOf gap b l = m at *
  obtain ⟨⟨n1, hn1, e1⟩, t1⟩ := h1.to r0 hr1
  obtain ⟨⟨n2, hn2, e2⟩, t2⟩ := h2.fr r0 hr2
  have b1 := h1.bd r0 n1 hn1
  have b2 := h2.bd r0 n2 hn2
  have w1 := hw r0 n1 (List.mem_append_left _ hn1)
  have w2 := hw r0 n2 (List.mem_append_right _ hn2)
  have g1 := h1.l0
  have g2 := h1.h0
  refine ⟨min lo1 (lo2 + m), max hi1 (hi2 + m), ⟨fun r hr => ?_, fun r => ?_, fun r hr => ?_, fun r hr => ?_, fun r n hn => ?_, by omega, by omega⟩, by omega, by omega, by omega⟩
  · rw [mrg_len] at hr
    simp only [h1.nil r (by omega), h2.nil r (by omega), List.append_nil]
  · rw [List.pairwise_append]
    refine ⟨h1.ord r, ?_, fun x hx y hy => ?_⟩
    · have := h2.ord r
      refine List.Pairwise.imp_of_mem ?_ this
      intro x y hx hy hxy
      rw [hp r x hx, hp r y hy]; omega
    · have q1 : r < b.length := Nat.lt_of_not_le (fun h => by rw [h1.nil r h] at hx; cases hx)
      have q2 : r < l.length := Nat.lt_of_not_le (fun h => by rw [h2.nil r h] at hy; cases hy)
      have a1 := (h1.to r q1).2 x hx
      have a2 := (h2.fr r q2).2 y hy
      have a3 := m1 r q1 q2
      rw [hp r y hy]; omega
  · rw [mrg_get]
    rw [mrg_len] at hr
    by_cases q2 : r < l.length
    · rw [dif_pos q2]
      by_cases q1 : r < b.length
      · rw [dif_pos q1]
        obtain ⟨⟨n, hn, e⟩, h3⟩ := h1.fr r q1
        obtain ⟨⟨n', hn', e'⟩, h4⟩ := h2.fr r q2
        obtain ⟨⟨n3, hn3, e3⟩, h5⟩ := h1.to r q1
        refine ⟨⟨n, List.mem_append_left _ hn, e⟩, fun x hx => ?_⟩
        rcases List.mem_append.1 hx with hx | hx
        · exact h3 x hx
        · have a1 := h4 x hx
          have a3 := m1 r q1 q2
          have a4 := hw r n (List.mem_append_left _ hn)
          have a5 := h5 n hn
          rw [hp r x hx]
          simp only
          omega
      · rw [dif_neg q1]
        obtain ⟨⟨n', hn', e'⟩, h4⟩ := h2.fr r q2
        have hn1 := h1.nil r (by omega)
        simp only [hn1, List.nil_append]
        exact ⟨⟨n', hn', by rw [hp r n' hn', e']⟩, fun x hx => by rw [hp r x hx]; have := h4 x hx; omega⟩
    · rw [dif_neg q2]
      have hn2 := h2.nil r (by omega)
      simp only [hn2, List.append_nil]
      exact h1.fr r (by omega)
  · rw [mrg_get]
    rw [mrg_len] at hr
    by_cases q2 : r < l.length
    · rw [dif_pos q2]
      obtain ⟨⟨n', hn', e'⟩, h4⟩ := h2.to r q2
      refine ⟨⟨n', List.mem_append_right _ hn', by rw [hp r n' hn']; simp only; omega⟩, fun x hx => ?_⟩
      rcases List.mem_append.1 hx with hx | hx
      · have q1 : r < b.length := Nat.lt_of_not_le (fun h => by rw [h1.nil r h] at hx; cases hx)
        have a1 := (h1.to r q1).2 x hx
        obtain ⟨⟨n, hn, e⟩, h3⟩ := h2.fr r q2
        have a3 := m1 r q1 q2
        have a4 := hw r n (List.mem_append_right _ hn)
        have a5 := h4 n hn
        simp only
        omega
      · have := h4 x hx
        rw [hp r x hx]; simp only; omega
    · rw [dif_neg q2]
      have hn2 := h2.nil r (by omega)
      simp only [hn2, List.append_nil]
      exact h1.to r (by omega)
  · rcases List.mem_append.1 hn with hn | hn
    · have := h1.bd r n hn; omega
    · have := h2.bd r n hn
      rw [hp r n hn]; omega

end Go.DB
