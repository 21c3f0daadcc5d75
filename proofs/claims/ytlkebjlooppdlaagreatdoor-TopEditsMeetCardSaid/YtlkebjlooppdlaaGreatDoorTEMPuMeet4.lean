/-
  What a part of the operations has not seen.
-/
import Derived.Test.YtlkebjlooppdlaaGreatDoorTEMPuMeet3
import Derived.Test.YtlkebjlooppdlaaGreatDoorTEMPuSince
set_option linter.unusedSimpArgs false
set_option linter.unusedVariables false
namespace Go.DB
open Go Go.RowKit

/-- Is it the last of its site? -/
def lastB (l : List DOp) (i : Nat) : Bool := decide ((i : Int) + 1 = (l.length : Int)) || !decide ((gx l ((i : Int) + 1)).Stamp.Site = (gx l (i : Int)).Stamp.Site)
def seenF (l : List DOp) (n : Nat) : List Stamp := ((List.range n).filter (lastB l)).map (fun i => (opI l i).Stamp)
theorem seenF_succ (l : List DOp) (n : Nat) : seenF l (n + 1) = seenF l n ++ (if lastB l n = true then [(opI l n).Stamp] else []) := by
  unfold seenF
  rw [List.range_succ, List.filter_append, List.map_append]
  congr 1
  by_cases c : lastB l n = true
  · rw [if_pos c, List.filter_cons_of_pos c]; rfl
  · rw [if_neg c, List.filter_cons_of_neg c]; rfl
theorem seenF_len (l : List DOp) (n : Nat) : (seenF l n).length ≤ n := by
  unfold seenF
  rw [List.length_map]
  have := List.length_filter_le (lastB l) (List.range n)
  rwa [List.length_range] at this
theorem Seen_eq {l : List DOp} (h : opsErr l = 0) : edit_Seen l = some (seenF l l.length, 0) := by
  have hl := (opsErr_len h).1
  unfold edit_Seen
  rw [Check_eq, Option.bind_some, h, decide_eq_true (rfl : (0 : Int) = 0), Bool.not_true, cond_false]
  obtain ⟨s, h1, h2⟩ := rfor_inv (n := (l.length : Int)) (step := edit_Seen_L1 l) (s0 := ([] : List Stamp)) (fun i s => s = seenF l i) (by omega) rfl (fun i s hi hI => by
    have hin : inR l (i : Int) := ⟨by omega, by omega⟩
    have hsl := seenF_len l i
    subst hI
    unfold edit_Seen_L1
    rw [need_of hin, bnd_eq, Wk (by omega) (by omega), need_of (fun h => ⟨by omega, by have := of_decide_eq_false h; omega⟩), seenF_succ]
    show ∃ s', (bif lastB l i then _ else _) = some s' ∧ _
    cases lastB l i with
    | true => rw [cond_true, need_of (by rw [room_iff]; simp; omega)]; exact ⟨_, rfl, rfl⟩
    | false => rw [cond_false]; exact ⟨_, rfl, by simp⟩)
  rw [h1, h2]; rfl
theorem last_site {l : List DOp} (h : opsErr l = 0) {i j : Nat} (hij : i < j) (hj : j < l.length) (hb : lastB l i = true) : cmpB (opI l i).Stamp.Site.b (opI l j).Stamp.Site.b < 0 := by
  have h1 := opI_lt h hij hj
  by_cases c : (opI l i).Stamp.Site = (opI l j).Stamp.Site
  · exfalso
    unfold lastB at hb
    rw [decide_eq_false (by omega), Bool.false_or, Bool.not_eq_true', decide_eq_false_iff_not] at hb
    apply hb
    by_cases e : j = i + 1
    · subst e; exact c.symm
    · have h2 := opI_lt h (show i < i + 1 by omega) (show i + 1 < l.length by omega)
      have h3 := opI_lt h (show i + 1 < j by omega) hj
      have h4 : (opI l (i + 1)).Stamp.Site = (opI l i).Stamp.Site := op_site (Int.le_of_lt h2) (Int.le_of_lt h3) c
      rw [show (i : Int) + 1 = ((i + 1 : Nat) : Int) by omega]; exact h4
  · unfold cmpOp at h1
    rwa [cmpO_site (fun e => c (site_ext e))] at h1
theorem seen_sorted {l : List DOp} (h : opsErr l = 0) : (seenF l l.length).Pairwise (fun a b => cmpB a.Site.b b.Site.b < 0) := by
  unfold seenF
  rw [List.pairwise_map, List.pairwise_filter]
  refine (List.pairwise_lt_range).imp_of_mem fun {i j} hi hj hij hb _ => ?_
  exact last_site h hij (by simpa using hj) hb
theorem seen_mem {l : List DOp} {s : Stamp} : s ∈ seenF l l.length ↔ ∃ i : Nat, i < l.length ∧ lastB l i = true ∧ (opI l i).Stamp = s := by
  unfold seenF
  rw [List.mem_map]
  constructor
  · rintro ⟨i, hi, e⟩
    obtain ⟨a, b⟩ := List.mem_filter.1 hi
    exact ⟨i, by simpa using a, b, e⟩
  · rintro ⟨i, a, b, e⟩
    exact ⟨i, List.mem_filter.2 ⟨by simpa using a, b⟩, e⟩
theorem seen_has (l : List DOp) : ∀ n q : Nat, l.length - q ≤ n → q < l.length → ∃ i : Nat, i < l.length ∧ lastB l i = true ∧ (opI l i).Stamp.Site = (opI l q).Stamp.Site
  | 0, q, h1, h2 => by omega
  | n + 1, q, h1, h2 => by
    cases hb : lastB l q with
    | true => exact ⟨q, h2, hb, rfl⟩
    | false =>
      unfold lastB at hb
      rw [Bool.or_eq_false_iff, decide_eq_false_iff_not, Bool.not_eq_false', decide_eq_true_eq] at hb
      obtain ⟨i, a, b, c⟩ := seen_has l n (q + 1) (by omega) (by omega)
      exact ⟨i, a, b, c.trans hb.2⟩
theorem seen_right {l : List DOp} (h : opsErr l = 0) : stErr (seenF l l.length) = 0 := by
  unfold stErr
  refine firstErr_zero.2 fun e he => ?_
  obtain ⟨k, hk, rfl⟩ := List.mem_map.1 he
  have hk := List.mem_range.1 hk
  obtain ⟨i, hi, _, hs⟩ := seen_mem.1 (List.getElem_mem hk)
  have hst := op_step h hi
  have hno := no_bd h i hi
  have hlate : lateSt (seenF l l.length) k = false := by
    unfold lateSt
    by_cases h0 : 0 < k
    · have h1 : cmpB ((seenF l l.length)[k - 1]'(by omega)).Site.b (seenF l l.length)[k].Site.b < 0 := List.pairwise_iff_getElem.1 (seen_sorted h) (k - 1) k (by omega) hk (by omega)
      rw [show (k : Int) - 1 = ((k - 1 : Nat) : Int) by omega, gx_nat hk, gx_nat (show k - 1 < _ by omega), bytesLess_cmp]
      have h2 := cmpB_swap (seenF l l.length)[k].Site.b ((seenF l l.length)[k - 1]'(by omega)).Site.b
      have h3 : ((seenF l l.length)[k].Site.b == ((seenF l l.length)[k - 1]'(by omega)).Site.b) = false := by
        rw [beq_eq_false_iff_ne]
        intro e
        rw [e, cmpB_self] at h1
        omega
      rw [h3, decide_eq_true (p := 0 < (k : Int)) (by omega), decide_eq_false (by omega)]; rfl
    · rw [decide_eq_false (by omega), Bool.false_and]
  unfold stAt
  rw [hlate, gx_nat hk, ← hs, hst.1, if_neg (by simp), if_neg (by simp), if_neg (by omega)]
  rfl
/-- What is since. -/
theorem Since_part {l : List DOp} (h : opsErr l = 0) {p : DOp → Bool} (hp : opsErr (l.filter p) = 0) (hdown : ∀ x ∈ l, ∀ y ∈ l, x.Stamp.Site = y.Stamp.Site → x.Stamp.No ≤ y.Stamp.No → p y = true → p x = true) :
    edit_Since l (seenF (l.filter p) (l.filter p).length) = some (l.filter (fun x => !p x), 0) := by
  have hl := (opsErr_len h).1
  have hl2 := (opsErr_len hp).1
  have hs0 := seen_right hp
  have hsl := seenF_len (l.filter p) (l.filter p).length
  unfold edit_Since
  rw [Check_eq, Option.bind_some, h]
  rw [decide_eq_true (rfl : (0 : Int) = 0), Bool.not_true, cond_false, bnd_eq]
  rcases Since_map (seen := seenF (l.filter p) (l.filter p).length) (by omega) with ⟨c, _⟩ | ⟨_, m, h1, h2⟩
  · exact absurd hs0 c
  · rw [h1, bindR_nx]
    have hg := rfor_gather (l := l) (step := edit_Since_L2 l m) (fun v => if m.getD v.Stamp.Site 0 < v.Stamp.No then [v] else []) [] (fun v _ => by split <;> simp) (by simp; omega) (fun i s hi hs => by
      unfold edit_Since_L2
      rw [need_of hi, bnd_eq]
      by_cases q : m.getD (gx l i).Stamp.Site 0 < (gx l i).Stamp.No
      · rw [decide_eq_true q, cond_true, if_pos q, need_of (by rw [room_iff]; simp; omega)]
      · rw [decide_eq_false q, cond_false, if_neg q, List.append_nil])
    rw [hg, Option.bind_some, List.nil_append]
    have hfm : ∀ l : List DOp, l.flatMap (fun v => if m.getD v.Stamp.Site 0 < v.Stamp.No then [v] else []) = l.filter (fun v => decide (m.getD v.Stamp.Site 0 < v.Stamp.No)) := by
      intro l
      induction l with
      | nil => rfl
      | cons v l ih =>
        rw [List.flatMap_cons, ih, List.filter_cons]
        by_cases q : m.getD v.Stamp.Site 0 < v.Stamp.No
        · rw [if_pos q, if_pos (by simpa using q)]; rfl
        · rw [if_neg q, if_neg (by simpa using q)]; rfl
    rw [hfm]
    have hfe : l.filter (fun v => decide (m.getD v.Stamp.Site 0 < v.Stamp.No)) = l.filter (fun x => !p x) := by
      refine List.filter_congr fun x hx => ?_
      have hx1 : 1 ≤ x.Stamp.No := ((opsErr_good h) x hx).1.no
      rcases h2 x.Stamp.Site with ⟨k, hk, h3, h4⟩ | ⟨h3, h4⟩
      · obtain ⟨i, hi, hb, hs⟩ := seen_mem.1 (List.getElem_mem hk)
        rw [← hs] at h3 h4
        obtain ⟨o1, o2⟩ := List.mem_filter.1 (mem_op hi)
        rw [h4]
        cases hpx : p x with
        | true =>
          obtain ⟨q, hq, rfl⟩ := op_mem (List.mem_filter.2 ⟨hx, hpx⟩)
          have : q ≤ i := by
            rcases Nat.lt_or_ge i q with e | e
            · have := last_site hp e hq hb
              rw [h3, cmpB_self] at this; omega
            · exact e
          have hle : (opI (l.filter p) q).Stamp.No ≤ (opI (l.filter p) i).Stamp.No := by
            rcases Nat.lt_or_eq_of_le this with e | e
            · have := (op_numC h3.symm).1 (opI_lt hp e hi)
              omega
            · rw [e]; omega
          rw [decide_eq_false (by omega)]; rfl
        | false =>
          rw [decide_eq_true]; rfl
          refine Int.not_le.1 fun e => ?_
          have := hdown x hx _ o1 h3.symm e o2
          rw [hpx] at this; cases this
      · rw [h4, decide_eq_true (by omega)]
        cases hpx : p x with
        | false => rfl
        | true =>
          exfalso
          obtain ⟨q, hq, rfl⟩ := op_mem (List.mem_filter.2 ⟨hx, hpx⟩)
          obtain ⟨i, hi, hb, hs⟩ := seen_has _ _ q (Nat.le_refl _) hq
          obtain ⟨k, hk, e⟩ := List.getElem_of_mem (seen_mem.2 ⟨i, hi, hb, rfl⟩)
          exact h3 k hk (by rw [e]; exact hs)
    rw [hfe]
end Go.DB
