/-
  Lists that are sorted and compacted; rails of a path, and where they cross.
-/
import Derived.Test.YtieepiblancbpaaJumPuGeo
import Derived.Test.YtieepiblancbpaaJumPuList
set_option linter.unusedSimpArgs false
set_option linter.unusedVariables false
namespace Go.DB
open Go Go.RowKit

theorem sortI_pw (z : List Int) : (sortI z).Pairwise (· ≤ ·) := by
  have := List.pairwise_mergeSort (le := fun x y : Int => decide (x ≤ y)) (fun a b c h1 h2 => by simp at *; omega) (fun a b => by simp; omega) z
  exact this.imp (fun h => by simpa using h)
theorem sortI_mem {z : List Int} {x : Int} : x ∈ sortI z ↔ x ∈ z := (List.mergeSort_perm z _).mem_iff

theorem compactI_strict {z : List Int} (hz : z.Pairwise (· ≤ ·)) : (compactI z).Pairwise (· < ·) ∧ ∀ x, x ∈ compactI z ↔ x ∈ z := by
  have hat : ∀ (i j : Nat), i ≤ j → (hj : j < z.length) → z.toArray[i]! ≤ z.toArray[j]! := fun i j hij hj => by
    rw [getElem!_pos _ i (by simp; omega), getElem!_pos _ j (by simpa using hj)]
    rcases Nat.lt_or_eq_of_le hij with h | h
    · simpa using List.pairwise_iff_getElem.1 hz i j (by omega) hj h
    · subst h; simp
  have hk : ∀ j, Lib.keeps z.toArray j = true ↔ j = 0 ∨ z.toArray[j]! ≠ z.toArray[j - 1]! := fun j => by unfold Lib.keeps; simp
  constructor
  · unfold compactI Lib.compact Lib.compactUpTo
    rw [List.pairwise_map]
    refine List.Pairwise.imp_of_mem (R := (· < ·)) (fun {a b} ha hb hab => ?_) (List.Pairwise.filter _ List.pairwise_lt_range)
    have hb1 : b < z.length := by simpa using (List.mem_filter.1 hb).1
    have hb2 := (hk b).1 (List.mem_filter.1 hb).2
    have h1 := hat a (b - 1) (by omega) (by omega)
    have h2 := hat (b - 1) b (by omega) hb1
    rcases hb2 with h | h
    · omega
    · omega
  · intro x
    refine ⟨compactI_mem, fun hx => ?_⟩
    obtain ⟨j, hj, rfl⟩ := List.getElem_of_mem hx
    have key : ∀ j, j < z.length → ∃ i, i < z.length ∧ Lib.keeps z.toArray i = true ∧ z.toArray[i]! = z.toArray[j]! := by
      intro j
      induction j with
      | zero => intro h; exact ⟨0, h, (hk 0).2 (.inl rfl), rfl⟩
      | succ j ih =>
        intro h
        by_cases he : z.toArray[j + 1]! = z.toArray[j]!
        · obtain ⟨i, i1, i2, i3⟩ := ih (by omega)
          exact ⟨i, i1, i2, by rw [i3, he]⟩
        · exact ⟨j + 1, h, (hk _).2 (.inr he), rfl⟩
    obtain ⟨i, i1, i2, i3⟩ := key j hj
    unfold compactI Lib.compact Lib.compactUpTo
    refine List.mem_map.2 ⟨i, List.mem_filter.2 ⟨by simpa using i1, i2⟩, ?_⟩
    rw [i3, getElem!_pos _ _ (by simpa using hj)]
    simp
theorem strict_uniq : ∀ {a b : List Int}, a.Pairwise (· < ·) → b.Pairwise (· < ·) → (∀ x, x ∈ a ↔ x ∈ b) → a = b
  | [], [], _, _, _ => rfl
  | [], y :: b, _, _, h => by have := (h y).2 (by simp); simp at this
  | x :: a, [], _, _, h => by have := (h x).1 (by simp); simp at this
  | x :: a, y :: b, ha, hb, h => by
    obtain ⟨ha1, ha2⟩ := List.pairwise_cons.1 ha
    obtain ⟨hb1, hb2⟩ := List.pairwise_cons.1 hb
    have hxy : x = y := by
      rcases List.mem_cons.1 ((h x).1 (by simp)) with e | e
      · exact e
      · rcases List.mem_cons.1 ((h y).2 (by simp)) with e' | e'
        · exact e'.symm
        · have := ha1 y e'; have := hb1 x e; omega
    subst hxy
    rw [strict_uniq ha2 hb2 (fun z => ⟨fun hz => ?_, fun hz => ?_⟩)]
    · rcases List.mem_cons.1 ((h z).1 (List.mem_cons_of_mem _ hz)) with e | e
      · subst e; have := ha1 z hz; omega
      · exact e
    · rcases List.mem_cons.1 ((h z).2 (List.mem_cons_of_mem _ hz)) with e | e
      · subst e; have := hb1 z hz; omega
      · exact e
noncomputable def normI (l : List Int) : List Int := compactI (sortI l)
theorem normI_eq {a b : List Int} (h : ∀ x, x ∈ a ↔ x ∈ b) : normI a = normI b := by
  obtain ⟨a1, a2⟩ := compactI_strict (sortI_pw a)
  obtain ⟨b1, b2⟩ := compactI_strict (sortI_pw b)
  exact strict_uniq a1 b1 (fun x => by show x ∈ compactI (sortI a) ↔ x ∈ compactI (sortI b); rw [a2, b2, sortI_mem, sortI_mem]; exact h x)
theorem normI_len (l : List Int) : (normI l).length ≤ l.length := by
  have := compactI_len (sortI l)
  have h : (sortI l).length = l.length := by simp [sortI]
  unfold normI; omega
theorem Sort_Compact {l : List Int} (h : l.length ≤ 1073741824) : slices_Sort_int l = some (sortI l) ∧ slices_Compact_int (sortI l) = some (normI l) := by
  have h2 : (sortI l).length = l.length := by simp [sortI]
  constructor
  · unfold slices_Sort_int
    rw [need_of (by omega)]
  · unfold slices_Compact_int
    rw [need_of (by omega)]; rfl

/-! Searches by halves. -/
theorem bsf_eq {x : List Geom_rail} {t : Int} (hs : x.Pairwise (fun a b => a.at_ ≤ b.at_)) (hb : ∀ r ∈ x, -1000000 ≤ r.at_ ∧ r.at_ ≤ 1000000) (ht : -2000000 ≤ t ∧ t ≤ 2000000) (hl : x.length ≤ 1000) :
    ∃ (k : Nat) (f : Bool), slices_BinarySearchFunc_int x t geom_crossed_1 = some ((k : Int), f) ∧ k ≤ x.length ∧ (∀ (j : Nat) (h : j < x.length), j < k → x[j].at_ < t) ∧ ∀ (j : Nat) (h : j < x.length), k ≤ j → t ≤ x[j].at_ := by
  have hat : ∀ (i j : Nat) (hi : i < x.length) (hj : j < x.length), i ≤ j → x[i].at_ ≤ x[j].at_ := fun i j hi hj hij => by
    rcases Nat.lt_or_eq_of_le hij with h | h
    · exact List.pairwise_iff_getElem.1 hs i j hi hj h
    · subst h; exact Int.le_refl _
  have hcmp : ∀ (j : Nat) (h : j < x.length), geom_crossed_1 x[j] t = some (x[j].at_ - t) := fun j h => by
    have := hb _ (List.getElem_mem h)
    unfold geom_crossed_1
    rw [Wk (by omega) (by omega)]
  unfold slices_BinarySearchFunc_int
  rw [bnd_eq]
  obtain ⟨e, h1, k, h2, h3, h4, h5⟩ := loop_inv (body := slices_BinarySearchFunc_int_L1 x geom_crossed_1 t) (s0 := (0, (x.length : Int)))
    (fun s => ∃ a b : Nat, s = ((a : Int), (b : Int)) ∧ a ≤ b ∧ b ≤ x.length ∧ (∀ (j : Nat) (h : j < x.length), j < a → x[j].at_ < t) ∧ ∀ (j : Nat) (h : j < x.length), b ≤ j → t ≤ x[j].at_)
    (fun s => (s.2 - s.1).toNat) (fun e => ∃ k : Nat, e = k ∧ k ≤ x.length ∧ (∀ (j : Nat) (h : j < x.length), j < k → x[j].at_ < t) ∧ ∀ (j : Nat) (h : j < x.length), k ≤ j → t ≤ x[j].at_)
    ⟨0, x.length, rfl, by omega, Nat.le_refl _, fun j h hj => by omega, fun j h hj => by omega⟩ (fun s hI => by
      obtain ⟨a, b, rfl, hab, hbn, i1, i2⟩ := hI
      unfold slices_BinarySearchFunc_int_L1
      by_cases c : a < b
      · left
        have hc : decide ((a : Int) < (b : Int)) = true := decide_eq_true (by omega)
        have hm : (a + b) / 2 < x.length := by omega
        simp only [hc, cond_true, bnd_eq]
        rw [half_eq (by omega), need_of ⟨by omega, by omega⟩, gx_nat hm, hcmp _ hm, Option.bind_some]
        by_cases d : x[(a + b) / 2].at_ - t < 0
        · rw [decide_eq_true d, cond_true, Wk (by omega) (by omega)]
          refine ⟨_, rfl, ⟨(a + b) / 2 + 1, b, by simp, by omega, hbn, fun j h hj => ?_, i2⟩, by simp only; omega⟩
          have := hat j ((a + b) / 2) h hm (by omega)
          omega
        · rw [decide_eq_false d, cond_false]
          refine ⟨_, rfl, ⟨a, (a + b) / 2, rfl, by omega, by omega, i1, fun j h hj => ?_⟩, by simp only; omega⟩
          have := hat ((a + b) / 2) j hm h (by omega)
          omega
      · right
        have hc : decide ((a : Int) < (b : Int)) = false := decide_eq_false (by omega)
        simp only [hc, cond_false]
        have : a = b := by omega
        subst this
        exact ⟨_, rfl, a, rfl, hbn, i1, i2⟩)
  subst h2
  rw [h1, Option.bind_some]
  by_cases c : k < x.length
  · have hc : decide ((k : Int) < (x.length : Int)) = true := decide_eq_true (by omega)
    rw [need_of (fun _ => ⟨by omega, by omega⟩), hc, gd_true, gx_nat c, hcmp k c]
    exact ⟨k, _, rfl, h3, h4, h5⟩
  · have hc : decide ((k : Int) < (x.length : Int)) = false := decide_eq_false (by omega)
    rw [need_of (fun h => by rw [hc] at h; cases h), hc]
    exact ⟨k, _, rfl, h3, h4, h5⟩

/-- Where a rail is crossed. -/
def hitR (m o : Geom_rail) : Prop := m.from_ < o.at_ ∧ o.at_ < m.to_ ∧ o.from_ < m.at_ ∧ m.at_ < o.to_
def spotR (m o : Geom_rail) : Int := m.along + (if m.back = true then m.to_ - o.at_ else o.at_ - m.from_)
def okR (m : Geom_rail) : Prop := (-1000000 ≤ m.at_ ∧ m.at_ ≤ 1000000) ∧ (-1000000 ≤ m.from_ ∧ m.from_ ≤ 1000000) ∧ (-1000000 ≤ m.to_ ∧ m.to_ ≤ 1000000) ∧ 0 ≤ m.along ∧ m.along ≤ 4000000000
theorem crossed_eq {mine others : List Geom_rail} {out : List Int} (hs : others.Pairwise (fun a b => a.at_ ≤ b.at_)) (hm : ∀ m ∈ mine, okR m) (ho : ∀ o ∈ others, okR o) (lm : mine.length ≤ 1000) (lo : others.length ≤ 1000)
    (hout : out.length + 1000000 ≤ 1073741824) :
    ∃ r, geom_crossed mine others out = some r ∧ (∀ x, x ∈ r ↔ x ∈ out ∨ ∃ m ∈ mine, ∃ o ∈ others, hitR m o ∧ x = spotR m o) ∧ r.length ≤ out.length + mine.length * 1000 := by
  unfold geom_crossed
  obtain ⟨s, h1, h2, h3⟩ := rfor_inv (n := (mine.length : Int)) (step := geom_crossed_L1 mine others) (s0 := out)
    (fun i s => (∀ x, x ∈ s ↔ x ∈ out ∨ ∃ m ∈ mine.take i, ∃ o ∈ others, hitR m o ∧ x = spotR m o) ∧ s.length ≤ out.length + i * 1000) (by omega) ⟨fun x => by simp, by omega⟩ (fun i s hi hI => by
      obtain ⟨hI1, hI2⟩ := hI
      have hi' : i < mine.length := by omega
      have hmi := hm _ (List.getElem_mem hi')
      obtain ⟨⟨m1, m2⟩, ⟨m3, m4⟩, ⟨m5, m6⟩, m7, m8⟩ := id hmi
      unfold geom_crossed_L1
      rw [need_of ⟨by omega, by omega⟩, bnd_eq, gx_nat hi', Wk (by omega) (by omega)]
      obtain ⟨k, f, b1, b2, b3, b4⟩ := bsf_eq (t := mine[i].from_ + 1) hs (fun r hr => (ho r hr).1) (by omega) lo
      rw [b1, Option.bind_some]
      obtain ⟨e, g1, g2, g3⟩ := loop_inv (body := geom_crossed_L2 mine[i] others) (s0 := (s, (k : Int)))
        (fun q => ∃ j : Nat, q.2 = j ∧ k ≤ j ∧ j ≤ others.length ∧ (∀ x, x ∈ q.1 ↔ x ∈ s ∨ ∃ (t : Nat) (ht : t < others.length), k ≤ t ∧ t < j ∧ hitR mine[i] others[t] ∧ x = spotR mine[i] others[t]) ∧ q.1.length ≤ s.length + (j - k))
        (fun q => ((others.length : Int) - q.2).toNat) (fun e => (∀ x, x ∈ e ↔ x ∈ s ∨ ∃ o ∈ others, hitR mine[i] o ∧ x = spotR mine[i] o) ∧ e.length ≤ s.length + 1000)
        ⟨k, rfl, Nat.le_refl _, b2, fun x => ⟨fun h => .inl h, fun h => h.elim id (fun ⟨t, ht, a, b, _⟩ => (show False by omega).elim)⟩, by simp⟩ (fun q hq => by
          obtain ⟨j, q1, q2, q3, q4, q5⟩ := hq
          obtain ⟨sj, kj⟩ := q
          simp only at q1 q4 q5
          subst q1
          unfold geom_crossed_L2
          simp only
          by_cases c : j < others.length
          · have hc : decide ((j : Int) < (others.length : Int)) = true := decide_eq_true (by omega)
            rw [need_of (fun _ => ⟨by omega, by omega⟩), hc, Bool.true_and, gx_nat c]
            obtain ⟨⟨o1, o2⟩, ⟨o3, o4⟩, ⟨o5, o6⟩, o7, o8⟩ := ho _ (List.getElem_mem c)
            by_cases d : others[j].at_ < mine[i].to_
            · left
              rw [decide_eq_true d, cond_true, need_of ⟨by omega, by omega⟩]
              simp only [bnd_eq]
              have hfr : mine[i].from_ < others[j].at_ := by have := b4 j c q2; omega
              by_cases e : others[j].from_ < mine[i].at_ ∧ mine[i].at_ < others[j].to_
              · have he : (decide (others[j].from_ < mine[i].at_) && decide (mine[i].at_ < others[j].to_)) = true := by simp [e.1, e.2]
                have hh : hitR mine[i] others[j] := ⟨hfr, d, e.1, e.2⟩
                have hin : (Option.bind (α := Int) (bif mine[i].back then some (W (mine[i].to_ - others[j].at_)) else some (W (others[j].at_ - mine[i].from_))) fun j_15 =>
                    need (room (sj.length + [W (mine[i].along + j_15)].length)) <| some (sj ++ [W (mine[i].along + j_15)])) = some (sj ++ [spotR mine[i] others[j]]) := by
                  unfold spotR
                  cases hb : mine[i].back with
                  | true =>
                    simp only [cond_true, Option.bind_some, if_true]
                    rw [Wk (n := mine[i].to_ - others[j].at_) (by omega) (by omega), Wk (by omega) (by omega), need_of (by rw [room_iff]; simp; omega)]
                  | false =>
                    simp only [cond_false, Option.bind_some]
                    rw [Wk (n := others[j].at_ - mine[i].from_) (by omega) (by omega), Wk (by omega) (by omega), need_of (by rw [room_iff]; simp; omega)]
                    simp
                rw [he, cond_true, hin, Option.bind_some, Wk (by omega) (by omega)]
                refine ⟨_, rfl, ⟨j + 1, by simp, by omega, by omega, fun x => ?_, by simp; omega⟩, by simp only; omega⟩
                rw [List.mem_append, q4, List.mem_singleton]
                constructor
                · rintro ((h | ⟨t, ht, t1, t2, t3⟩) | h)
                  · exact .inl h
                  · exact .inr ⟨t, ht, t1, by omega, t3⟩
                  · exact .inr ⟨j, c, q2, by omega, hh, h⟩
                · rintro (h | ⟨t, ht, t1, t2, t3, t4⟩)
                  · exact .inl (.inl h)
                  · by_cases z : t = j
                    · subst z; exact .inr t4
                    · exact .inl (.inr ⟨t, ht, t1, by omega, t3, t4⟩)
              · have he : (decide (others[j].from_ < mine[i].at_) && decide (mine[i].at_ < others[j].to_)) = false := by
                  rw [Bool.and_eq_false_iff]
                  by_cases e1 : others[j].from_ < mine[i].at_
                  · exact .inr (decide_eq_false fun h => e ⟨e1, h⟩)
                  · exact .inl (decide_eq_false e1)
                rw [he, cond_false, Option.bind_some, Wk (by omega) (by omega)]
                refine ⟨_, rfl, ⟨j + 1, by simp, by omega, by omega, fun x => ?_, by simp only; omega⟩, by simp only; omega⟩
                simp only
                rw [q4]
                constructor
                · rintro (h | ⟨t, ht, t1, t2, t3⟩)
                  · exact .inl h
                  · exact .inr ⟨t, ht, t1, by omega, t3⟩
                · rintro (h | ⟨t, ht, t1, t2, t3, t4⟩)
                  · exact .inl h
                  · by_cases z : t = j
                    · subst z; exact absurd ⟨t3.2.2.1, t3.2.2.2⟩ e
                    · exact .inr ⟨t, ht, t1, by omega, t3, t4⟩
            · right
              rw [decide_eq_false d, cond_false]
              refine ⟨_, rfl, fun x => ?_, by omega⟩
              rw [q4]
              constructor
              · rintro (h | ⟨t, ht, t1, t2, t3⟩)
                · exact .inl h
                · exact .inr ⟨_, List.getElem_mem ht, t3⟩
              · rintro (h | ⟨o, hoo, t3, t4⟩)
                · exact .inl h
                · obtain ⟨t, ht, rfl⟩ := List.getElem_of_mem hoo
                  refine .inr ⟨t, ht, ?_, ?_, t3, t4⟩
                  · rcases Nat.lt_or_ge t k with z | z
                    · have := b3 t ht z; have := t3.1; omega
                    · exact z
                  · rcases Nat.lt_or_ge t j with z | z
                    · exact z
                    · have hle : others[j].at_ ≤ others[t].at_ := by
                        rcases Nat.lt_or_eq_of_le z with y | y
                        · exact List.pairwise_iff_getElem.1 hs j t c ht y
                        · subst y; exact Int.le_refl _
                      have := t3.2.1; omega
          · right
            have hc : decide ((j : Int) < (others.length : Int)) = false := decide_eq_false (by omega)
            rw [need_of (fun h => by rw [hc] at h; cases h), hc, Bool.false_and, cond_false]
            refine ⟨_, rfl, fun x => ?_, by omega⟩
            rw [q4]
            constructor
            · rintro (h | ⟨t, ht, t1, t2, t3⟩)
              · exact .inl h
              · exact .inr ⟨_, List.getElem_mem ht, t3⟩
            · rintro (h | ⟨o, hoo, t3, t4⟩)
              · exact .inl h
              · obtain ⟨t, ht, rfl⟩ := List.getElem_of_mem hoo
                refine .inr ⟨t, ht, ?_, by omega, t3, t4⟩
                rcases Nat.lt_or_ge t k with z | z
                · have := b3 t ht z; have := t3.1; omega
                · exact z)
      refine ⟨e, g1, fun x => ?_, by omega⟩
      rw [g2, hI1, List.take_succ_eq_append_getElem hi']
      constructor
      · rintro ((h | ⟨m, hm', h⟩) | h)
        · exact .inl h
        · exact .inr ⟨m, List.mem_append_left _ hm', h⟩
        · exact .inr ⟨mine[i], List.mem_append_right _ (by simp), h⟩
      · rintro (h | ⟨m, hm', h⟩)
        · exact .inl (.inl h)
        · rcases List.mem_append.1 hm' with z | z
          · exact .inl (.inr ⟨m, z, h⟩)
          · obtain rfl := List.mem_singleton.1 z
            exact .inr h)
  rw [h1, Option.bind_some]
  rw [show (mine.length : Int).toNat = mine.length from rfl, List.take_length] at h2
  exact ⟨s, rfl, h2, h3⟩
end Go.DB
