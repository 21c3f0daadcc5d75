/-
  Lines that are read as operations.
-/
import Derived.Test.YtjnglmeiifcgjaaGreatDoorOppPuParse
set_option linter.unusedSimpArgs false
set_option linter.unusedVariables false
namespace Go.DB
open Go Go.RowKit

theorem SplitN7 (s : Str) (hs : s.b.length ≤ 4294967280) : strings_SplitN s ⟨[32]⟩ 7 = some ((cutsN 32 6 s.b).map Str.mk) := by
  unfold strings_SplitN
  rw [splitNS_one s 32 (k := 6) (by decide), need_of ⟨by omega, by decide, by decide⟩, need_of (by decide), need_of (by
    rw [List.length_map]
    have h1 := cutsN_len 32 6 s.b
    have h2 := cutsN_lenL 32 6 s.b
    show _ ≤ min 7 (s.b.length + 1)
    omega)]
theorem cuts_mem_len (c : UInt8) : ∀ (k : Nat) (l x : List UInt8), x ∈ cutsN c k l → x.length ≤ l.length
  | 0, l, x, h => by simp [cutsN] at h; rw [h]; exact Nat.le_refl _
  | k + 1, l, x, h => by
    by_cases hc : c ∈ l
    · obtain ⟨a, m, rfl, h2⟩ := mem_cut hc
      rw [cutsN_hit h2] at h
      rcases List.mem_cons.1 h with rfl | h
      · simp
      · have := cuts_mem_len c k m x h
        simp only [List.length_append, List.length_cons]; omega
    · rw [cutsN_miss hc] at h
      simp at h; rw [h]; exact Nat.le_refl _
theorem readOp_any (s : Str) (hs : s.b.length ≤ 1000000000) : ∃ x ok, edit_readOp s = some (x, ok) ∧ (ok = true → s.b = lineB x) := by
  unfold edit_readOp
  rw [bnd_eq, SplitN7 s (by omega), Option.bind_some]
  have hj := join_cuts 32 6 s.b
  have hml := cuts_mem_len 32 6 s.b
  have hlen7 := cutsN_len 32 6 s.b
  generalize cutsN 32 6 s.b = w at hj hml hlen7
  have hlen : (w.map Str.mk).length = w.length := List.length_map _
  rw [Contains_string _ _ (by rw [hlen]; omega), hlen]
  by_cases c5 : w.length < 5
  · rw [decide_eq_true (show ((w.length : Int) < 5) by omega)]
    exact ⟨_, false, rfl, fun h => by cases h⟩
  · rw [decide_eq_false (show ¬ ((w.length : Int) < 5) by omega), Bool.not_false, gd_true, Option.bind_some, Bool.false_or]
    obtain ⟨q0, q1, q2, q3, q4, r, rfl⟩ : ∃ q0 q1 q2 q3 q4 r, w = q0 :: q1 :: q2 :: q3 :: q4 :: r := by
      match w, c5 with
      | q0 :: q1 :: q2 :: q3 :: q4 :: r, _ => exact ⟨_, _, _, _, _, _, rfl⟩
      | [], c5 => exact absurd (by simp) c5
      | [_], c5 => exact absurd (by simp) c5
      | [_, _], c5 => exact absurd (by simp) c5
      | [_, _, _], c5 => exact absurd (by simp) c5
      | [_, _, _, _], c5 => exact absurd (by simp) c5
    clear hlen c5
    cases hn : decide (Str.nil ∈ (q0 :: q1 :: q2 :: q3 :: q4 :: r).map Str.mk) with
    | true => exact ⟨_, false, rfl, fun h => by cases h⟩
    | false =>
      rw [cond_false]
      have hll : ((q0 :: q1 :: q2 :: q3 :: q4 :: r).map Str.mk).length = r.length + 5 := by simp
      have n0 : inR ((q0 :: q1 :: q2 :: q3 :: q4 :: r).map Str.mk) 0 := ⟨by omega, by rw [hll]; omega⟩
      have n1 : inR ((q0 :: q1 :: q2 :: q3 :: q4 :: r).map Str.mk) 1 := ⟨by omega, by rw [hll]; omega⟩
      have n2' : inR ((q0 :: q1 :: q2 :: q3 :: q4 :: r).map Str.mk) 2 := ⟨by omega, by rw [hll]; omega⟩
      have n3' : inR ((q0 :: q1 :: q2 :: q3 :: q4 :: r).map Str.mk) 3 := ⟨by omega, by rw [hll]; omega⟩
      have n4' : inR ((q0 :: q1 :: q2 :: q3 :: q4 :: r).map Str.mk) 4 := ⟨by omega, by rw [hll]; omega⟩
      have hb : ∀ q ∈ q0 :: q1 :: q2 :: q3 :: q4 :: r, q.length ≤ 1000000000 := fun q hq => Nat.le_trans (hml q hq) hs
      obtain ⟨a1, b1, e1, k1⟩ := natural_any ⟨q1⟩ (by have := hb q1 (by simp); show q1.length ≤ _; omega)
      obtain ⟨a2, b2, e2, k2⟩ := natural_any ⟨q2⟩ (by have := hb q2 (by simp); show q2.length ≤ _; omega)
      rw [need_of n0, bnd_eq, bnd_eq, need_of n1, show gx ((q0 :: q1 :: q2 :: q3 :: q4 :: r).map Str.mk) 1 = ⟨q1⟩ from rfl, e1, Option.bind_some, bnd_eq, need_of n2', show gx ((q0 :: q1 :: q2 :: q3 :: q4 :: r).map Str.mk) 2 = ⟨q2⟩ from rfl, e2, Option.bind_some, bnd_eq, show gx ((q0 :: q1 :: q2 :: q3 :: q4 :: r).map Str.mk) 0 = ⟨q0⟩ from rfl]
      cases hb1 : b1 with
      | false => exact ⟨_, false, rfl, fun h => by cases h⟩
      | true =>
        cases hb2 : b2 with
        | false => exact ⟨_, false, rfl, fun h => by cases h⟩
        | true =>
          have k1 : q1 = Go.Lib.itoa a1 := k1 hb1
          have k2 : q2 = Go.Lib.itoa a2 := k2 hb2
          simp only [Bool.not_true, Bool.or_false, cond_false]
          rw [need_of n3', need_of n3', need_of n3', show gx ((q0 :: q1 :: q2 :: q3 :: q4 :: r).map Str.mk) 3 = ⟨q3⟩ from rfl, show gx ((q0 :: q1 :: q2 :: q3 :: q4 :: r).map Str.mk) 4 = ⟨q4⟩ from rfl]
          by_cases s1 : q3 = [115, 101, 116] ∧ (q0 :: q1 :: q2 :: q3 :: q4 :: r).length = 7
          · obtain ⟨sq, sl⟩ := s1
            match r, sl, hj, hb with
            | [q5, q6], sl, hj, hb =>
              subst sq
              rw [decide_eq_true rfl, decide_eq_true (by simp)]
              have n5 : inR ((q0 :: q1 :: q2 :: [115, 101, 116] :: q4 :: [q5, q6]).map Str.mk) 5 := ⟨by omega, by simp⟩
              have n6 : inR ((q0 :: q1 :: q2 :: [115, 101, 116] :: q4 :: [q5, q6]).map Str.mk) 6 := ⟨by omega, by simp⟩
              rw [Bool.and_true, cond_true, need_of n4', bnd_eq, need_of n5, bnd_eq, bnd_eq, need_of n6]
              have hq6 := hb q6 (by simp)
              rw [show gx ((q0 :: q1 :: q2 :: [115, 101, 116] :: q4 :: [q5, q6]).map Str.mk) 6 = ⟨q6⟩ from rfl, show gx ((q0 :: q1 :: q2 :: [115, 101, 116] :: q4 :: [q5, q6]).map Str.mk) 5 = ⟨q5⟩ from rfl, Unquoted_eq ⟨q6⟩ hq6, Option.bind_some, Option.bind_some]
              refine ⟨_, _, rfl, fun hok => ?_⟩
              have hq := quote_unquote (s := ⟨q6⟩) (v := (unquoteS ⟨q6⟩).1) (by rw [← hok])
              rw [← hj, k1, k2]
              unfold lineB bodyB
              rw [if_pos rfl]
              simp only [hq]
              simp [joinC, numsB]
          · have hcond : ((decide ((⟨q3⟩ : Str) = (⟨[115, 101, 116]⟩ : Str))) && (decide (((q0 :: q1 :: q2 :: q3 :: q4 :: r).length : Int) = 7))) = false := by
              rw [Bool.and_eq_false_iff]
              by_cases h : q3 = [115, 101, 116]
              · exact .inr (decide_eq_false (fun e => s1 ⟨h, by omega⟩))
              · exact .inl (decide_eq_false (fun e => h (by injection e)))
            rw [hcond, cond_false]
            by_cases s2 : q3 = [100, 114, 111, 112] ∧ (q0 :: q1 :: q2 :: q3 :: q4 :: r).length = 5
            · obtain ⟨sq, sl⟩ := s2
              match r, sl, hj with
              | [], sl, hj =>
                subst sq
                rw [decide_eq_true rfl, decide_eq_true (by simp), Bool.and_true, cond_true, need_of n4', bnd_eq, Option.bind_some]
                refine ⟨_, _, rfl, fun _ => ?_⟩
                rw [← hj, k1, k2]
                unfold lineB bodyB
                simp [joinC, numsB]
            · have hcond2 : ((decide ((⟨q3⟩ : Str) = (⟨[100, 114, 111, 112]⟩ : Str))) && (decide (((q0 :: q1 :: q2 :: q3 :: q4 :: r).length : Int) = 5))) = false := by
                rw [Bool.and_eq_false_iff]
                by_cases h : q3 = [100, 114, 111, 112]
                · exact .inr (decide_eq_false (fun e => s2 ⟨h, by omega⟩))
                · exact .inl (decide_eq_false (fun e => h (by injection e)))
              rw [hcond2, cond_false]
              by_cases s3 : q3 = [117, 110, 100, 111] ∧ (q0 :: q1 :: q2 :: q3 :: q4 :: r).length = 5
              · obtain ⟨sq, sl⟩ := s3
                match r, sl, hj, hb with
                | [], sl, hj, hb =>
                  subst sq
                  have hq4 := hb q4 (by simp)
                  obtain ⟨a3, b3, e3, k3⟩ := natural_any ⟨q4⟩ (by show q4.length ≤ _; omega)
                  rw [decide_eq_true rfl, decide_eq_true (by simp), Bool.and_true, cond_true, bnd_eq, need_of n4', e3, Option.bind_some, Option.bind_some]
                  refine ⟨_, _, rfl, fun hok => ?_⟩
                  have k3 := k3 hok
                  simp only at k3
                  rw [← hj, k1, k2, k3]
                  unfold lineB bodyB
                  simp [joinC, numsB]
              · have hcond3 : ((decide ((⟨q3⟩ : Str) = (⟨[117, 110, 100, 111]⟩ : Str))) && (decide (((q0 :: q1 :: q2 :: q3 :: q4 :: r).length : Int) = 5))) = false := by
                  rw [Bool.and_eq_false_iff]
                  by_cases h : q3 = [117, 110, 100, 111]
                  · exact .inr (decide_eq_false (fun e => s3 ⟨h, by omega⟩))
                  · exact .inl (decide_eq_false (fun e => h (by injection e)))
                rw [hcond3, cond_false, Option.bind_some]
                exact ⟨_, _, rfl, fun h => by cases h⟩

/-! Right operations. -/

structure RightOp (x : DOp) : Prop where
  site : nameB x.Stamp.Site = true
  no : 1 ≤ x.Stamp.No ∧ x.Stamp.No ≤ 2000
  time : 1 ≤ x.Stamp.Time ∧ x.Stamp.Time ≤ 1000000000
  body : (x.Kind = 1 ∧ nameB x.Id = true ∧ nameB x.Field = true ∧ textErr x.Value = 0 ∧ x.Of = 0) ∨ (x.Kind = 2 ∧ nameB x.Id = true ∧ x.Field = Str.nil ∧ x.Value = Str.nil ∧ x.Of = 0) ∨ (x.Kind = 3 ∧ x.Id = Str.nil ∧ x.Field = Str.nil ∧ x.Value = Str.nil ∧ 1 ≤ x.Of ∧ x.Of ≤ 2000)
theorem opsErr_no2 {l : List DOp} (h : opsErr l = 0) : ∀ x ∈ l, 1 ≤ x.Stamp.No ∧ x.Stamp.No ≤ 2000 := by
  obtain ⟨hl, hz⟩ := opsErr_len h
  have key : ∀ i : Nat, i < l.length → 1 ≤ (gx l (i : Int)).Stamp.No ∧ (gx l (i : Int)).Stamp.No ≤ (i : Int) + 1 := by
    intro i
    induction i with
    | zero =>
      intro hi
      have h1 := (opAt_zero (hz 0 hi)).2
      have hb : befOp l 0 = zeroOp := if_neg (fun e => absurd e.1 (by omega))
      rw [hb] at h1
      rw [h1]
      have : W (zeroOp.Stamp.No + 1) = 1 := by show W (0 + 1) = 1; rw [Wk (by omega) (by omega)]; rfl
      rw [this]; omega
    | succ i ih =>
      intro hi
      have h1 := (opAt_zero (hz (i + 1) hi)).2
      have h2 := ih (by omega)
      unfold befOp at h1
      rw [show ((i + 1 : Nat) : Int) - 1 = (i : Int) by omega] at h1
      by_cases c : 0 < i + 1 ∧ (gx l (i : Int)).Stamp.Site = (gx l ((i + 1 : Nat) : Int)).Stamp.Site
      · rw [if_pos c, Wk (by omega) (by omega)] at h1
        omega
      · rw [if_neg c] at h1
        have : W (zeroOp.Stamp.No + 1) = 1 := by show W (0 + 1) = 1; rw [Wk (by omega) (by omega)]; rfl
        rw [this] at h1; omega
  intro x hx
  obtain ⟨i, hi, rfl⟩ := List.getElem_of_mem hx
  have := key i hi
  rw [gx_nat hi] at this
  omega
theorem right_of {l : List DOp} (h : opsErr l = 0) : ∀ x ∈ l, RightOp x := by
  obtain ⟨hl, hz⟩ := opsErr_len h
  intro x hx
  have hno := opsErr_no2 h x hx
  obtain ⟨i, hi, rfl⟩ := List.getElem_of_mem hx
  have h0 := hz i hi
  unfold opAt at h0
  rw [gx_nat hi] at h0
  have z := firstErr_zero.1 h0
  generalize l[i] = x at *
  have z1 := z _ (List.mem_cons_self ..)
  have z3 := z (if x.Stamp.No ≠ W ((befOp l i).Stamp.No + 1) ∨ x.Stamp.Time < 1 ∨ 1000000000 < x.Stamp.Time then 3 else 0) (by simp)
  have z5 := z (bodyErr x) (by simp)
  refine ⟨?_, hno, ?_, ?_⟩
  · cases hn : nameB x.Stamp.Site with
    | true => rfl
    | false => rw [if_pos hn] at z1; cases z1
  · by_cases c : x.Stamp.No ≠ W ((befOp l i).Stamp.No + 1) ∨ x.Stamp.Time < 1 ∨ 1000000000 < x.Stamp.Time
    · rw [if_pos c] at z3; cases z3
    · exact ⟨by omega, by omega⟩
  · unfold bodyErr at z5
    by_cases c1 : x.Kind < 1 ∨ 3 < x.Kind
    · rw [if_pos c1] at z5; cases z5
    · rw [if_neg c1] at z5
      by_cases c2 : formB x = true
      · rw [if_pos c2] at z5; cases z5
      · rw [if_neg c2] at z5
        have hf : formB x = false := by simpa using c2
        unfold formB at hf
        simp only [Bool.or_eq_false_iff, Bool.and_eq_false_iff, Bool.not_eq_false, decide_eq_true_eq, decide_eq_false_iff_not, Bool.not_eq_eq_eq_not, Bool.not_true, Bool.not_false] at hf
        obtain ⟨⟨f1, f2⟩, f3⟩ := hf
        by_cases k3 : x.Kind = 3
        · rw [if_pos k3] at z5
          by_cases c4 : x.Of < 1 ∨ W (x.Stamp.No - 1) < x.Of
          · rw [if_pos c4] at z5; cases z5
          · rw [Wk (by omega) (by omega)] at c4
            refine .inr (.inr ⟨k3, ?_, ?_, ?_, by omega, by omega⟩)
            · rcases f2 with h | h
              · exact h
              · exact absurd k3 h
            · rcases f3 with h | h
              · exact h.1
              · omega
            · rcases f3 with h | h
              · exact h.2
              · omega
        · rw [if_neg k3] at z5
          have hof : x.Of = 0 := by
            rcases f1 with h | h
            · exact h
            · exact absurd h k3
          by_cases c5 : (!nameB x.Id || (decide (x.Kind = 1) && !nameB x.Field)) = true
          · rw [if_pos c5] at z5; cases z5
          · rw [if_neg c5] at z5
            have c5' : (!nameB x.Id || (decide (x.Kind = 1) && !nameB x.Field)) = false := by simpa using c5
            rw [Bool.or_eq_false_iff] at c5'
            have hid : nameB x.Id = true := by simpa using c5'.1
            by_cases k1 : x.Kind = 1
            · rw [if_pos k1] at z5
              have hfi : nameB x.Field = true := by simpa [k1] using c5'.2
              exact .inl ⟨k1, hid, hfi, z5, hof⟩
            · refine .inr (.inl ⟨by omega, hid, ?_, ?_, hof⟩)
              · rcases f3 with h | h
                · exact h.1
                · exact absurd h k1
              · rcases f3 with h | h
                · exact h.2
                · exact absurd h k1
theorem name_len {s : Str} (h : nameB s = true) : s.b.length ≤ 40 := by
  unfold nameB at h
  simp only [Bool.and_eq_true, decide_eq_true_eq] at h
  exact h.1
theorem RightOp.small {x : DOp} (h : RightOp x) : Small x := by
  obtain ⟨h1, h2, h3, h4⟩ := h
  have hs := name_len h1
  rcases h4 with ⟨_, a, b, c, d⟩ | ⟨_, a, b, c, d⟩ | ⟨_, a, b, c, d⟩
  · exact ⟨hs, name_len a, name_len b, (textErr_zero.1 c).1, by unfold InI; omega, by unfold InI; omega, by rw [d]; unfold InI; omega⟩
  · exact ⟨hs, name_len a, by rw [b]; decide, by rw [c]; decide, by unfold InI; omega, by unfold InI; omega, by rw [d]; unfold InI; omega⟩
  · exact ⟨hs, by rw [a]; decide, by rw [b]; decide, by rw [c]; decide, by unfold InI; omega, by unfold InI; omega, by unfold InI; omega⟩
theorem name_byte {s : Str} (h : nameB s = true) (c : UInt8) (hc : c = 32 ∨ c = 10) : c ∉ s.b := by
  intro hm
  unfold nameB at h
  simp only [Bool.and_eq_true, decide_eq_true_eq] at h
  obtain ⟨_, h2⟩ := h
  cases hb : s.b with
  | nil => rw [hb] at hm; cases hm
  | cons a l =>
    rw [hb] at h2 hm
    simp only [Bool.and_eq_true] at h2
    have hn : nameC c = true := by
      rcases List.mem_cons.1 hm with rfl | hm
      · unfold nameC; rw [h2.1]; rfl
      · exact List.all_eq_true.1 h2.2 c hm
    rcases hc with rfl | rfl <;> exact absurd hn (by decide)
theorem itoa_byte (n : Int) (c : UInt8) (hc : c = 32 ∨ c = 10) : c ∉ Go.Lib.itoa n := fun hm => by
  rcases itoa_mem hm with h | h
  · rcases hc with rfl | rfl <;> exact absurd h (by decide)
  · rcases hc with rfl | rfl <;> exact absurd h (by decide)
theorem esc_byte : ∀ (l : List UInt8), (10 : UInt8) ∉ escL l
  | [] => by simp [escL]
  | b :: l => by
    rw [escL, List.mem_append, not_or]
    refine ⟨?_, esc_byte l⟩
    unfold escB
    split
    · decide
    · split
      · decide
      · split
        · decide
        · rename_i h _ _
          simp only [List.mem_singleton]
          exact fun e => h e.symm
theorem quote_byte (s : Str) : (10 : UInt8) ∉ (quoteS s).b := by
  unfold quoteS
  simp only [List.mem_cons, List.mem_append, List.mem_nil_iff, or_false, not_or]
  exact ⟨by decide, esc_byte _, by decide⟩
theorem lineB_byte {x : DOp} (h : RightOp x) : (10 : UInt8) ∉ lineB x := by
  unfold lineB bodyB numsB
  have h1 := name_byte h.site 10 (.inr rfl)
  have i1 := itoa_byte x.Stamp.No 10 (.inr rfl)
  have i2 := itoa_byte x.Stamp.Time 10 (.inr rfl)
  have i3 := itoa_byte x.Of 10 (.inr rfl)
  have i4 := quote_byte x.Value
  simp only [List.map_cons, List.map_nil, joinC, List.mem_append, List.mem_cons, not_or]
  refine ⟨h1, by decide, ⟨i1, by decide, i2⟩, by decide, ?_⟩
  rcases h.body with ⟨k, a, b, c, d⟩ | ⟨k, a, b, c, d⟩ | ⟨k, a, b, c, d⟩
  · rw [if_pos k]
    have n1 := name_byte a 10 (.inr rfl)
    have n2 := name_byte b 10 (.inr rfl)
    simp only [List.mem_append, List.mem_cons, List.mem_nil_iff, or_false, not_or]
    exact ⟨⟨by decide, by decide, by decide, by decide⟩, n1, by decide, n2, by decide, i4⟩
  · rw [if_neg (by omega), if_pos k]
    have n1 := name_byte a 10 (.inr rfl)
    simp only [List.mem_append, List.mem_cons, List.mem_nil_iff, or_false, not_or]
    exact ⟨⟨by decide, by decide, by decide, by decide, by decide⟩, n1⟩
  · rw [if_neg (by omega), if_neg (by omega)]
    simp only [List.mem_append, List.mem_cons, List.mem_nil_iff, or_false, not_or]
    exact ⟨⟨by decide, by decide, by decide, by decide, by decide⟩, i3⟩
theorem name_ne {s : Str} (h : nameB s = true) : s.b ≠ [] := fun e => nameB_ne h (by cases s; simp at e; rw [e]; rfl)
/-- A line is read as the operation that it was made of. -/
theorem readOp_line {x : DOp} (h : RightOp x) : edit_readOp ⟨lineB x⟩ = some (x, true) := by
  have hsm := h.small
  have hll := lineB_len hsm
  have hs := name_byte h.site 32 (.inl rfl)
  have i1 := itoa_byte x.Stamp.No 32 (.inl rfl)
  have i2 := itoa_byte x.Stamp.Time 32 (.inl rfl)
  have i3 := itoa_byte x.Of 32 (.inl rfl)
  have e1 := natural_of (n := x.Stamp.No) (by have := h.no; omega) (by have := h.no; omega)
  have e2 := natural_of (n := x.Stamp.Time) (by have := h.time; omega) (by have := h.time; omega)
  have z0 : (⟨[]⟩ : Str) = Str.nil := rfl
  have nn : ∀ {l : List UInt8}, l ≠ [] → ¬ Str.nil = ⟨l⟩ := fun hl e => hl (by injection e with e; exact e.symm)
  have hline : lineB x = x.Stamp.Site.b ++ 32 :: (Go.Lib.itoa x.Stamp.No ++ 32 :: (Go.Lib.itoa x.Stamp.Time ++ 32 :: bodyB x)) := by
    unfold lineB numsB
    simp [joinC]
  unfold edit_readOp
  rw [bnd_eq, SplitN7 _ (by show (lineB x).length ≤ _; omega), Option.bind_some]
  rw [show (⟨lineB x⟩ : Str).b = lineB x from rfl, hline, cutsN_hit hs, cutsN_hit i1, cutsN_hit i2]
  rcases h.body with ⟨k, a, b, c, d⟩ | ⟨k, a, b, c, d⟩ | ⟨k, a, b, c, d⟩
  · have hbody : bodyB x = [115, 101, 116] ++ 32 :: (x.Id.b ++ 32 :: (x.Field.b ++ 32 :: (quoteS x.Value).b)) := by unfold bodyB; rw [if_pos k]; simp
    rw [hbody, cutsN_hit (by decide), cutsN_hit (name_byte a 32 (.inl rfl)), cutsN_hit (name_byte b 32 (.inl rfl)), cutsN]
    have hq : edit_Unquoted ⟨(quoteS x.Value).b⟩ = some (x.Value, true) := by
      rw [Unquoted_eq _ (by have := quoteS_len x.Value; have := hsm.value; show (quoteS x.Value).b.length ≤ _; omega)]
      exact congrArg some (unquote_quote x.Value)
    rw [Contains_string _ _ (by simp)]
    have hnot : ¬ Str.nil ∈ ([x.Stamp.Site.b, Go.Lib.itoa x.Stamp.No, Go.Lib.itoa x.Stamp.Time, [115, 101, 116], x.Id.b, x.Field.b, (quoteS x.Value).b] : List (List UInt8)).map Str.mk := by
      simp only [List.map_cons, List.map_nil, List.mem_cons, List.mem_nil_iff, or_false, not_or]
      exact ⟨nn (name_ne h.site), nn (itoa_ne _), nn (itoa_ne _), nn (by simp), nn (name_ne a), nn (name_ne b), nn (by simp [quoteS])⟩
    rw [decide_eq_false hnot]
    simp only [List.map_cons, List.map_nil, List.length_cons, List.length_nil]
    rw [decide_eq_false (by decide), Bool.not_false, gd_true, Option.bind_some]
    simp only [Bool.or_false, cond_false]
    rw [need_of ⟨by decide, by simp⟩, bnd_eq, bnd_eq, need_of ⟨by decide, by simp⟩]
    rw [show edit_natural (gx [(⟨x.Stamp.Site.b⟩ : Str), ⟨Go.Lib.itoa x.Stamp.No⟩, ⟨Go.Lib.itoa x.Stamp.Time⟩, ⟨[115, 101, 116]⟩, ⟨x.Id.b⟩, ⟨x.Field.b⟩, ⟨(quoteS x.Value).b⟩] 1) = some (x.Stamp.No, true) from e1, Option.bind_some, bnd_eq, need_of ⟨by decide, by simp⟩]
    rw [show edit_natural (gx [(⟨x.Stamp.Site.b⟩ : Str), ⟨Go.Lib.itoa x.Stamp.No⟩, ⟨Go.Lib.itoa x.Stamp.Time⟩, ⟨[115, 101, 116]⟩, ⟨x.Id.b⟩, ⟨x.Field.b⟩, ⟨(quoteS x.Value).b⟩] 2) = some (x.Stamp.Time, true) from e2, Option.bind_some, bnd_eq]
    simp only [Bool.not_true, Bool.or_false, cond_false]
    rw [need_of ⟨by decide, by simp⟩]
    rw [show (decide (gx [(⟨x.Stamp.Site.b⟩ : Str), ⟨Go.Lib.itoa x.Stamp.No⟩, ⟨Go.Lib.itoa x.Stamp.Time⟩, ⟨[115, 101, 116]⟩, ⟨x.Id.b⟩, ⟨x.Field.b⟩, ⟨(quoteS x.Value).b⟩] 3 = ⟨[115, 101, 116]⟩)) = true from decide_eq_true rfl]
    rw [decide_eq_true (by decide), Bool.and_true, cond_true, need_of ⟨by decide, by simp⟩, bnd_eq, need_of ⟨by decide, by simp⟩, bnd_eq, bnd_eq, need_of ⟨by decide, by simp⟩]
    rw [show edit_Unquoted (gx [(⟨x.Stamp.Site.b⟩ : Str), ⟨Go.Lib.itoa x.Stamp.No⟩, ⟨Go.Lib.itoa x.Stamp.Time⟩, ⟨[115, 101, 116]⟩, ⟨x.Id.b⟩, ⟨x.Field.b⟩, ⟨(quoteS x.Value).b⟩] 6) = some (x.Value, true) from hq, Option.bind_some, Option.bind_some]
    obtain ⟨⟨t, s, n⟩, kk, id, fi, va, of⟩ := x
    simp only at k d
    subst k; subst d
    rfl
  · have hbody : bodyB x = [100, 114, 111, 112] ++ 32 :: x.Id.b := by unfold bodyB; rw [if_neg (by omega), if_pos k]; simp
    rw [hbody, cutsN_hit (by decide), cutsN_miss (name_byte a 32 (.inl rfl))]
    rw [Contains_string _ _ (by simp)]
    have hnot : ¬ Str.nil ∈ ([x.Stamp.Site.b, Go.Lib.itoa x.Stamp.No, Go.Lib.itoa x.Stamp.Time, [100, 114, 111, 112], x.Id.b] : List (List UInt8)).map Str.mk := by
      simp only [List.map_cons, List.map_nil, List.mem_cons, List.mem_nil_iff, or_false, not_or]
      exact ⟨nn (name_ne h.site), nn (itoa_ne _), nn (itoa_ne _), nn (by simp), nn (name_ne a)⟩
    rw [decide_eq_false hnot]
    simp only [List.map_cons, List.map_nil, List.length_cons, List.length_nil]
    rw [decide_eq_false (by decide), Bool.not_false, gd_true, Option.bind_some]
    simp only [Bool.or_false, cond_false]
    rw [need_of ⟨by decide, by simp⟩, bnd_eq, bnd_eq, need_of ⟨by decide, by simp⟩]
    rw [show edit_natural (gx [(⟨x.Stamp.Site.b⟩ : Str), ⟨Go.Lib.itoa x.Stamp.No⟩, ⟨Go.Lib.itoa x.Stamp.Time⟩, ⟨[100, 114, 111, 112]⟩, ⟨x.Id.b⟩] 1) = some (x.Stamp.No, true) from e1, Option.bind_some, bnd_eq, need_of ⟨by decide, by simp⟩]
    rw [show edit_natural (gx [(⟨x.Stamp.Site.b⟩ : Str), ⟨Go.Lib.itoa x.Stamp.No⟩, ⟨Go.Lib.itoa x.Stamp.Time⟩, ⟨[100, 114, 111, 112]⟩, ⟨x.Id.b⟩] 2) = some (x.Stamp.Time, true) from e2, Option.bind_some, bnd_eq]
    simp only [Bool.not_true, Bool.or_false, cond_false]
    rw [need_of ⟨by decide, by simp⟩]
    rw [show (decide (gx [(⟨x.Stamp.Site.b⟩ : Str), ⟨Go.Lib.itoa x.Stamp.No⟩, ⟨Go.Lib.itoa x.Stamp.Time⟩, ⟨[100, 114, 111, 112]⟩, ⟨x.Id.b⟩] 3 = ⟨[115, 101, 116]⟩)) = false from decide_eq_false (fun e => by injection e with e; exact absurd e (by decide))]
    rw [Bool.false_and, cond_false, need_of ⟨by decide, by simp⟩]
    rw [show (decide (gx [(⟨x.Stamp.Site.b⟩ : Str), ⟨Go.Lib.itoa x.Stamp.No⟩, ⟨Go.Lib.itoa x.Stamp.Time⟩, ⟨[100, 114, 111, 112]⟩, ⟨x.Id.b⟩] 3 = ⟨[100, 114, 111, 112]⟩)) = true from decide_eq_true rfl]
    rw [decide_eq_true (by decide), Bool.and_true, cond_true, need_of ⟨by decide, by simp⟩, bnd_eq, Option.bind_some]
    obtain ⟨⟨t, s, n⟩, kk, id, fi, va, of⟩ := x
    simp only at k b c d
    subst k; subst b; subst c; subst d
    rfl
  · have hbody : bodyB x = [117, 110, 100, 111] ++ 32 :: Go.Lib.itoa x.Of := by unfold bodyB; rw [if_neg (by omega), if_neg (by omega)]; simp
    have e3 := natural_of (n := x.Of) (by omega) (by omega)
    rw [hbody, cutsN_hit (by decide), cutsN_miss i3]
    rw [Contains_string _ _ (by simp)]
    have hnot : ¬ Str.nil ∈ ([x.Stamp.Site.b, Go.Lib.itoa x.Stamp.No, Go.Lib.itoa x.Stamp.Time, [117, 110, 100, 111], Go.Lib.itoa x.Of] : List (List UInt8)).map Str.mk := by
      simp only [List.map_cons, List.map_nil, List.mem_cons, List.mem_nil_iff, or_false, not_or]
      exact ⟨nn (name_ne h.site), nn (itoa_ne _), nn (itoa_ne _), nn (by simp), nn (itoa_ne _)⟩
    rw [decide_eq_false hnot]
    simp only [List.map_cons, List.map_nil, List.length_cons, List.length_nil]
    rw [decide_eq_false (by decide), Bool.not_false, gd_true, Option.bind_some]
    simp only [Bool.or_false, cond_false]
    rw [need_of ⟨by decide, by simp⟩, bnd_eq, bnd_eq, need_of ⟨by decide, by simp⟩]
    rw [show edit_natural (gx [(⟨x.Stamp.Site.b⟩ : Str), ⟨Go.Lib.itoa x.Stamp.No⟩, ⟨Go.Lib.itoa x.Stamp.Time⟩, ⟨[117, 110, 100, 111]⟩, ⟨Go.Lib.itoa x.Of⟩] 1) = some (x.Stamp.No, true) from e1, Option.bind_some, bnd_eq, need_of ⟨by decide, by simp⟩]
    rw [show edit_natural (gx [(⟨x.Stamp.Site.b⟩ : Str), ⟨Go.Lib.itoa x.Stamp.No⟩, ⟨Go.Lib.itoa x.Stamp.Time⟩, ⟨[117, 110, 100, 111]⟩, ⟨Go.Lib.itoa x.Of⟩] 2) = some (x.Stamp.Time, true) from e2, Option.bind_some, bnd_eq]
    simp only [Bool.not_true, Bool.or_false, cond_false]
    rw [need_of ⟨by decide, by simp⟩]
    rw [show (decide (gx [(⟨x.Stamp.Site.b⟩ : Str), ⟨Go.Lib.itoa x.Stamp.No⟩, ⟨Go.Lib.itoa x.Stamp.Time⟩, ⟨[117, 110, 100, 111]⟩, ⟨Go.Lib.itoa x.Of⟩] 3 = ⟨[115, 101, 116]⟩)) = false from decide_eq_false (fun e => by injection e with e; exact absurd e (by decide))]
    rw [Bool.false_and, cond_false, need_of ⟨by decide, by simp⟩]
    rw [show (decide (gx [(⟨x.Stamp.Site.b⟩ : Str), ⟨Go.Lib.itoa x.Stamp.No⟩, ⟨Go.Lib.itoa x.Stamp.Time⟩, ⟨[117, 110, 100, 111]⟩, ⟨Go.Lib.itoa x.Of⟩] 3 = ⟨[100, 114, 111, 112]⟩)) = false from decide_eq_false (fun e => by injection e with e; exact absurd e (by decide))]
    rw [Bool.false_and, cond_false, need_of ⟨by decide, by simp⟩]
    rw [show (decide (gx [(⟨x.Stamp.Site.b⟩ : Str), ⟨Go.Lib.itoa x.Stamp.No⟩, ⟨Go.Lib.itoa x.Stamp.Time⟩, ⟨[117, 110, 100, 111]⟩, ⟨Go.Lib.itoa x.Of⟩] 3 = ⟨[117, 110, 100, 111]⟩)) = true from decide_eq_true rfl]
    rw [decide_eq_true (by decide), Bool.and_true, cond_true, bnd_eq, need_of ⟨by decide, by simp⟩]
    rw [show edit_natural (gx [(⟨x.Stamp.Site.b⟩ : Str), ⟨Go.Lib.itoa x.Stamp.No⟩, ⟨Go.Lib.itoa x.Stamp.Time⟩, ⟨[117, 110, 100, 111]⟩, ⟨Go.Lib.itoa x.Of⟩] 4) = some (x.Of, true) from e3, Option.bind_some, Option.bind_some]
    obtain ⟨⟨t, s, n⟩, kk, id, fi, va, of⟩ := x
    simp only at k a b c
    subst k; subst a; subst b; subst c
    rfl
end Go.DB
