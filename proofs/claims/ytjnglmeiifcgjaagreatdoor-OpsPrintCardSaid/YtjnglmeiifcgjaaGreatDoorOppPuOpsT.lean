/-
  Texts of operations, and what is read of any text.
-/
import Derived.Test.YtjnglmeiifcgjaaGreatDoorOppPuRead
import Derived.Test.YtjnglmeiifcgjaaGreatDoorOppPuEdits
set_option linter.unusedSimpArgs false
set_option linter.unusedVariables false
namespace Go.DB
open Go Go.RowKit

theorem Cut_eq {s : Str} (hs : s.b.length ≤ 4294967280) : strings_Cut s ⟨[10]⟩ = some (cutS s ⟨[10]⟩) := by
  unfold strings_Cut
  obtain ⟨b⟩ := s
  by_cases hc : (10 : UInt8) ∈ b
  · obtain ⟨a, m, rfl, h2⟩ := mem_cut hc
    rw [cutS_hit h2]
    simp only [List.length_append, List.length_cons] at hs
    exact need_of ⟨by show ((a ++ 10 :: m).length : Int) < _; simp only [List.length_append, List.length_cons]; omega, by show a.length ≤ _; omega, by show m.length ≤ _; omega⟩
  · rw [cutS_miss hc]
    simp only at hs
    exact need_of ⟨by show (b.length : Int) < _; omega, by show b.length ≤ _; omega, by show ([] : List UInt8).length ≤ _; decide⟩
theorem Parse_loop : ∀ (l out : List DOp) (at_ : Nat), (∀ x ∈ l, RightOp x) → out.length + l.length ≤ 1000000 → at_ ≤ out.length →
    loop edit_Parse_L1 (⟨textB l⟩, out, (at_ : Int)) = some (Res.nx (out ++ l))
  | [], out, at_, _, _, _ => by
    rw [List.append_nil]
    refine loop_done ?_
    unfold edit_Parse_L1
    rw [show (⟨textB []⟩ : Str) = Str.nil from rfl]
    rw [decide_eq_true rfl, Bool.not_true, cond_false]
  | x :: l, out, at_, h, hl, ha => by
    have hx := h x (by simp)
    have hlen := textB_len (l := x :: l) (fun y hy => (h y hy).small)
    simp only [List.length_cons] at hl
    rw [List.length_cons] at hlen
    have hstep : edit_Parse_L1 (⟨textB (x :: l)⟩, out, (at_ : Int)) = some (Step.again (⟨textB l⟩, out ++ [x], ((at_ + 1 : Nat) : Int))) := by
      unfold edit_Parse_L1
      have hne : ¬ (⟨textB (x :: l)⟩ : Str) = Str.nil := fun e => by
        have := congrArg (fun s : Str => s.b.length) e
        simp [textB, Str.nil] at this
      rw [decide_eq_false hne, Bool.not_false, cond_true, Cut_eq (by show (textB (x :: l)).length ≤ _; omega), Option.bind_some]
      rw [show (⟨textB (x :: l)⟩ : Str) = ⟨lineB x ++ 10 :: textB l⟩ from rfl, cutS_hit (lineB_byte hx)]
      simp only
      rw [readOp_line hx, Option.bind_some]
      simp only [Bool.not_true, Bool.or_self, cond_false]
      rw [need_of (by rw [room_iff, List.length_singleton]; omega), bnd_eq, bnd_eq, Wk (by omega) (by omega)]
      rfl
    rw [loop_again hstep, Parse_loop l (out ++ [x]) (at_ + 1) (fun y hy => h y (by simp [hy])) (by rw [List.length_append, List.length_singleton]; omega) (by rw [List.length_append, List.length_singleton]; omega)]
    simp
theorem Parse_text {l : List DOp} (h : opsErr l = 0) (hl : (textB l).length ≤ 1048576) : edit_Parse ⟨textB l⟩ = some (l, 0, 0) := by
  unfold edit_Parse
  have h2 := (opsErr_len h).1
  have hp := Parse_loop l [] 0 (right_of h) (by simp; omega) (Nat.le_refl _)
  rw [show ((0 : Nat) : Int) = 0 from rfl, List.nil_append] at hp
  rw [decide_eq_false (by show ¬ (1048576 < ((textB l).length : Int)); omega), cond_false, hp, bindR_nx, Check_eq, Option.bind_some, h]
  rfl
/-- What Parse makes of any text. -/
theorem Parse_any (text : Str) : ∃ x at_ e, edit_Parse text = some (x, at_, e) ∧ (e = 0 → at_ = 0 ∧ opsErr x = 0 ∧ textB x = text.b) ∧ (e ≠ 0 → x = [] ∧ 0 ≤ at_ ∧ at_ ≤ (text.b.count 10 : Nat) ∧ (e = 8 ∨ at_ = 0)) := by
  unfold edit_Parse
  by_cases c : 1048576 < text.b.length
  · rw [decide_eq_true (by omega), cond_true]
    exact ⟨_, _, _, rfl, fun h => absurd h (by decide), fun _ => ⟨rfl, Int.le_refl 0, by omega, .inr rfl⟩⟩
  · rw [decide_eq_false (by omega), cond_false]
    obtain ⟨r, h1, h2⟩ := loop_inv (body := edit_Parse_L1) (s0 := (text, ([] : List DOp), 0)) (fun s => textB s.2.1 ++ s.1.b = text.b ∧ s.2.2 = (s.2.1.length : Int) ∧ s.2.1.length ≤ (textB s.2.1).count 10) (fun s => s.1.b.length)
      (fun r => (∃ out, r = Res.nx out ∧ textB out = text.b) ∨ ∃ at_ : Int, r = Res.ab (([] : List DOp), at_, 8) ∧ 0 ≤ at_ ∧ at_ ≤ (text.b.count 10 : Nat)) ⟨rfl, rfl, Nat.zero_le _⟩ (fun s hI => by
        obtain ⟨t, out, at_⟩ := s
        obtain ⟨i1, i2, i3⟩ := hI
        simp only at i1 i2 i3
        subst i2
        have htl : (textB out).length + t.b.length = text.b.length := by rw [← i1, List.length_append]
        have hcnt : (textB out).count 10 + t.b.count 10 = text.b.count 10 := by rw [← i1, List.count_append]
        have hcl : (textB out).count 10 ≤ (textB out).length := List.count_le_length
        unfold edit_Parse_L1
        simp only
        by_cases hn : t = Str.nil
        · subst hn
          refine .inr ⟨Res.nx out, by rw [decide_eq_true rfl, Bool.not_true, cond_false], .inl ⟨out, rfl, ?_⟩⟩
          rw [← i1]; simp [Str.nil]
        · rw [decide_eq_false hn, Bool.not_false, cond_true, Cut_eq (by omega), Option.bind_some]
          obtain ⟨b⟩ := t
          simp only at htl hcnt i1
          by_cases hc : (10 : UInt8) ∈ b
          · obtain ⟨a, m, rfl, hh⟩ := mem_cut hc
            rw [cutS_hit hh]
            simp only [List.length_append, List.length_cons] at htl
            obtain ⟨x, ok, e1, e2⟩ := readOp_any ⟨a⟩ (by show a.length ≤ _; omega)
            rw [e1, Option.bind_some]
            cases hok : ok with
            | false =>
              refine .inr ⟨Res.ab (([] : List DOp), (out.length : Int), 8), rfl, .inr ⟨_, rfl, by omega, by omega⟩⟩
            | true =>
              have e2 : a = lineB x := e2 hok
              simp only [Bool.not_true, Bool.or_self, cond_false]
              refine .inl ⟨(⟨m⟩, out ++ [x], ((out.length + 1 : Nat) : Int)), ?_, ⟨?_, ?_, ?_⟩, ?_⟩
              · rw [need_of (by rw [room_iff, List.length_singleton]; omega), bnd_eq, bnd_eq, Wk (by omega) (by omega)]
                rfl
              · rw [← i1, textB_append, e2]
                simp [textB]
              · show ((out.length + 1 : Nat) : Int) = ((out ++ [x]).length : Int)
                rw [List.length_append, List.length_singleton]
              · show (out ++ [x]).length ≤ (textB (out ++ [x])).count 10
                rw [List.length_append, List.length_singleton, textB_append, List.count_append]
                have : 1 ≤ (textB [x]).count 10 := by
                  rw [textB, List.count_append, List.count_cons_self]; omega
                omega
              · show m.length < (a ++ 10 :: m).length
                rw [List.length_append, List.length_cons]; omega
          · rw [cutS_miss hc]
            obtain ⟨x, ok, e1, e2⟩ := readOp_any ⟨b⟩ (by show b.length ≤ _; omega)
            rw [e1, Option.bind_some]
            exact .inr ⟨Res.ab (([] : List DOp), (out.length : Int), 8), rfl, .inr ⟨_, rfl, by omega, by omega⟩⟩)
    rw [h1]
    rcases h2 with ⟨out, rfl, ho⟩ | ⟨at_, rfl, q1, q2⟩
    · rw [bindR_nx, Check_eq, Option.bind_some]
      by_cases hz : opsErr out = 0
      · rw [decide_eq_true hz, Bool.not_true, cond_false]
        exact ⟨_, _, _, rfl, fun _ => ⟨rfl, hz, ho⟩, fun h => absurd rfl h⟩
      · rw [decide_eq_false hz, Bool.not_false, cond_true]
        exact ⟨_, _, _, rfl, fun h => absurd h hz, fun _ => ⟨rfl, Int.le_refl 0, by omega, .inr rfl⟩⟩
    · rw [bindR_ab]
      exact ⟨_, _, _, rfl, fun h => absurd h (by decide), fun _ => ⟨rfl, q1, q2, .inl rfl⟩⟩
theorem RightOp.fit {x : DOp} (h : RightOp x) : fits x := by
  have hs := h.small
  have h1 := hs.no
  have h2 := hs.time
  have h3 := hs.of_
  have hk : InI x.Kind := by
    rcases h.body with ⟨k, _⟩ | ⟨k, _⟩ | ⟨k, _⟩ <;> rw [k] <;> decide
  have st : ∀ {s : Str} {n : Nat}, s.b.length ≤ n → n ≤ 9223372036854775807 → fits s := fun a b => Nat.le_trans a b
  exact ⟨⟨h2, st hs.site (by decide), h1⟩, hk, st hs.id (by decide), st hs.field (by decide), st hs.value (by decide), h3⟩
theorem In_eqP (n a b : Int) : ref_In n a b = some (decide (a ≤ n ∧ n ≤ b)) := by
  unfold ref_In
  by_cases h1 : a ≤ n <;> by_cases h2 : n ≤ b <;> simp [h1, h2]
theorem OpsPrint_true (l : List DOp) (text : Str) (hf : fits l) : law_OpsPrint l text = some true := by
  have hfl : ∀ x ∈ l, fits x := (fits_list.1 hf).2
  have hpr := Print_eq (l := l) (fun h x hx => (right_of h x hx).small)
  unfold law_OpsPrint
  rw [hpr, Option.bind_some, OpsError_eq hfl, Option.bind_some]
  obtain ⟨px, pat, pe, hp, hp0, hp1⟩ := Parse_any text
  -- the last part
  have last : (Option.bind (edit_Parse text) fun r7 =>
      bif decide (r7.2.2 = 0) then (
       Option.bind (gd ((decide (r7.2.1 = 0))) (ref_OpsError r7.1)) fun r8 =>
       Option.bind (gd (((decide (r7.2.1 = 0)) && (decide (r8 = 0)))) (ref_OpsText r7.1)) fun r9 =>
       some (((decide (r7.2.1 = 0)) && (decide (r8 = 0))) && (decide (r9 = text))))
      else (
       Option.bind (gd ((decide ((r7.1.length : Int) = 0))) (strings_Count text (⟨[10]⟩ : Str))) fun r10 =>
       Option.bind (gd ((decide ((r7.1.length : Int) = 0))) (ref_In r7.2.1 0 r10)) fun r11 =>
       some (((decide ((r7.1.length : Int) = 0)) && r11) && ((decide (r7.2.2 = 8)) || (decide (r7.2.1 = 0)))))) = some true := by
    rw [hp, Option.bind_some]
    simp only
    by_cases c : pe = 0
    · obtain ⟨a1, a2, a3⟩ := hp0 c
      rw [decide_eq_true c, cond_true, decide_eq_true a1, gd_true, OpsError_eq (fun x hx => (right_of a2 x hx).fit), Option.bind_some, decide_eq_true a2, Bool.and_self, gd_true,
        OpsText_eq (fun x hx => (right_of a2 x hx).small) (by have := (opsErr_len a2).1; omega), Option.bind_some, a3, decide_eq_true rfl]
      rfl
    · obtain ⟨a1, a2, a3, a4⟩ := hp1 c
      subst a1
      rw [decide_eq_false c, cond_false, decide_eq_true (show (([] : List DOp).length : Int) = 0 from rfl), gd_true]
      have hcnt : strings_Count text (⟨[10]⟩ : Str) = some ((text.b.count 10 : Nat) : Int) := by
        unfold strings_Count
        exact need_of rfl
      rw [hcnt, Option.bind_some, gd_true, In_eqP, Option.bind_some, decide_eq_true ⟨a2, a3⟩]
      rcases a4 with h | h
      · rw [decide_eq_true h]; rfl
      · rw [decide_eq_true h, Bool.or_true]; rfl
  by_cases c : opsErr l = 0
  · have htx := OpsText_eq (fun x hx => (right_of c x hx).small) (by have := (opsErr_len c).1; omega)
    have hlaw1 : law_OpsPrint_1 l = some ⟨textB l⟩ := by unfold law_OpsPrint_1; rw [htx]; rfl
    rw [decide_eq_true c, cond_true, htx, Option.bind_some, When_eq, Option.bind_some, Option.bind_some, edits_eq, Option.bind_some, if_pos c]
    by_cases d : 1048576 < (textB l).length
    · have d' : decide ((1048576 : Int) < (((⟨textB l⟩ : Str).b.length : Nat) : Int)) = true := decide_eq_true (by show (1048576 : Int) < ((textB l).length : Int); omega)
      rw [if_pos d, d', if_pos rfl]
      have : law_is_string Str.nil 4 4 (law_OpsPrint_1 l) = some true := by unfold law_is_string; rfl
      simp only [Bool.not_true, Bool.not_false, gd_true]
      rw [this, Option.bind_some]
      simp only [Bool.not_true, Bool.or_self, cond_false]
      rw [decide_eq_false (by decide), cond_false, bindR_nx]
      exact last
    · have d' : decide ((1048576 : Int) < (((⟨textB l⟩ : Str).b.length : Nat) : Int)) = false := decide_eq_false (by show ¬ (1048576 : Int) < ((textB l).length : Int); omega)
      rw [if_neg d, d', if_neg (by decide)]
      have : law_is_string ⟨textB l⟩ 0 0 (law_OpsPrint_1 l) = some true := by
        unfold law_is_string
        rw [hlaw1]
        simp
      simp only [Bool.not_true, Bool.not_false, gd_true]
      rw [this, Option.bind_some]
      simp only [Bool.not_true, Bool.or_self, cond_false, decide_true, cond_true]
      rw [Parse_text c (by omega), Option.bind_some]
      simp only [decide_true, Bool.not_true, Bool.or_self, Bool.not_false, gd_true]
      rw [Equal_Op_self l (by have := (opsErr_len c).1; omega), Option.bind_some]
      simp only [Bool.not_true, cond_false, bindR_nx]
      exact last
  · rw [decide_eq_false c, cond_false, Option.bind_some, edits_eq, Option.bind_some, if_neg c]
    have : law_is_string Str.nil (opsErr l) (opsErr l) (law_OpsPrint_1 l) = some true := by
      unfold law_is_string
      rw [decide_eq_false c, Bool.not_false, cond_true]
      simp
    simp only [Bool.not_true, Bool.not_false, gd_true]
    rw [this, Option.bind_some]
    simp only [Bool.not_true, Bool.or_self, cond_false]
    rw [decide_eq_false c, cond_false, bindR_nx]
    exact last
end Go.DB
