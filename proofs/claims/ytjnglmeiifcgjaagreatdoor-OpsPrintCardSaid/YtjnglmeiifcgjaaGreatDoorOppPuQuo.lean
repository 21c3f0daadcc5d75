/-
  Texts in quotes that are read.
-/
import Derived.Test.YtjnglmeiifcgjaaGreatDoorExQuote
set_option linter.unusedSimpArgs false
set_option linter.unusedVariables false
namespace Go.DB
open Go Go.RowKit

/-- What is read behind a quote: the text, and what is left behind the second quote. -/
def unqF : List UInt8 → Option (List UInt8 × List UInt8)
  | [] => none
  | b :: l => if b = 34 then some ([], l) else if b = 10 then none else if b = 92 then (match l with
    | [] => none
    | c :: r => if c = 34 then (unqF r).map (fun x => (34 :: x.1, x.2)) else if c = 92 then (unqF r).map (fun x => (92 :: x.1, x.2)) else if c = 110 then (unqF r).map (fun x => (10 :: x.1, x.2)) else none)
    else (unqF l).map (fun x => (b :: x.1, x.2))
theorem unqF_nil : unqF [] = none := by rw [unqF.eq_def]
theorem unqF_cons (b : UInt8) (l : List UInt8) : unqF (b :: l) = if b = 34 then some ([], l) else if b = 10 then none else if b = 92 then (match l with
    | [] => none
    | c :: r => if c = 34 then (unqF r).map (fun x => (34 :: x.1, x.2)) else if c = 92 then (unqF r).map (fun x => (92 :: x.1, x.2)) else if c = 110 then (unqF r).map (fun x => (10 :: x.1, x.2)) else none)
    else (unqF l).map (fun x => (b :: x.1, x.2)) := by rw [unqF.eq_def]
theorem unqF_esc : ∀ (v r : List UInt8), unqF (escL v ++ 34 :: r) = some (v, r)
  | [], r => by rw [escL, List.nil_append, unqF_cons, if_pos rfl]
  | b :: v, r => by
    have ih := unqF_esc v r
    rw [escL, List.append_assoc]
    by_cases h1 : b = 10
    · subst h1
      rw [show escB 10 = [92, 110] from rfl]
      simp only [List.cons_append, List.nil_append]
      rw [unqF_cons]
      simp [ih]
    · by_cases h2 : b = 34
      · subst h2
        rw [show escB 34 = [92, 34] from rfl]
        simp only [List.cons_append, List.nil_append]
        rw [unqF_cons]
        simp [ih]
      · by_cases h3 : b = 92
        · subst h3
          rw [show escB 92 = [92, 92] from rfl]
          simp only [List.cons_append, List.nil_append]
          rw [unqF_cons]
          simp [ih]
        · have : escB b = [b] := by unfold escB; rw [if_neg h1, if_neg h2, if_neg h3]
          rw [this]
          simp only [List.cons_append, List.nil_append]
          rw [unqF_cons, if_neg h2, if_neg h1, if_neg h3, ih]; rfl
theorem unqF_back : ∀ (n : Nat) (l v r : List UInt8), l.length ≤ n → unqF l = some (v, r) → l = escL v ++ 34 :: r
  | _, [], v, r, _, h => by rw [unqF_nil] at h; cases h
  | 0, _ :: _, _, _, hl, _ => by simp at hl
  | n + 1, b :: l, v, r, hl, h => by
    simp only [List.length_cons] at hl
    rw [unqF_cons] at h
    by_cases h2 : b = 34
    · rw [if_pos h2] at h
      simp only [Option.some.injEq, Prod.mk.injEq] at h
      obtain ⟨rfl, rfl⟩ := h
      rw [h2]; rfl
    · rw [if_neg h2] at h
      by_cases h1 : b = 10
      · rw [if_pos h1] at h; cases h
      · rw [if_neg h1] at h
        by_cases h3 : b = 92
        · rw [if_pos h3] at h
          subst h3
          match l, hl, h with
          | c :: m, hl, h =>
            simp only [List.length_cons] at hl
            simp only at h
            by_cases c1 : c = 34
            · rw [if_pos c1] at h
              obtain ⟨⟨v', r'⟩, hu, he⟩ := Option.map_eq_some_iff.1 h
              simp only [Prod.mk.injEq] at he
              obtain ⟨rfl, rfl⟩ := he
              rw [unqF_back n m v' r' (by omega) hu, c1]; rfl
            · rw [if_neg c1] at h
              by_cases c2 : c = 92
              · rw [if_pos c2] at h
                obtain ⟨⟨v', r'⟩, hu, he⟩ := Option.map_eq_some_iff.1 h
                simp only [Prod.mk.injEq] at he
                obtain ⟨rfl, rfl⟩ := he
                rw [unqF_back n m v' r' (by omega) hu, c2]; rfl
              · rw [if_neg c2] at h
                by_cases c3 : c = 110
                · rw [if_pos c3] at h
                  obtain ⟨⟨v', r'⟩, hu, he⟩ := Option.map_eq_some_iff.1 h
                  simp only [Prod.mk.injEq] at he
                  obtain ⟨rfl, rfl⟩ := he
                  rw [unqF_back n m v' r' (by omega) hu, c3]; rfl
                · rw [if_neg c3] at h; cases h
        · rw [if_neg h3] at h
          obtain ⟨⟨v', r'⟩, hu, he⟩ := Option.map_eq_some_iff.1 h
          simp only [Prod.mk.injEq] at he
          obtain ⟨rfl, rfl⟩ := he
          rw [unqF_back n l v' r' (by omega) hu, escL]
          have : escB b = [b] := by unfold escB; rw [if_neg h1, if_neg h2, if_neg h3]
          rw [this]; rfl
/-- A whole text in quotes. -/
def unquoteS (s : Str) : Str × Bool := match s.b with
  | [] => (Str.nil, false)
  | q :: l => match unqF l with
    | none => (Str.nil, false)
    | some (v, r) => (⟨v⟩, r.isEmpty && q == 34)
theorem unquote_quote (s : Str) : unquoteS (quoteS s) = (s, true) := by
  unfold unquoteS quoteS
  simp only [unqF_esc s.b []]
  rfl
theorem quote_unquote {s v : Str} (h : unquoteS s = (v, true)) : quoteS v = s := by
  obtain ⟨b⟩ := s
  unfold unquoteS at h
  match b, h with
  | q :: l, h =>
    simp only at h
    cases hu : unqF l with
    | none => rw [hu] at h; simp at h
    | some x =>
      obtain ⟨w, r⟩ := x
      rw [hu] at h
      simp only [Prod.mk.injEq, Bool.and_eq_true, List.isEmpty_iff, beq_iff_eq] at h
      obtain ⟨rfl, rfl, rfl⟩ := h
      have := unqF_back _ l w [] (Nat.le_refl _) hu
      unfold quoteS
      rw [this]
end Go.DB
