/- A part of the proof. -/
import Derived.Test.YtlbbcehlhbaggaaGreatDoorExItoa
import Derived.Test.YtlbbcehlhbaggaaGreatDoorExAtoi
import Derived.Lib.AtoiTie
import Derived.Test.YtlbbcehlhbaggaaGreatDoorExCut
import Derived.Test.YtlbbcehlhbaggaaGreatDoorExSplitN
import Derived.Test.YtlbbcehlhbaggaaGreatDoorExQuote
import Derived.Test.YtlbbcehlhbaggaaGreatDoorTxdLi1
import Derived.Test.YtlbbcehlhbaggaaGreatDoorPu0
import Derived.Test.YtlbbcehlhbaggaaGreatDoorExTrim
import Derived.Test.YtlbbcehlhbaggaaGreatDoorExValid
import Derived.Lib.ItoaLen
import Derived.Test.YtlbbcehlhbaggaaGreatDoorExSplit
import Derived.Lib.SplitLaws
set_option linter.unusedSimpArgs false
set_option linter.unusedVariables false
namespace Go.DB
open Go Go.RowKit
theorem digitVal_of {d : Nat} (h : d < 10) : Go.Lib.digitVal (UInt8.ofNat (48 + d)) = some d := by
  have e : (UInt8.ofNat (48 + d)).toNat = 48 + d := by rw [UInt8.toNat_ofNat']; omega
  unfold Go.Lib.digitVal
  rw [e, if_pos (by omega)]
  congr 1; omega
theorem decFrom_append : ∀ (l m : List UInt8) (acc : Nat), Go.Lib.decFrom acc (l ++ m) = (Go.Lib.decFrom acc l).bind fun a => Go.Lib.decFrom a m
  | [], m, acc => rfl
  | b :: l, m, acc => by
    simp only [List.cons_append, Go.Lib.decFrom]
    cases Go.Lib.digitVal b with
    | none => rfl
    | some d => exact decFrom_append l m _
theorem decFrom_digits (u : Nat) : ∀ acc, Go.Lib.decFrom acc (Go.Lib.decDigits u) = some (acc * 10 ^ Go.Lib.nDigits u + u) := by
  induction u using Nat.strongRecOn with
  | _ u ih =>
    intro acc
    by_cases h : u < 10
    · rw [Go.Lib.decDigits_one h, Go.Lib.nDigits_small h]
      simp only [Go.Lib.decFrom, digitVal_of h, Nat.pow_one]
    · rw [Go.Lib.decDigits, dif_neg h, Go.Lib.nDigits_big h, decFrom_append, ih (u / 10) (by omega), Option.bind_some]
      simp only [Go.Lib.decFrom, digitVal_of (show u % 10 < 10 by omega)]
      congr 1
      rw [Nat.pow_succ, Nat.add_mul, Nat.mul_assoc]; omega
theorem digits_mem (u : Nat) : ∀ b ∈ Go.Lib.decDigits u, 48 ≤ b.toNat ∧ b.toNat ≤ 57 := by
  induction u using Nat.strongRecOn with
  | _ u ih =>
    intro b hb
    have e : ∀ d, d < 10 → (UInt8.ofNat (48 + d)).toNat = 48 + d := fun d h => by rw [UInt8.toNat_ofNat']; omega
    by_cases h : u < 10
    · rw [Go.Lib.decDigits_one h] at hb
      simp only [List.mem_singleton] at hb
      rw [hb, e u h]; omega
    · rw [Go.Lib.decDigits, dif_neg h] at hb
      rcases List.mem_append.1 hb with hb | hb
      · exact ih (u / 10) (by omega) b hb
      · simp only [List.mem_singleton] at hb
        rw [hb, e _ (show u % 10 < 10 by omega)]; omega
theorem digits_ne (u : Nat) : Go.Lib.decDigits u ≠ [] := fun e => by
  have := Go.Lib.decDigits_length u
  rw [e] at this
  have := Go.Lib.nDigits_pos u
  simp at *; omega
theorem decNat_digits (u : Nat) : Go.Lib.decNat (Go.Lib.decDigits u) = some u := by
  unfold Go.Lib.decNat
  rw [if_neg (by simpa using digits_ne u), decFrom_digits]; simp
theorem atoi_itoa (n : Int) : Go.Lib.atoi (Go.Lib.itoa n) = some n := by
  unfold Go.Lib.itoa
  split
  · rename_i h
    unfold Go.Lib.atoi
    simp only [beq_self_eq_true, if_true, decNat_digits, Option.map_some]
    congr 1; omega
  · rename_i h
    cases hd : Go.Lib.decDigits n.toNat with
    | nil => exact absurd hd (digits_ne _)
    | cons b r =>
      have hb := digits_mem n.toNat b (by rw [hd]; simp)
      have h1 : (b == 45) = false := beq_eq_false_iff_ne.2 fun e => by rw [e] at hb; simp at hb
      have h2 : (b == 43) = false := beq_eq_false_iff_ne.2 fun e => by rw [e] at hb; simp at hb
      unfold Go.Lib.atoi
      simp only [h1, h2, Bool.false_eq_true, if_false]
      rw [← hd, decNat_digits, Option.map_some]
      congr 1; omega
theorem itoa_mem {n : Int} {b : UInt8} (h : b ∈ Go.Lib.itoa n) : b = 45 ∨ (48 ≤ b.toNat ∧ b.toNat ≤ 57) := by
  unfold Go.Lib.itoa at h
  split at h
  · rcases List.mem_cons.1 h with h | h
    · exact .inl h
    · exact .inr (digits_mem _ b h)
  · exact .inr (digits_mem _ b h)
theorem itoa_ne (n : Int) : Go.Lib.itoa n ≠ [] := by
  unfold Go.Lib.itoa
  split
  · simp
  · exact digits_ne _
theorem nDigits_le {u k : Nat} (hk : 1 ≤ k) (h : u < 10 ^ k) : Go.Lib.nDigits u ≤ k := by
  rcases Nat.eq_zero_or_pos u with rfl | hu
  · rw [Go.Lib.nDigits_small (by decide)]; exact hk
  · refine Nat.le_of_not_lt fun hc => ?_
    have : ∀ m, ∀ u, 0 < u → u < 10 ^ m → 1 ≤ m → Go.Lib.nDigits u ≤ m := by
      intro m
      induction m with
      | zero => intro u _ _ h; omega
      | succ m ih =>
        intro u hu h _
        by_cases h10 : u < 10
        · rw [Go.Lib.nDigits_small h10]; omega
        · rw [Go.Lib.nDigits_big h10]
          have hm : 1 ≤ m := by
            rcases Nat.eq_zero_or_pos m with rfl | h'
            · simp at h; omega
            · exact h'
          have := ih (u / 10) (by omega) (by rw [Nat.pow_succ] at h; omega) hm
          omega
    have := this k u hu h hk
    omega
theorem itoa_lenA {n : Int} {k : Nat} (hk : 1 ≤ k) (h : n.natAbs < 10 ^ k) : (Go.Lib.itoa n).length ≤ k + 1 := by
  unfold Go.Lib.itoa
  split
  · rw [List.length_cons, Go.Lib.decDigits_length]; have := nDigits_le hk h; omega
  · rw [Go.Lib.decDigits_length]; have := nDigits_le hk (show n.toNat < 10 ^ k by omega); omega
theorem atoiI_itoa {n : Int} (h : (Go.Lib.itoa n).length ≤ 18) : atoiI (itoaS n) = (n, ⟨false⟩) := by
  unfold atoiI itoaS
  simp only [Go.Lib.atoiAll_short _ h, atoi_itoa]
  rfl
theorem indexB_oneC (s : List UInt8) (c : UInt8) : Go.Lib.indexB ⟨s.toArray⟩ ⟨[c].toArray⟩ = Go.Lib.indexByte s c := by
  unfold Go.Lib.indexB
  exact Go.Lib.index_one s c
theorem indexByte_hit {c : UInt8} {m : List UInt8} : ∀ {a : List UInt8}, c ∉ a → Go.Lib.indexByte (a ++ c :: m) c = a.length
  | [], _ => by simp [Go.Lib.indexByte]
  | b :: a, h => by
    have h1 : ¬ b = c := fun e => h (by simp [e])
    have h2 : c ∉ a := fun e => h (by simp [e])
    have ih := indexByte_hit (m := m) h2
    rw [List.cons_append, Go.Lib.indexByte, if_neg (by simpa using h1), ih, if_neg (by simp)]
    simp
theorem indexByte_miss {c : UInt8} : ∀ {a : List UInt8}, c ∉ a → Go.Lib.indexByte a c = -1
  | [], _ => rfl
  | b :: a, h => by
    have h1 : ¬ b = c := fun e => h (by simp [e])
    have h2 : c ∉ a := fun e => h (by simp [e])
    rw [Go.Lib.indexByte, if_neg (by simpa using h1), indexByte_miss h2]; rfl
/-- Where a byte stands first. -/
theorem mem_cut {c : UInt8} : ∀ {l : List UInt8}, c ∈ l → ∃ a m, l = a ++ c :: m ∧ c ∉ a
  | b :: l, h => by
    by_cases e : b = c
    · exact ⟨[], l, by rw [e]; rfl, by simp⟩
    · obtain ⟨a, m, rfl, h2⟩ := mem_cut (l := l) (by simpa [Ne.symm e] using h)
      exact ⟨b :: a, m, rfl, by simp [h2, Ne.symm e]⟩
theorem cutS_hit {c : UInt8} {a m : List UInt8} (h : c ∉ a) : cutS ⟨a ++ c :: m⟩ ⟨[c]⟩ = (⟨a⟩, ⟨m⟩, true) := by
  have hi : Go.Lib.index (a ++ c :: m) [c] = a.length := (Go.Lib.index_one _ c).trans (indexByte_hit h)
  unfold cutS Go.Lib.cut
  simp only [hi, Int.natCast_nonneg, if_true]
  simp
theorem cutS_miss {c : UInt8} {a : List UInt8} (h : c ∉ a) : cutS ⟨a⟩ ⟨[c]⟩ = (⟨a⟩, ⟨[]⟩, false) := by
  have hi : Go.Lib.index a [c] = -1 := (Go.Lib.index_one _ c).trans (indexByte_miss h)
  unfold cutS Go.Lib.cut
  rw [show (⟨a⟩ : Str).b = a from rfl, show (⟨[c]⟩ : Str).b = [c] from rfl, hi]
  rfl

/-- The parts of a text between a byte, at most k + 1. -/
def cutsN (c : UInt8) : Nat → List UInt8 → List (List UInt8)
  | 0, l => [l]
  | k + 1, l => if c ∈ l then l.takeWhile (fun b => decide (b ≠ c)) :: cutsN c k (l.dropWhile (fun b => decide (b ≠ c))).tail else [l]
theorem takeWhile_hit {c : UInt8} {m : List UInt8} : ∀ {a : List UInt8}, c ∉ a → (a ++ c :: m).takeWhile (fun b => decide (b ≠ c)) = a ∧ (a ++ c :: m).dropWhile (fun b => decide (b ≠ c)) = c :: m
  | [], _ => by simp [List.takeWhile, List.dropWhile]
  | b :: a, h => by
    have h1 : ¬ b = c := fun e => h (by simp [e])
    have h2 : c ∉ a := fun e => h (by simp [e])
    obtain ⟨i1, i2⟩ := takeWhile_hit (m := m) h2
    rw [List.cons_append, List.takeWhile_cons, List.dropWhile_cons, if_pos (by simpa using h1), if_pos (by simpa using h1), i1, i2]
    exact ⟨rfl, rfl⟩
theorem cutsN_hit {c : UInt8} {k : Nat} {a m : List UInt8} (h : c ∉ a) : cutsN c (k + 1) (a ++ c :: m) = a :: cutsN c k m := by
  obtain ⟨h1, h2⟩ := takeWhile_hit (m := m) h
  rw [cutsN, if_pos (by simp), h1, h2]; rfl
theorem cutsN_miss {c : UInt8} {k : Nat} {a : List UInt8} (h : c ∉ a) : cutsN c k a = [a] := by
  cases k with
  | zero => rfl
  | succ k => rw [cutsN, if_neg h]
theorem cutsN_ne (c : UInt8) (k : Nat) (l : List UInt8) : cutsN c k l ≠ [] := by
  cases k with
  | zero => simp [cutsN]
  | succ k => rw [cutsN]; split <;> simp
theorem cutsN_lenL (c : UInt8) : ∀ (k : Nat) (l : List UInt8), (cutsN c k l).length ≤ l.length + 1
  | 0, l => by simp [cutsN]
  | k + 1, l => by
    by_cases h : c ∈ l
    · obtain ⟨a, m, rfl, h2⟩ := mem_cut h
      rw [cutsN_hit h2]
      have := cutsN_lenL c k m
      simp only [List.length_cons, List.length_append]; omega
    · rw [cutsN_miss h]; simp
/-- Parts with a byte between. -/
def joinC (c : UInt8) : List (List UInt8) → List UInt8
  | [] => []
  | [a] => a
  | a :: b :: r => a ++ c :: joinC c (b :: r)
theorem join_cuts (c : UInt8) : ∀ (k : Nat) (l : List UInt8), joinC c (cutsN c k l) = l
  | 0, l => rfl
  | k + 1, l => by
    by_cases h : c ∈ l
    · obtain ⟨a, m, rfl, h2⟩ := mem_cut h
      rw [cutsN_hit h2]
      have ih := join_cuts c k m
      cases hq : cutsN c k m with
      | nil => exact absurd hq (cutsN_ne _ _ _)
      | cons p r => rw [joinC, ← hq, ih]
    · rw [cutsN_miss h]; rfl
theorem splitB_cuts (c : UInt8) : ∀ (k : Nat) (l : List UInt8), (Go.Lib.splitB ⟨[c].toArray⟩ 0 k ⟨l.toArray⟩).map ofBytes = (cutsN c k l).map Str.mk
  | 0, l => by simp [Go.Lib.splitB, ofBytes, cutsN]
  | k + 1, l => by
    by_cases h : c ∈ l
    · obtain ⟨a, m, rfl, h2⟩ := mem_cut h
      have hb : Go.Lib.indexB ⟨(a ++ c :: m).toArray⟩ ⟨[c].toArray⟩ = a.length := (indexB_oneC _ _).trans (indexByte_hit h2)
      rw [Go.Lib.splitB_hit _ _ _ _ _ hb, cutsN_hit h2]
      have ex : ∀ i j, (ByteArray.mk (a ++ c :: m).toArray).extract i j = ⟨(((a ++ c :: m).take j).drop i).toArray⟩ := by
        intro i j
        rw [ByteArray.extract_mk]
        congr 1
        simp [List.drop_take]
      have hsz : (ByteArray.mk (a ++ c :: m).toArray).size = (a ++ c :: m).length := rfl
      have hs1 : (ByteArray.mk [c].toArray).size = 1 := rfl
      have e1 : (ByteArray.mk (a ++ c :: m).toArray).extract 0 (a.length + 0) = ⟨a.toArray⟩ := by
        rw [ex, Nat.add_zero, List.drop_zero, List.take_left]
      have e2 : (ByteArray.mk (a ++ c :: m).toArray).extract (a.length + (ByteArray.mk [c].toArray).size) (ByteArray.mk (a ++ c :: m).toArray).size = ⟨m.toArray⟩ := by
        rw [ex, hsz, hs1, List.take_length, ← List.drop_drop, List.drop_left]; rfl
      rw [e2, e1]
      simp only [List.map_cons, splitB_cuts c k m]
      simp [ofBytes]
    · have hb : Go.Lib.indexB ⟨l.toArray⟩ ⟨[c].toArray⟩ = -1 := (indexB_oneC _ _).trans (indexByte_miss h)
      rw [Go.Lib.splitB_miss _ _ _ _ hb, cutsN_miss h]
      simp [ofBytes]
/-- What is read behind a quote: the text, and what is left behind the second quote. -/
def unqF : List UInt8 → Option (List UInt8 × List UInt8)
  | [] => none
  | b :: l => if b = 34 then some ([], l) else if b = 10 then none else if b = 92 then (match l with
    | [] => none
    | c :: r => if c = 34 then (unqF r).map (fun x => (34 :: x.1, x.2)) else if c = 92 then (unqF r).map (fun x => (92 :: x.1, x.2)) else if c = 110 then (unqF r).map (fun x => (10 :: x.1, x.2)) else none)
    else (unqF l).map (fun x => (b :: x.1, x.2))
theorem unqF_nil : unqF [] = none := by rw [unqF.eq_def]
theorem unqF_cons (b : UInt8) (l : List UInt8) : unqF (b :: l) = if b = 34 then some ([], l) else if b = 10 then none else if b = 92 then (match l with
    | [] => none
    | c :: r => if c = 34 then (unqF r).map (fun x => (34 :: x.1, x.2)) else if c = 92 then (unqF r).map (fun x => (92 :: x.1, x.2)) else if c = 110 then (unqF r).map (fun x => (10 :: x.1, x.2)) else none)
    else (unqF l).map (fun x => (b :: x.1, x.2)) := by rw [unqF.eq_def]
theorem unqF_esc : ∀ (v r : List UInt8), unqF (escL v ++ 34 :: r) = some (v, r)
  | [], r => by rw [escL, List.nil_append, unqF_cons, if_pos rfl]
  | b :: v, r => by
    have ih := unqF_esc v r
    rw [escL, List.append_assoc]
    by_cases h1 : b = 10
    · subst h1
      rw [show escB 10 = [92, 110] from rfl]
      simp only [List.cons_append, List.nil_append]
      rw [unqF_cons]
      simp [ih]
    · by_cases h2 : b = 34
      · subst h2
        rw [show escB 34 = [92, 34] from rfl]
        simp only [List.cons_append, List.nil_append]
        rw [unqF_cons]
        simp [ih]
      · by_cases h3 : b = 92
        · subst h3
          rw [show escB 92 = [92, 92] from rfl]
          simp only [List.cons_append, List.nil_append]
          rw [unqF_cons]
          simp [ih]
        · have : escB b = [b] := by unfold escB; rw [if_neg h1, if_neg h2, if_neg h3]
          rw [this]
          simp only [List.cons_append, List.nil_append]
          rw [unqF_cons, if_neg h2, if_neg h1, if_neg h3, ih]; rfl
theorem unqF_back : ∀ (n : Nat) (l v r : List UInt8), l.length ≤ n → unqF l = some (v, r) → l = escL v ++ 34 :: r
  | _, [], v, r, _, h => by rw [unqF_nil] at h; cases h
  | 0, _ :: _, _, _, hl, _ => by simp at hl
  | n + 1, b :: l, v, r, hl, h => by
    simp only [List.length_cons] at hl
    rw [unqF_cons] at h
    by_cases h2 : b = 34
    · rw [if_pos h2] at h
      simp only [Option.some.injEq, Prod.mk.injEq] at h
      obtain ⟨rfl, rfl⟩ := h
      rw [h2]; rfl
    · rw [if_neg h2] at h
      by_cases h1 : b = 10
      · rw [if_pos h1] at h; cases h
      · rw [if_neg h1] at h
        by_cases h3 : b = 92
        · rw [if_pos h3] at h
          subst h3
          match l, hl, h with
          | c :: m, hl, h =>
            simp only [List.length_cons] at hl
            simp only at h
            by_cases c1 : c = 34
            · rw [if_pos c1] at h
              obtain ⟨⟨v', r'⟩, hu, he⟩ := Option.map_eq_some_iff.1 h
              simp only [Prod.mk.injEq] at he
              obtain ⟨rfl, rfl⟩ := he
              rw [unqF_back n m v' r' (by omega) hu, c1]; rfl
            · rw [if_neg c1] at h
              by_cases c2 : c = 92
              · rw [if_pos c2] at h
                obtain ⟨⟨v', r'⟩, hu, he⟩ := Option.map_eq_some_iff.1 h
                simp only [Prod.mk.injEq] at he
                obtain ⟨rfl, rfl⟩ := he
                rw [unqF_back n m v' r' (by omega) hu, c2]; rfl
              · rw [if_neg c2] at h
                by_cases c3 : c = 110
                · rw [if_pos c3] at h
                  obtain ⟨⟨v', r'⟩, hu, he⟩ := Option.map_eq_some_iff.1 h
                  simp only [Prod.mk.injEq] at he
                  obtain ⟨rfl, rfl⟩ := he
                  rw [unqF_back n m v' r' (by omega) hu, c3]; rfl
                · rw [if_neg c3] at h; cases h
        · rw [if_neg h3] at h
          obtain ⟨⟨v', r'⟩, hu, he⟩ := Option.map_eq_some_iff.1 h
          simp only [Prod.mk.injEq] at he
          obtain ⟨rfl, rfl⟩ := he
          rw [unqF_back n l v' r' (by omega) hu, escL]
          have : escB b = [b] := by unfold escB; rw [if_neg h1, if_neg h2, if_neg h3]
          rw [this]; rfl
/-- A whole text in quotes. -/
def unquoteS (s : Str) : Str × Bool := match s.b with
  | [] => (Str.nil, false)
  | q :: l => match unqF l with
    | none => (Str.nil, false)
    | some (v, r) => (⟨v⟩, r.isEmpty && q == 34)
theorem unquote_quote (s : Str) : unquoteS (quoteS s) = (s, true) := by
  unfold unquoteS quoteS
  simp only [unqF_esc s.b []]
  rfl
theorem quote_unquote {s v : Str} (h : unquoteS s = (v, true)) : quoteS v = s := by
  obtain ⟨b⟩ := s
  unfold unquoteS at h
  match b, h with
  | q :: l, h =>
    simp only at h
    cases hu : unqF l with
    | none => rw [hu] at h; simp at h
    | some x =>
      obtain ⟨w, r⟩ := x
      rw [hu] at h
      simp only [Prod.mk.injEq, Bool.and_eq_true, List.isEmpty_iff, beq_iff_eq] at h
      obtain ⟨rfl, rfl, rfl⟩ := h
      have := unqF_back _ l w [] (Nat.le_refl _) hu
      unfold quoteS
      rw [this]
/-- What a search comes to. -/
theorem rforE_index {α : Type} [Inhabited α] {l : List α} {step : Int → Unit → Option (Res Unit (Res Unit Int))} (p : α → Bool) (hl : (l.length : Int) ≤ 9223372036854775807)
    (hf : ∀ (i : Nat) (h : i < l.length), step i () = some (if p l[i] = true then .ab (.ab (i : Int)) else .nx ())) :
    rforE (l.length : Int) step (fun s => Res.nx s) () = some (match l.findIdx? p with | some i => Res.ab (i : Int) | none => Res.nx ()) := by
  obtain ⟨e, he, hp⟩ := rforE_inv (n := (l.length : Int)) (step := step) (fin := fun s => (Res.nx s : Res Unit Int)) (s0 := ()) (fun i _ => ∀ j (h : j < l.length), j < i → p l[j] = false)
    (fun e => e = match l.findIdx? p with | some i => Res.ab (i : Int) | none => Res.nx ()) hl (fun j h hj => by omega) (fun i u hi hI => by
      have hi' : i < l.length := by omega
      cases u
      rw [hf i hi']
      cases hb : p l[i] with
      | false =>
        refine .inl ⟨(), by simp, fun j h hj => ?_⟩
        rcases Nat.lt_or_eq_of_le (Nat.lt_succ_iff.1 hj) with h1 | h1
        · exact hI j h h1
        · subst h1; exact hb
      | true =>
        refine .inr ⟨_, by simp; rfl, ?_⟩
        have : l.findIdx? p = some i := by
          rw [List.findIdx?_eq_some_iff_getElem]
          exact ⟨hi', hb, fun j hj => by simpa using hI j (by omega) hj⟩
        rw [this]) (fun u hI => by
      have : l.findIdx? p = none := by
        rw [List.findIdx?_eq_none_iff]
        intro x hx
        obtain ⟨j, hj, rfl⟩ := List.mem_iff_getElem.1 hx
        exact hI j hj (by simpa using hj)
      rw [this])
  rw [he, hp]
theorem idx_any {α : Type} {l : List α} {p : α → Bool} : decide (0 ≤ (match l.findIdx? p with | some i => (i : Int) | none => -1)) = l.any p := by
  cases h : l.findIdx? p with
  | none =>
    rw [List.findIdx?_eq_none_iff] at h
    simp; exact h
  | some i =>
    obtain ⟨hi, hp, _⟩ := List.findIdx?_eq_some_iff_getElem.1 h
    have : l.any p = true := List.any_eq_true.2 ⟨_, List.getElem_mem hi, hp⟩
    rw [this]; simp
theorem First_eq {l : List Int} (hl : (l.length : Int) ≤ 9223372036854775807) : ref_First l = some (firstErr l) := by
  unfold ref_First
  rw [rforE_err (fun e => e) (fun e => Res.ab e) hl (fun i hi => ?_)]
  · by_cases h : firstErr (l.map fun e => e) = 0
    · simp only [if_pos h, bindR_nx]; simp at h; simp [h]
    · simp only [if_neg h, bindR_ab]; simp
  · unfold ref_First_L1
    rw [need_of hi]
    simp only [bnd_eq]
    by_cases h : gx l i = 0 <;> simp [h]
theorem When_eq (b : Bool) (e : Int) : ref_When b e = some (if b = true then e else 0) := by
  unfold ref_When; cases b <;> rfl
theorem In_eq (n lo hi : Int) : ref_In n lo hi = some (decide (lo ≤ n ∧ n ≤ hi)) := by
  unfold ref_In; simp
section
def outC (n : Int) : Bool := decide (n < -1000000) || decide (1000000 < n)
def ptErr (p : Point) : Int := if outC p.X = true ∨ outC p.Y = true then 3 else 0
def okP (p : Point) : Prop := -1000000 ≤ p.X ∧ p.X ≤ 1000000 ∧ -1000000 ≤ p.Y ∧ p.Y ≤ 1000000
theorem ptErr_zero {p : Point} : ptErr p = 0 ↔ okP p := by
  unfold ptErr okP outC
  simp only [Bool.or_eq_true, decide_eq_true_eq]
  constructor
  · intro h
    by_cases a : (p.X < -1000000 ∨ 1000000 < p.X) ∨ p.Y < -1000000 ∨ 1000000 < p.Y
    · rw [if_pos a] at h; omega
    · omega
  · intro h
    rw [if_neg (by omega)]
theorem ptErr_cases (p : Point) : ptErr p = 0 ∨ ptErr p = 3 := by unfold ptErr; split <;> simp
def ptsErr (l : List Point) : Int := if 1000 < l.length then 4 else firstErr (l.map ptErr)
theorem ptsErr_zero {l : List Point} : ptsErr l = 0 ↔ l.length ≤ 1000 ∧ ∀ p ∈ l, okP p := by
  unfold ptsErr
  by_cases h : 1000 < l.length
  · simp [h]; omega
  · rw [if_neg h, firstErr_zero]
    constructor
    · intro h2; exact ⟨by omega, fun p hp => ptErr_zero.1 (h2 _ (List.mem_map_of_mem hp))⟩
    · rintro ⟨_, h2⟩ e he
      obtain ⟨p, hp, rfl⟩ := List.mem_map.1 he
      exact ptErr_zero.2 (h2 p hp)

theorem CheckPoint_eq (p : Point) : geom_CheckPoint p = some (ptErr p) := by
  unfold geom_CheckPoint geom_out ptErr outC
  simp only [bind_sm]
  cases h1 : (decide (p.X < -1000000) || decide (1000000 < p.X)) <;> cases h2 : (decide (p.Y < -1000000) || decide (1000000 < p.Y)) <;> simp [h1, h2]
theorem PointError_eq (p : Point) : ref_PointError p = some (ptErr p) := by
  unfold ref_PointError ptErr
  simp only [In_eq, bind_sm, When_eq]
  by_cases h1 : -1000000 ≤ p.X ∧ p.X ≤ 1000000
  · have h1' : outC p.X = false := by unfold outC; simp; omega
    by_cases h2 : -1000000 ≤ p.Y ∧ p.Y ≤ 1000000
    · have h2' : outC p.Y = false := by unfold outC; simp; omega
      simp [h1, h2, h1', h2']
    · have h2' : outC p.Y = true := by unfold outC; simp; omega
      simp [h1, h2, h1', h2']
  · have h1' : outC p.X = true := by unfold outC; simp; omega
    simp [h1, h1']
theorem points_eq {l : List Point} (hl : (l.length : Int) ≤ 9223372036854775807) : geom_points l = some (firstErr (l.map ptErr)) := by
  unfold geom_points
  rw [rforE_err ptErr (fun e => Res.ab e) hl (fun i hi => by
    unfold geom_points_L1
    rw [need_of hi]
    simp only [bnd_eq, CheckPoint_eq, bind_sm]
    by_cases h : ptErr (gx l i) = 0 <;> simp [h])]
  by_cases h : firstErr (l.map ptErr) = 0
  · simp only [if_pos h, bindR_nx]; rw [h]
  · simp only [if_neg h, bindR_ab]
theorem CheckPoints_eq (l : List Point) : geom_CheckPoints l = some (ptsErr l) := by
  unfold geom_CheckPoints ptsErr
  by_cases h : 1000 < l.length
  · have : (1000 : Int) < l.length := by omega
    simp [h, this]
  · have : ¬ (1000 : Int) < l.length := by omega
    simp only [this, decide_false, cond_false, if_neg h]
    rw [points_eq (by omega)]; rfl
theorem PointsError_eq (l : List Point) : ref_PointsError l = some (ptsErr l) := by
  unfold ref_PointsError ptsErr
  by_cases h : 1000 < l.length
  · have : (1000 : Int) < l.length := by omega
    simp [h, this]
  · have : ¬ (1000 : Int) < l.length := by omega
    simp only [this, decide_false, cond_false, if_neg h]
    rw [rforE_err ptErr (fun e => Res.ab e) (by omega) (fun i hi => by
      unfold ref_PointsError_L1
      rw [need_of hi]
      simp only [bnd_eq, PointError_eq, bind_sm]
      by_cases h : ptErr (gx l i) = 0 <;> simp [h])]
    by_cases h : firstErr (l.map ptErr) = 0
    · simp only [if_pos h, bindR_nx]; rw [h]
    · simp only [if_neg h, bindR_ab]

/-! Paths. -/

/-- At i a path doesn't go across or down. -/
def badAt (l : List Point) (i : Nat) : Prop := decide ((gx l i).X = (gx l ((i : Int) - 1)).X) = decide ((gx l i).Y = (gx l ((i : Int) - 1)).Y)
instance (l : List Point) : DecidablePred (badAt l) := fun i => by unfold badAt; infer_instance
open Classical in
noncomputable def isPath (l : List Point) : Bool := decide (1 < l.length ∧ ¬ ∃ i, 1 ≤ i ∧ i < l.length ∧ badAt l i)
noncomputable def pathErr (l : List Point) : Int := if ptsErr l = 0 then (if isPath l = true then 0 else 2) else ptsErr l
/-- How far apart two points are, across and down. -/
def farI (a b : Point) : Int := max (a.X - b.X) (-(a.X - b.X)) + max (a.Y - b.Y) (-(a.Y - b.Y))
/-- How long a path is up to its point i - 1. -/
def lenUpto (l : List Point) : Nat → Int
  | 0 => 0
  | i + 1 => lenUpto l i + (if i = 0 then 0 else farI (gx l ((i : Int) - 1)) (gx l i))
end
def okB (b : Box) : Prop := -1000000 ≤ b.X ∧ b.X ≤ 1000000 ∧ -1000000 ≤ b.Y ∧ b.Y ≤ 1000000 ∧ 1 ≤ b.W_ ∧ b.W_ ≤ 20000 ∧ 1 ≤ b.H ∧ b.H ≤ 20000
instance (b : Box) : Decidable (okB b) := by unfold okB; infer_instance
def boxErr (b : Box) : Int := if okB b then 0 else 3
theorem boxErr_zero {b : Box} : boxErr b = 0 ↔ okB b := by unfold boxErr; split <;> simp_all
theorem CheckBox_eq (b : Box) : geom_CheckBox b = some (boxErr b) := by
  unfold geom_CheckBox geom_out boxErr
  simp only [bind_sm]
  by_cases h : okB b
  · rw [if_pos h]
    unfold okB at h
    have e1 : (decide (b.X < -1000000) || decide (1000000 < b.X)) = false := by simp; omega
    have e2 : (decide (b.Y < -1000000) || decide (1000000 < b.Y)) = false := by simp; omega
    simp only [e1, e2, Bool.not_false, gd_true, bind_sm, Bool.or_self, Bool.false_or]
    have e3 : (((decide (b.W_ < 1) || decide (20000 < b.W_)) || decide (b.H < 1)) || decide (20000 < b.H)) = false := by simp; omega
    rw [e3]; rfl
  · rw [if_neg h]
    unfold okB at h
    cases h1 : (decide (b.X < -1000000) || decide (1000000 < b.X)) with
    | true => simp
    | false =>
      cases h2 : (decide (b.Y < -1000000) || decide (1000000 < b.Y)) with
      | true => simp
      | false =>
        simp only [Bool.not_false, gd_true, bind_sm, Bool.or_self, Bool.false_or]
        have e3 : (((decide (b.W_ < 1) || decide (20000 < b.W_)) || decide (b.H < 1)) || decide (20000 < b.H)) = true := by
          simp at h1 h2 ⊢; omega
        rw [e3]; rfl
theorem BoxError_eq (b : Box) : ref_BoxError b = some (boxErr b) := by
  unfold ref_BoxError boxErr
  simp only [PointError_eq, In_eq, When_eq, bind_sm]
  have hF : ∀ a c : Int, ref_First [a, c] = some (firstErr [a, c]) := fun a c => First_eq (by simp)
  by_cases h : okB b
  · rw [if_pos h]
    unfold okB at h
    have e1 : ptErr ⟨b.X, b.Y⟩ = 0 := ptErr_zero.2 (by unfold okP; simp only; omega)
    have e2 : decide (1 ≤ b.W_ ∧ b.W_ ≤ 20000) = true := by simp; omega
    have e3 : decide (1 ≤ b.H ∧ b.H ≤ 20000) = true := by simp; omega
    simp [e1, e2, e3, hF]
  · rw [if_neg h]
    unfold okB at h
    by_cases c : ptErr ⟨b.X, b.Y⟩ = 0
    · have c' := ptErr_zero.1 c
      unfold okP at c'
      simp only at c'
      by_cases c2 : 1 ≤ b.W_ ∧ b.W_ ≤ 20000
      · have e2 : decide (1 ≤ b.W_ ∧ b.W_ ≤ 20000) = true := by simpa using c2
        have e3 : decide (1 ≤ b.H ∧ b.H ≤ 20000) = false := by simp; omega
        simp [c, e2, e3, hF]
      · have e2 : decide (1 ≤ b.W_ ∧ b.W_ ≤ 20000) = false := by simpa using c2
        simp [c, e2, hF]
    · have e1 : ptErr ⟨b.X, b.Y⟩ = 3 := (ptErr_cases _).resolve_left c
      rw [e1]
      cases decide (1 ≤ b.W_ ∧ b.W_ ≤ 20000) <;> cases decide (1 ≤ b.H ∧ b.H ≤ 20000) <;> simp [hF]
/-! Loops. -/

/-- A loop that gathers, however much. -/
theorem rfor_gatherN (N : Nat) (hN : N ≤ 4611686018427387904) {α β : Type} [Inhabited α] {l : List α} {step : Int → List β → Option (List β)} (g : α → List β) (s0 : List β) (hg : ∀ a ∈ l, (g a).length ≤ 1) (hl : s0.length + l.length ≤ N)
    (hf : ∀ i s, inR l i → s.length < N → step i s = some (s ++ g (gx l i))) : rfor (l.length : Int) step s0 = some (s0 ++ l.flatMap g) := by
  obtain ⟨s, h1, h2⟩ := rfor_inv (n := (l.length : Int)) (step := step) (s0 := s0) (fun i s => s = s0 ++ (l.take i).flatMap g ∧ s.length ≤ s0.length + i) (by omega) (by simp) (fun i s hi hI => by
    have hi' : i < l.length := by omega
    refine ⟨_, hf i s ⟨by omega, by omega⟩ (by omega), ?_, ?_⟩
    · rw [gx_nat hi', hI.1, List.take_succ_eq_append_getElem hi', List.flatMap_append, List.append_assoc]; simp
    · rw [gx_nat hi', List.length_append]
      have := hg _ (List.getElem_mem hi')
      omega)
  rw [h1, h2.1]; simp

/-- A loop that gathers. -/
theorem rfor_gather {α β : Type} [Inhabited α] {l : List α} {step : Int → List β → Option (List β)} (g : α → List β) (s0 : List β) (hg : ∀ a ∈ l, (g a).length ≤ 1) (hl : s0.length + l.length ≤ 1073741824)
    (hf : ∀ i s, inR l i → (s.length : Int) < 1073741824 → step i s = some (s ++ g (gx l i))) : rfor (l.length : Int) step s0 = some (s0 ++ l.flatMap g) :=
  rfor_gatherN 1073741824 (by omega) g s0 hg hl (fun i s hi hs => hf i s hi (by omega))

/-- A loop whose state is told by the place; it looks for an error. -/
theorem rforE_errS {σ O : Type} {n : Nat} {step : Int → σ → Option (Res σ O)} {fin : σ → O} (S : Nat → σ) (err : Nat → Int) (mk : Int → O) (hn : (n : Int) ≤ 9223372036854775807)
    (hf : ∀ i : Nat, i < n → (∀ j, j < i → err j = 0) → step i (S i) = some (if err i = 0 then .nx (S (i + 1)) else .ab (mk (err i)))) :
    rforE (n : Int) step fin (S 0) = some (if firstErr ((List.range n).map err) = 0 then fin (S n) else mk (firstErr ((List.range n).map err))) := by
  have hfe : ∀ (k i : Nat), firstErr ((List.range' i k).map err) = 0 ∨ ∃ j, i ≤ j ∧ j < i + k ∧ (∀ q, i ≤ q → q < j → err q = 0) ∧ err j ≠ 0 ∧ firstErr ((List.range' i k).map err) = err j := by
    intro k
    induction k with
    | zero => intro i; left; rfl
    | succ k ih =>
      intro i
      rw [List.range'_succ, List.map_cons, firstErr_cons]
      by_cases h : err i = 0
      · rw [if_pos h]
        rcases ih (i + 1) with h1 | ⟨j, h1, h2, h3, h4, h5⟩
        · exact .inl h1
        · refine .inr ⟨j, by omega, by omega, fun q q1 q2 => ?_, h4, h5⟩
          by_cases hq : q = i
          · rw [hq]; exact h
          · exact h3 q (by omega) q2
      · rw [if_neg h]
        exact .inr ⟨i, Nat.le_refl _, by omega, fun q q1 q2 => by omega, h, rfl⟩
  obtain ⟨e, h1, h2⟩ := rforE_inv (n := (n : Int)) (step := step) (fin := fin) (s0 := S 0) (fun i s => s = S i ∧ ∀ j, j < i → err j = 0)
    (fun e => e = if firstErr ((List.range n).map err) = 0 then fin (S n) else mk (firstErr ((List.range n).map err))) hn ⟨rfl, fun j h => by omega⟩ (fun i s hi hI => by
      obtain ⟨rfl, hz⟩ := hI
      have hi' : i < n := by omega
      rw [hf i hi' hz]
      by_cases he : err i = 0
      · left
        rw [if_pos he]
        refine ⟨_, rfl, rfl, fun j hj => ?_⟩
        by_cases hj' : j = i
        · rw [hj']; exact he
        · exact hz j (by omega)
      · right
        rw [if_neg he]
        refine ⟨_, rfl, ?_⟩
        have := hfe n 0
        rw [List.range_eq_range']
        rcases this with h1 | ⟨j, a1, a2, a3, a4, a5⟩
        · have := firstErr_zero.1 h1 (err i) (List.mem_map.2 ⟨i, by simp; exact hi', rfl⟩)
          exact absurd this he
        · rw [a5, if_neg a4]
          have : j = i := by
            rcases Nat.lt_trichotomy j i with c | c | c
            · exact absurd (hz j c) a4
            · exact c
            · exact absurd (a3 i (by omega) c) he
          rw [this]) (fun s hI => by
      obtain ⟨rfl, hz⟩ := hI
      have : firstErr ((List.range n).map err) = 0 := firstErr_zero.2 (fun e he => by
        obtain ⟨j, hj, rfl⟩ := List.mem_map.1 he
        exact hz j (by simpa using hj))
      rw [if_pos this]; rfl)
  rw [h1, h2]

/-! Names. -/

def lowC (c : UInt8) : Bool := decide (97 ≤ c.toNat) && decide (c.toNat ≤ 122)
def nameC (c : UInt8) : Bool := lowC c || (decide (48 ≤ c.toNat) && decide (c.toNat ≤ 57)) || decide (c.toNat = 45)
/-- What a name is. -/
def nameB (s : Str) : Bool := decide (s.b.length ≤ 40) && (match s.b with | [] => false | c :: l => lowC c && l.all nameC)
theorem nameB_ne {s : Str} (h : nameB s = true) : s ≠ Str.nil := by
  rintro rfl
  simp [nameB, Str.nil] at h

theorem trim_nil (l cs : List UInt8) : Go.Lib.trimS l cs = [] ↔ l.all (cs.contains ·) = true := by
  have hd : ∀ (m : List UInt8), m.dropWhile (cs.contains ·) = [] ↔ m.all (cs.contains ·) = true := by
    intro m
    induction m with
    | nil => simp
    | cons c m ih =>
      rw [List.dropWhile_cons, List.all_cons]
      cases h : cs.contains c with
      | true => simp only [if_true, Bool.true_and]; exact ih
      | false => simp
  unfold Go.Lib.trimS Go.Lib.trimLeftS
  rw [hd]
  unfold Go.Lib.trimRightS
  constructor
  · intro h
    -- what is left ends with a byte that is not in cs
    cases hq : l.reverse.dropWhile (cs.contains ·) with
    | nil =>
      have := (hd l.reverse).1 hq
      simpa using this
    | cons c m =>
      have hc : cs.contains c = false := by
        have := List.head?_dropWhile_not (cs.contains ·) l.reverse
        rw [hq] at this
        simpa using this
      rw [hq] at h
      have : c ∈ (c :: m).reverse := by simp
      have := List.all_eq_true.1 h c this
      rw [hc] at this; cases this
  · intro h
    have : l.reverse.dropWhile (cs.contains ·) = [] := (hd _).2 (by simpa using h)
    rw [this]; rfl

theorem nameC_mem (c : UInt8) : ([97, 98, 99, 100, 101, 102, 103, 104, 105, 106, 107, 108, 109, 110, 111, 112, 113, 114, 115, 116, 117, 118, 119, 120, 121, 122, 48, 49, 50, 51, 52, 53, 54, 55, 56, 57, 45] : List UInt8).contains c = nameC c := by
  have h : ∀ n, n < 256 → ([97, 98, 99, 100, 101, 102, 103, 104, 105, 106, 107, 108, 109, 110, 111, 112, 113, 114, 115, 116, 117, 118, 119, 120, 121, 122, 48, 49, 50, 51, 52, 53, 54, 55, 56, 57, 45] : List UInt8).contains (UInt8.ofNat n) = nameC (UInt8.ofNat n) := by decide +kernel
  have := h c.toNat (UInt8.toNat_lt c)
  simpa using this

theorem low_int (c : UInt8) : (decide ((97 : Int) ≤ (c.toNat : Int)) && decide ((c.toNat : Int) ≤ 122)) = lowC c := by
  unfold lowC
  congr 1 <;> simp only [decide_eq_decide] <;> omega
theorem dig_int (c : UInt8) : (decide ((48 : Int) ≤ (c.toNat : Int)) && decide ((c.toNat : Int) ≤ 57)) = (decide (48 ≤ c.toNat) && decide (c.toNat ≤ 57)) := by
  congr 1 <;> simp only [decide_eq_decide] <;> omega
theorem dash_int (c : UInt8) : decide ((c.toNat : Int) = 45) = decide (c.toNat = 45) := by simp only [decide_eq_decide]; omega

theorem isName_eq (s : Str) : page_isName s = some (nameB s) := by
  obtain ⟨b⟩ := s
  unfold page_isName
  cases b with
  | nil => simp [need, Str.nil, nameB, gd, strings_Trim]
  | cons c l =>
    have hne : (⟨c :: l⟩ : Str) ≠ Str.nil := by simp [Str.nil]
    have hg : gx (c :: l) 0 = c := by simp [gx]
    have hin : inR (c :: l) 0 := ⟨by omega, by simp⟩
    rw [need_of (fun _ => hin), need_of (fun _ _ => hin)]
    simp only [hg, decide_eq_false hne, Bool.not_false, Bool.true_and]
    rw [low_int]
    unfold strings_Trim
    rw [need_of ⟨by decide, by decide⟩]
    have ht : decide (trimS ⟨c :: l⟩ (⟨[97, 98, 99, 100, 101, 102, 103, 104, 105, 106, 107, 108, 109, 110, 111, 112, 113, 114, 115, 116, 117, 118, 119, 120, 121, 122, 48, 49, 50, 51, 52, 53, 54, 55, 56, 57, 45]⟩ : Str) = Str.nil) = (c :: l).all nameC := by
      rw [Bool.eq_iff_iff, decide_eq_true_eq]
      unfold trimS Str.nil
      rw [Str.mk.injEq, trim_nil]
      have : (fun x => ([97, 98, 99, 100, 101, 102, 103, 104, 105, 106, 107, 108, 109, 110, 111, 112, 113, 114, 115, 116, 117, 118, 119, 120, 121, 122, 48, 49, 50, 51, 52, 53, 54, 55, 56, 57, 45] : List UInt8).contains x) = nameC := funext nameC_mem
      rw [this]
    have hlen : decide (((c :: l).length : Int) ≤ 40) = decide ((c :: l).length ≤ 40) := by simp only [decide_eq_decide]; omega
    unfold nameB
    simp only [hlen]
    cases hA : decide ((c :: l).length ≤ 40) with
    | false => simp [gd]
    | true =>
      cases hB : lowC c with
      | false => simp [gd]
      | true =>
        simp only [Bool.and_self, gd_true, Option.bind_some, Bool.true_and, ht, List.all_cons]
        have : nameC c = true := by simp [nameC, hB]
        rw [this, Bool.true_and]
theorem isName_eqD (s : Str) : desk_isName s = some (nameB s) := by
  obtain ⟨b⟩ := s
  unfold desk_isName
  cases b with
  | nil => simp [need, Str.nil, nameB, gd, strings_Trim]
  | cons c l =>
    have hne : (⟨c :: l⟩ : Str) ≠ Str.nil := by simp [Str.nil]
    have hg : gx (c :: l) 0 = c := by simp [gx]
    have hin : inR (c :: l) 0 := ⟨by omega, by simp⟩
    rw [need_of (fun _ => hin), need_of (fun _ => hin)]
    simp only [hg, decide_eq_false hne, Bool.not_false, Bool.true_and]
    have e : ∀ X : Bool, ((X && decide ((97 : Int) ≤ (c.toNat : Int))) && decide ((c.toNat : Int) ≤ 122)) = (X && lowC c) := fun X => by rw [Bool.and_assoc, low_int]
    simp only [e]
    unfold strings_Trim
    rw [need_of ⟨by decide, by decide⟩]
    have ht : decide (trimS ⟨c :: l⟩ (⟨[97, 98, 99, 100, 101, 102, 103, 104, 105, 106, 107, 108, 109, 110, 111, 112, 113, 114, 115, 116, 117, 118, 119, 120, 121, 122, 48, 49, 50, 51, 52, 53, 54, 55, 56, 57, 45]⟩ : Str) = Str.nil) = (c :: l).all nameC := by
      rw [Bool.eq_iff_iff, decide_eq_true_eq]
      unfold trimS Str.nil
      rw [Str.mk.injEq, trim_nil]
      have : (fun x => ([97, 98, 99, 100, 101, 102, 103, 104, 105, 106, 107, 108, 109, 110, 111, 112, 113, 114, 115, 116, 117, 118, 119, 120, 121, 122, 48, 49, 50, 51, 52, 53, 54, 55, 56, 57, 45] : List UInt8).contains x) = nameC := funext nameC_mem
      rw [this]
    have hlen : decide (((c :: l).length : Int) ≤ 40) = decide ((c :: l).length ≤ 40) := by simp only [decide_eq_decide]; omega
    unfold nameB
    simp only [hlen]
    cases hA : decide ((c :: l).length ≤ 40) with
    | false => simp [gd]
    | true =>
      cases hB : lowC c with
      | false => simp [gd]
      | true =>
        simp only [Bool.and_self, gd_true, Option.bind_some, Bool.true_and, ht, List.all_cons]
        have : nameC c = true := by simp [nameC, hB]
        rw [this, Bool.true_and]
theorem NameOf_eq {s : Str} (hs : fits s) : ref_NameOf s = some (nameB s) := by
  have hl : (s.b.length : Int) ≤ 9223372036854775807 := by have : s.b.length ≤ 9223372036854775807 := hs; omega
  obtain ⟨b⟩ := s
  unfold ref_NameOf
  simp only at hl ⊢
  let ok : Nat → Bool := fun i => match i with | 0 => lowC (gx b 0) | i + 1 => nameC (gx b ((i + 1 : Nat) : Int))
  have := rforE_errS (n := b.length) (step := ref_NameOf_L1 ⟨b⟩) (fin := fun s => (Res.nx s : Res Unit Bool)) (fun _ => ()) (fun i => if ok i = true then 0 else 1) (fun _ => Res.ab false) hl (fun i hi _ => by
    unfold ref_NameOf_L1
    have hin : inR b (i : Int) := ⟨by omega, by omega⟩
    rw [need_of hin, bnd_eq]
    simp only
    generalize hc : gx b (i : Int) = c
    rw [low_int, dig_int, dash_int]
    cases i with
    | zero =>
      have : ok 0 = lowC c := by show lowC (gx b 0) = _; rw [← hc]; rfl
      rw [this]
      cases lowC c <;> simp
    | succ i =>
      have : ok (i + 1) = nameC c := by show nameC (gx b ((i + 1 : Nat) : Int)) = _; rw [hc]
      rw [this]
      have h0 : decide (((i + 1 : Nat) : Int) = 0) = false := decide_eq_false (by omega)
      rw [h0]
      unfold nameC
      cases lowC c <;> cases (decide (48 ≤ c.toNat) && decide (c.toNat ≤ 57)) <;> cases decide (c.toNat = 45) <;> simp)
  rw [this]
  have hall : firstErr ((List.range b.length).map (fun i => if ok i = true then (0 : Int) else 1)) = 0 ↔ ∀ i, i < b.length → ok i = true := by
    rw [firstErr_zero]
    constructor
    · intro h i hi
      have := h _ (List.mem_map.2 ⟨i, by simpa using hi, rfl⟩)
      by_cases c : ok i = true
      · exact c
      · rw [if_neg c] at this; cases this
    · intro h e he
      obtain ⟨i, hi, rfl⟩ := List.mem_map.1 he
      rw [if_pos (h i (by simpa using hi))]
  cases b with
  | nil => simp [nameB, Str.nil]
  | cons c l =>
    have hok : (∀ i, i < (c :: l).length → ok i = true) ↔ (lowC c && l.all nameC) = true := by
      rw [Bool.and_eq_true, List.all_eq_true]
      constructor
      · intro h
        refine ⟨h 0 (by simp), fun x hx => ?_⟩
        obtain ⟨j, hj, rfl⟩ := List.mem_iff_getElem.1 hx
        have := h (j + 1) (by simp; exact hj)
        have e : gx (c :: l) ((j + 1 : Nat) : Int) = l[j] := by rw [gx_nat (by simp; exact hj)]; rfl
        rw [← e]; exact this
      · rintro ⟨h1, h2⟩ i hi
        cases i with
        | zero => exact h1
        | succ i =>
          show nameC (gx (c :: l) ((i + 1 : Nat) : Int)) = true
          rw [gx_nat hi]
          exact h2 _ (by simp)
    have hne : (⟨c :: l⟩ : Str) ≠ Str.nil := by simp [Str.nil]
    unfold nameB
    by_cases h : (lowC c && l.all nameC) = true
    · rw [if_pos (hall.2 (hok.2 h))]
      simp only [bindR_nx, decide_eq_false hne, h, Bool.not_false, Bool.true_and, Bool.and_true]
      congr 1
      simp only [decide_eq_decide]; omega
    · have h' : (lowC c && l.all nameC) = false := by simpa using h
      rw [if_neg (fun e => h (hok.1 (hall.1 e)))]
      simp [h']
def badB (b : UInt8) : Bool := (decide (b.toNat < 32) && !decide (b.toNat = 10)) || decide (b.toNat = 127)
def textErr (s : Str) : Int := if 1000 < s.b.length then 4 else if validS s = true ∧ s.b.any badB = false then 0 else 2
theorem textErr_zero {s : Str} : textErr s = 0 ↔ s.b.length ≤ 1000 ∧ validS s = true ∧ s.b.any badB = false := by
  unfold textErr
  by_cases h : 1000 < s.b.length
  · rw [if_pos h]; simp; omega
  · rw [if_neg h]
    by_cases h2 : validS s = true ∧ s.b.any badB = false
    · rw [if_pos h2]; exact ⟨fun _ => ⟨by omega, h2⟩, fun _ => rfl⟩
    · rw [if_neg h2]; exact ⟨fun e => by simp at e, fun hh => absurd hh.2 h2⟩
theorem badB_eq (b : UInt8) : ((decide ((⟨(b.toNat : Int)⟩ : KI .u8).n < (⟨32⟩ : KI .u8).n) && !decide ((⟨(b.toNat : Int)⟩ : KI .u8).n = (⟨10⟩ : KI .u8).n)) || decide ((⟨(b.toNat : Int)⟩ : KI .u8).n = (⟨127⟩ : KI .u8).n)) = badB b := by
  unfold badB
  have e1 : decide ((⟨(b.toNat : Int)⟩ : KI .u8).n < (⟨32⟩ : KI .u8).n) = decide (b.toNat < 32) := by simp; omega
  have e2 : decide ((⟨(b.toNat : Int)⟩ : KI .u8).n = (⟨10⟩ : KI .u8).n) = decide (b.toNat = 10) := by simp; omega
  have e3 : decide ((⟨(b.toNat : Int)⟩ : KI .u8).n = (⟨127⟩ : KI .u8).n) = decide (b.toNat = 127) := by simp; omega
  rw [e1, e2, e3]
theorem CheckText_eq (s : Str) : shape_CheckText s = some (textErr s) := by
  unfold shape_CheckText
  by_cases h : 1000 < s.b.length
  · rw [decide_eq_true (by omega), show textErr s = 4 by unfold textErr; rw [if_pos h]]; rfl
  · rw [decide_eq_false (by omega), cond_false]
    simp only [utf8_ValidString, Option.bind_some]
    cases hv : validS s with
    | false => rw [show textErr s = 2 by unfold textErr; rw [if_neg h, hv, if_neg (fun x => by cases x.1)]]; rfl
    | true =>
      simp only [Bool.not_true, cond_false]
      rw [rforE_err (fun b => if badB b = true then 2 else 0) (fun e => (Res.ab e : Res Unit Int)) (by omega) (fun i hi => by
        unfold shape_CheckText_L1
        rw [need_of hi, need_of (fun _ => hi), need_of (fun _ => hi), badB_eq]
        cases badB (gx s.b i) <;> simp)]
      by_cases hb : s.b.any badB = true
      · rw [show textErr s = 2 by unfold textErr; rw [if_neg h, hb, if_neg (fun x => by cases x.2)]]
        have hne : firstErr (s.b.map (fun b => if badB b = true then (2 : Int) else 0)) = 2 := by
          clear h hv
          generalize s.b = l at hb
          induction l with
          | nil => simp at hb
          | cons b l ih =>
            rw [List.map_cons, firstErr_cons]
            by_cases c : badB b = true
            · rw [c]; simp
            · rw [if_pos (by simp [c])]
              exact ih (by simpa [c] using hb)
        rw [hne]; simp
      · have hb' : s.b.any badB = false := by simpa using hb
        rw [show textErr s = 0 by unfold textErr; rw [if_neg h, if_pos ⟨hv, hb'⟩]]
        have hz : firstErr (s.b.map (fun b => if badB b = true then (2 : Int) else 0)) = 0 := firstErr_zero.2 (fun e he => by
          obtain ⟨b, hbm, rfl⟩ := List.mem_map.1 he
          have : badB b = false := by
            cases q : badB b with
            | false => rfl
            | true => exact absurd (List.any_eq_true.2 ⟨b, hbm, q⟩) hb
          rw [this]; simp)
        rw [hz]; simp
theorem TextError_eq {s : Str} (hs : fits s) : ref_TextError s = some (textErr s) := by
  have hl : (s.b.length : Int) ≤ 9223372036854775807 := by have : s.b.length ≤ 9223372036854775807 := hs; omega
  unfold ref_TextError
  simp only [utf8_ValidString, Option.bind_some, bnd_eq]
  rw [rfor_fold (l := s.b) (fun a b => a || badB b) hl (fun i a hi => by
    unfold ref_TextError_L1
    rw [need_of (fun _ => hi), need_of (fun _ _ => hi), need_of (fun _ => hi), bnd_eq]
    rw [Bool.or_assoc, badB_eq])]
  have hf : ∀ (l : List UInt8) (a : Bool), l.foldl (fun a b => a || badB b) a = (a || l.any badB) := by
    intro l
    induction l with
    | nil => intro a; simp
    | cons b l ih => intro a; rw [List.foldl_cons, ih, List.any_cons, Bool.or_assoc]
  rw [hf, Option.bind_some, When_eq, When_eq, Option.bind_some, Option.bind_some, First_eq (by simp), Option.bind_some]
  congr 1
  unfold textErr
  by_cases h : 1000 < s.b.length
  · rw [if_pos h, if_pos (by simp; omega)]; rfl
  · rw [if_neg h, if_neg (by simp; omega)]
    by_cases h2 : validS s = true ∧ s.b.any badB = false
    · rw [if_pos h2]; simp [h2]
    · rw [if_neg h2]
      have : (!validS s || s.b.any badB) = true := by
        cases a : validS s
        · simp
        · cases b : s.b.any badB
          · exact absurd ⟨a, b⟩ h2
          · simp
      rw [if_pos (by simpa using this)]; simp
theorem join_eq (c : UInt8) : ∀ (l : List (List UInt8)), Go.Lib.join l [c] = joinC c l
  | [] => rfl
  | [a] => Go.Lib.join_one a [c]
  | a :: b :: r => by
    have ih := join_eq c (b :: r)
    rw [joinC, ← ih]
    simp [Go.Lib.join, List.intercalate, List.intersperse]
/-- The numbers, with blanks between. -/
def numsB (l : List Int) : List UInt8 := joinC 32 (l.map Go.Lib.itoa)
theorem joinC_len (c : UInt8) : ∀ (l : List (List UInt8)) (n : Nat), (∀ x ∈ l, x.length ≤ n) → (joinC c l).length ≤ l.length * (n + 1)
  | [], n, _ => by simp [joinC]
  | [a], n, h => by have := h a (by simp); simp only [joinC, List.length_singleton]; omega
  | a :: b :: r, n, h => by
    have ih := joinC_len c (b :: r) n (fun x hx => h x (by simp [hx]))
    have := h a (by simp)
    rw [joinC, List.length_append, List.length_cons]
    rw [show (a :: b :: r).length = (b :: r).length + 1 from rfl, Nat.add_mul]; omega
theorem itoa_le {n : Int} (h : InI n) : (Go.Lib.itoa n).length ≤ 21 := Go.Lib.itoa_length_le n (by unfold InI at h; omega) (by unfold InI at h; omega)
theorem numsB_len {l : List Int} (hr : ∀ x ∈ l, InI x) : (numsB l).length ≤ l.length * 22 := by
  have := joinC_len 32 (l.map Go.Lib.itoa) 21 (fun x hx => by
    obtain ⟨n, hn, rfl⟩ := List.mem_map.1 hx
    exact itoa_le (hr n hn))
  simpa [numsB] using this
theorem Itoa_eq {n : Int} (h : InI n) : strconv_Itoa n = some (itoaS n) := by
  unfold strconv_Itoa
  exact need_of (by have := itoa_le h; show (Go.Lib.itoa n).length ≤ _; omega)
theorem join_nums {l : List Int} : joinS (l.map itoaS) ⟨[32]⟩ = ⟨numsB l⟩ := by
  unfold joinS numsB
  rw [show (⟨[32]⟩ : Str).b = [32] from rfl, join_eq, List.map_map]
  rfl
theorem Join_nums {l : List Int} (hl : l.length ≤ 1000000) (hr : ∀ x ∈ l, InI x) : strings_Join (l.map itoaS) ⟨[32]⟩ = some ⟨numsB l⟩ := by
  unfold strings_Join
  rw [need_of ⟨by rw [List.length_map]; omega, by rw [join_nums]; have := numsB_len hr; show (numsB l).length ≤ _; omega⟩, join_nums]
theorem flat_one {α β : Type} (f : α → β) : ∀ l : List α, (l.flatMap fun x => [f x]) = l.map f
  | [] => rfl
  | a :: l => by rw [List.flatMap_cons, flat_one f l]; rfl
theorem Numbers_eq {l : List Int} (hl : l.length ≤ 1000000) (hr : ∀ x ∈ l, InI x) : edit_Numbers l = some ⟨numsB l⟩ := by
  unfold edit_Numbers
  have hg : (l.flatMap fun n => [itoaS n]) = l.map itoaS := flat_one itoaS l
  have h := rfor_gather (l := l) (step := edit_Numbers_L1 l) (fun n => [itoaS n]) [] (fun _ _ => Nat.le_refl 1) (by simp; omega) (fun i s hi hs => by
    unfold edit_Numbers_L1
    rw [need_of hi, Itoa_eq (hr _ (gx_mem hi)), Option.bind_some, need_of (by rw [room_iff, List.length_singleton]; omega)])
  rw [h, hg, Option.bind_some, List.nil_append, Join_nums hl hr]; rfl
/-! Cutting at a blank and a quote. -/

theorem occ34 {s : List UInt8} {j : Nat} (h : Go.Lib.occAt s [32, 34] j = true) : s[j + 1]? = some 34 := by
  unfold Go.Lib.occAt at h
  rw [List.isPrefixOf_iff_prefix] at h
  obtain ⟨t, ht⟩ := h
  have h1 : s[j + 1]? = (s.drop j)[1]? := by rw [List.getElem?_drop]
  rw [h1, ← ht]; rfl
theorem index2_hit {a m : List UInt8} (h : 34 ∉ a) : Go.Lib.index (a ++ 32 :: 34 :: m) [32, 34] = a.length := by
  refine Go.Lib.index_first (by simp) ?_ ?_
  · unfold Go.Lib.occAt
    rw [List.drop_left, List.isPrefixOf_iff_prefix]
    exact ⟨m, rfl⟩
  · intro j hj
    cases hc : Go.Lib.occAt (a ++ 32 :: 34 :: m) [32, 34] j with
    | false => rfl
    | true =>
      have h2 := occ34 hc
      exfalso
      by_cases e : j + 1 < a.length
      · rw [List.getElem?_append_left e] at h2
        exact h (List.mem_of_getElem? h2)
      · obtain e : j + 1 = a.length := by omega
        rw [e, List.getElem?_append_right (Nat.le_refl _), Nat.sub_self, List.getElem?_cons_zero] at h2
        injection h2 with h2
        exact absurd h2 (by decide)
theorem index2_miss {a : List UInt8} (h : 34 ∉ a) : Go.Lib.index a [32, 34] = -1 :=
  Go.Lib.index_none fun j _ => by
    cases hc : Go.Lib.occAt a [32, 34] j with
    | false => rfl
    | true => exact absurd (List.mem_of_getElem? (occ34 hc)) h
theorem cut2_hit {a m : List UInt8} (h : 34 ∉ a) : cutS ⟨a ++ 32 :: 34 :: m⟩ ⟨[32, 34]⟩ = (⟨a⟩, ⟨m⟩, true) := by
  unfold cutS Go.Lib.cut
  simp only [index2_hit h, Int.natCast_nonneg, if_true]
  simp
theorem cut2_miss {a : List UInt8} (h : 34 ∉ a) : cutS ⟨a⟩ ⟨[32, 34]⟩ = (⟨a⟩, ⟨[]⟩, false) := by
  unfold cutS Go.Lib.cut
  rw [show (⟨a⟩ : Str).b = a from rfl, show (⟨[32, 34]⟩ : Str).b = [32, 34] from rfl, index2_miss h]
  rfl
theorem cut2_any (s : Str) : ∃ h r q, cutS s ⟨[32, 34]⟩ = (⟨h⟩, ⟨r⟩, q) ∧ (q = true → s.b = h ++ 32 :: 34 :: r) ∧ (q = false → h = s.b ∧ r = []) := by
  rcases Go.Lib.index_spec s.b [32, 34] with ⟨h, _⟩ | ⟨i, h, hi, ho, _⟩
  · refine ⟨s.b, [], false, ?_, nofun, fun _ => ⟨rfl, rfl⟩⟩
    unfold cutS Go.Lib.cut
    rw [show (⟨[32, 34]⟩ : Str).b = [32, 34] from rfl, h]; rfl
  · refine ⟨s.b.take i, s.b.drop (i + 2), true, ?_, fun _ => ?_, nofun⟩
    · unfold cutS Go.Lib.cut
      rw [show (⟨[32, 34]⟩ : Str).b = [32, 34] from rfl, h, if_pos (Int.natCast_nonneg i)]
      rfl
    · unfold Go.Lib.occAt at ho
      rw [List.isPrefixOf_iff_prefix] at ho
      obtain ⟨t, ht⟩ := ho
      have ht2 : s.b.drop (i + 2) = t := by rw [← List.drop_drop, ← ht]; rfl
      rw [ht2, show (32 :: 34 :: t : List UInt8) = [32, 34] ++ t from rfl, ht, List.take_append_drop]

/-! All words. -/

theorem splitS_one (s : Str) (c : UInt8) : splitS s ⟨[c]⟩ = (cutsN c (s.b.count c) s.b).map Str.mk := by
  unfold splitS
  rw [show Go.Lib.countB ⟨s.b.toArray⟩ ⟨[c].toArray⟩ = s.b.count c from Go.Lib.count_one c s.b]
  exact splitB_cuts c _ s.b
theorem cuts_join (c : UInt8) : ∀ (ws : List (List UInt8)) (k : Nat), ws ≠ [] → (∀ w ∈ ws, c ∉ w) → ws.length ≤ k + 1 → cutsN c k (joinC c ws) = ws
  | [], _, h, _, _ => absurd rfl h
  | [a], k, _, h, _ => cutsN_miss (h a (by simp))
  | a :: b :: r, 0, _, _, hl => by simp at hl
  | a :: b :: r, k + 1, _, h, hl => by
    rw [joinC, cutsN_hit (h a (by simp)), cuts_join c (b :: r) k (by simp) (fun w hw => h w (by simp [hw])) (by simp only [List.length_cons] at hl ⊢; omega)]
theorem count_join (c : UInt8) : ∀ (ws : List (List UInt8)), ws ≠ [] → (∀ w ∈ ws, c ∉ w) → (joinC c ws).count c + 1 = ws.length
  | [], h, _ => absurd rfl h
  | [a], _, h => by
    show a.count c + 1 = 1
    rw [List.count_eq_zero.2 (h a (by simp))]
  | a :: b :: r, _, h => by
    have ih := count_join c (b :: r) (by simp) (fun w hw => h w (by simp [hw]))
    rw [joinC, List.count_append, List.count_cons_self, List.count_eq_zero.2 (h a (by simp)), List.length_cons, ← ih]; omega
theorem split_join {c : UInt8} {ws : List (List UInt8)} (h0 : ws ≠ []) (h : ∀ w ∈ ws, c ∉ w) : splitS ⟨joinC c ws⟩ ⟨[c]⟩ = ws.map Str.mk := by
  rw [splitS_one, show (⟨joinC c ws⟩ : Str).b = joinC c ws from rfl, cuts_join c ws _ h0 h (by have := count_join c ws h0 h; omega)]
theorem joinC_mem {c b : UInt8} : ∀ {ws : List (List UInt8)}, b ∈ joinC c ws → b = c ∨ ∃ w ∈ ws, b ∈ w
  | [], h => by simp [joinC] at h
  | [a], h => .inr ⟨a, by simp, h⟩
  | a :: d :: r, h => by
    rw [joinC, List.mem_append, List.mem_cons] at h
    rcases h with h | h | h
    · exact .inr ⟨a, by simp, h⟩
    · exact .inl h
    · rcases joinC_mem h with h | ⟨w, hw, h⟩
      · exact .inl h
      · exact .inr ⟨w, by simp [hw], h⟩

/-! Lines. -/

/-- What is at the end of a line. -/
def qB (t : Str) : List UInt8 := if t = Str.nil then [] else 32 :: (quoteS t).b
def lineW (ws : List (List UInt8)) (t : Str) : List UInt8 := joinC 32 ws ++ qB t
/-- A word that is found again. -/
structure Word (w : List UInt8) : Prop where
  ne : w ≠ []
  b32 : (32 : UInt8) ∉ w
  b34 : (34 : UInt8) ∉ w
  b10 : (10 : UInt8) ∉ w
theorem esc_no10 : ∀ (l : List UInt8), (10 : UInt8) ∉ escL l
  | [] => by simp [escL]
  | b :: l => by
    rw [escL, List.mem_append, not_or]
    refine ⟨?_, esc_no10 l⟩
    unfold escB
    split
    · decide
    · split
      · decide
      · split
        · decide
        · rename_i h _ _
          simp only [List.mem_singleton]
          exact fun e => h e.symm
theorem quote_no10 (s : Str) : (10 : UInt8) ∉ (quoteS s).b := by
  unfold quoteS
  simp only [List.mem_cons, List.mem_append, List.mem_nil_iff, or_false, not_or]
  exact ⟨by decide, esc_no10 _, by decide⟩
theorem lineW_no10 {ws : List (List UInt8)} {t : Str} (h : ∀ w ∈ ws, Word w) : (10 : UInt8) ∉ lineW ws t := by
  unfold lineW
  rw [List.mem_append, not_or]
  refine ⟨fun hm => ?_, ?_⟩
  · rcases joinC_mem hm with e | ⟨w, hw, hb⟩
    · exact absurd e (by decide)
    · exact (h w hw).b10 hb
  · unfold qB
    split
    · simp
    · rw [List.mem_cons, not_or]
      exact ⟨by decide, quote_no10 t⟩
theorem lineW_cut {ws : List (List UInt8)} {t : Str} (h : ∀ w ∈ ws, Word w) : cutS ⟨lineW ws t⟩ ⟨[32, 34]⟩ = (⟨joinC 32 ws⟩, ⟨if t = Str.nil then [] else escL t.b ++ [34]⟩, !decide (t = Str.nil)) := by
  have hj : (34 : UInt8) ∉ joinC 32 ws := fun hm => by
    rcases joinC_mem hm with e | ⟨w, hw, hb⟩
    · exact absurd e (by decide)
    · exact (h w hw).b34 hb
  unfold lineW qB
  by_cases ht : t = Str.nil
  · rw [if_pos ht, if_pos ht, List.append_nil, cut2_miss hj, decide_eq_true ht]; rfl
  · rw [if_neg ht, if_neg ht, decide_eq_false ht]
    exact cut2_hit hj
/-- Lines that end. -/
def textL : List (List UInt8) → List UInt8
  | [] => []
  | x :: l => x ++ 10 :: textL l
theorem textL_append : ∀ (a b : List (List UInt8)), textL (a ++ b) = textL a ++ textL b
  | [], _ => rfl
  | x :: a, b => by rw [List.cons_append, textL, textL, textL_append a b]; simp
theorem textL_len {n : Nat} : ∀ {l : List (List UInt8)}, (∀ x ∈ l, x.length ≤ n) → (textL l).length ≤ l.length * (n + 1)
  | [], _ => by simp [textL]
  | x :: l, h => by
    have := h x (by simp)
    have := textL_len (l := l) (fun y hy => h y (by simp [hy]))
    rw [textL, List.length_append, List.length_cons, List.length_cons, Nat.add_mul]; omega
theorem textL_count : ∀ (l : List (List UInt8)), l.length ≤ (textL l).count 10
  | [] => Nat.le_refl 0
  | x :: l => by
    have := textL_count l
    rw [textL, List.count_append, List.count_cons_self, List.length_cons]; omega
theorem quote_len (s : Str) : (quoteS s).b.length ≤ 2 * s.b.length + 2 := quoteS_len s
theorem qB_len {t : Str} {n : Nat} (h : t.b.length ≤ n) : (qB t).length ≤ 2 * n + 3 := by
  have := quote_len t
  unfold qB
  split
  · simp
  · rw [List.length_cons]; omega
/-! What is where. -/

/-- The place of a node, or -1. -/
def nodeAt (l : List DNode) (id : Str) : Int := match l.findIdx? (fun n => decide (n.Id = id)) with | some i => (i : Int) | none => -1
theorem IndexFunc_Node_eq (s : List DNode) (f : DNode → Option Bool) (p : DNode → Bool) (hl : (s.length : Int) ≤ 9223372036854775807) (hf : ∀ x ∈ s, f x = some (p x)) :
    slices_IndexFunc_Node s f = some (match s.findIdx? p with | some i => (i : Int) | none => -1) := by
  unfold slices_IndexFunc_Node
  rw [rforE_index p hl (fun i h => by unfold slices_IndexFunc_Node_L1; rw [need_of ⟨by omega, by omega⟩, gx_nat h, hf _ (List.getElem_mem h)]; simp only [bind_sm]; cases p s[i] <;> rfl)]
  cases s.findIdx? p <;> rfl
theorem ContainsFunc_Node_eq (s : List DNode) (f : DNode → Option Bool) (p : DNode → Bool) (hl : (s.length : Int) ≤ 9223372036854775807) (hf : ∀ x ∈ s, f x = some (p x)) :
    slices_ContainsFunc_Node s f = some (s.any p) := by
  unfold slices_ContainsFunc_Node
  rw [IndexFunc_Node_eq s f p hl hf, bind_sm]
  exact congrArg some idx_any
theorem IndexFunc_Edge_eq (s : List DEdge) (f : DEdge → Option Bool) (p : DEdge → Bool) (hl : (s.length : Int) ≤ 9223372036854775807) (hf : ∀ x ∈ s, f x = some (p x)) :
    slices_IndexFunc_Edge s f = some (match s.findIdx? p with | some i => (i : Int) | none => -1) := by
  unfold slices_IndexFunc_Edge
  rw [rforE_index p hl (fun i h => by unfold slices_IndexFunc_Edge_L1; rw [need_of ⟨by omega, by omega⟩, gx_nat h, hf _ (List.getElem_mem h)]; simp only [bind_sm]; cases p s[i] <;> rfl)]
  cases s.findIdx? p <;> rfl
theorem ContainsFunc_Edge_eq (s : List DEdge) (f : DEdge → Option Bool) (p : DEdge → Bool) (hl : (s.length : Int) ≤ 9223372036854775807) (hf : ∀ x ∈ s, f x = some (p x)) :
    slices_ContainsFunc_Edge s f = some (s.any p) := by
  unfold slices_ContainsFunc_Edge
  rw [IndexFunc_Edge_eq s f p hl hf, bind_sm]
  exact congrArg some idx_any
theorem NodeAt_eq {d : Doc} (hl : (d.Nodes.length : Int) ≤ 9223372036854775807) (id : Str) : ref_NodeAt d id = some (nodeAt d.Nodes id) := by
  unfold ref_NodeAt
  rw [IndexFunc_Node_eq d.Nodes (fun x0 => ref_NodeAt_1 x0 id) (fun n => decide (n.Id = id)) hl (fun x _ => rfl)]
  rfl
theorem nodeAt_neg {l : List DNode} {id : Str} : nodeAt l id < 0 ↔ ∀ n ∈ l, n.Id ≠ id := by
  unfold nodeAt
  cases h : l.findIdx? (fun n => decide (n.Id = id)) with
  | none =>
    rw [List.findIdx?_eq_none_iff] at h
    simpa using h
  | some i =>
    obtain ⟨hi, hp, _⟩ := List.findIdx?_eq_some_iff_getElem.1 h
    simp only
    constructor
    · intro h; omega
    · intro h; exact absurd (by simpa using hp) (h _ (List.getElem_mem hi))
theorem nodeAt_pos {l : List DNode} {id : Str} (h : ∃ n ∈ l, n.Id = id) : inR l (nodeAt l id) ∧ (gx l (nodeAt l id)).Id = id := by
  unfold nodeAt
  cases hq : l.findIdx? (fun n => decide (n.Id = id)) with
  | none =>
    rw [List.findIdx?_eq_none_iff] at hq
    obtain ⟨n, hn, e⟩ := h
    exact absurd e (by simpa using hq n hn)
  | some i =>
    obtain ⟨hi, hp, _⟩ := List.findIdx?_eq_some_iff_getElem.1 hq
    refine ⟨⟨by simp, by simp only; omega⟩, ?_⟩
    simp only
    rw [gx_nat hi]; simpa using hp
/-- Where Ids are told apart. -/
theorem nodeAt_of {l : List DNode} (hd : (l.map (·.Id)).Nodup) {i : Nat} (hi : i < l.length) : nodeAt l l[i].Id = i := by
  unfold nodeAt
  have : l.findIdx? (fun n => decide (n.Id = l[i].Id)) = some i := by
    rw [List.findIdx?_eq_some_iff_getElem]
    refine ⟨hi, by simp, fun j hj => ?_⟩
    simp only [decide_eq_true_eq]
    intro e
    have := List.pairwise_iff_getElem.1 hd j i (by simp; omega) (by simpa using hi) hj
    simp at this
    exact this e
  rw [this]

/-- The numbers of those whose parent p is. -/
def idxs (l : List DNode) (p : Str) : List Int := ((List.range l.length).filter (fun (i : Nat) => decide ((gx l (i : Int)).Parent = p))).map (fun (i : Nat) => (i : Int))
theorem gx_left {α : Type} [Inhabited α] {l m : List α} {i : Nat} (hi : i < l.length) : gx (l ++ m) (i : Int) = gx l (i : Int) := by
  rw [gx_nat hi, gx_nat (by simp; omega), List.getElem_append_left hi]
theorem gx_end {α : Type} [Inhabited α] {l : List α} {x : α} : gx (l ++ [x]) (l.length : Int) = x := by
  rw [gx_nat (by simp)]; simp
theorem idxs_snoc {l : List DNode} {x : DNode} {p : Str} : idxs (l ++ [x]) p = idxs l p ++ (if x.Parent = p then [(l.length : Int)] else []) := by
  unfold idxs
  rw [List.length_append, List.length_singleton, List.range_succ, List.filter_append, List.map_append]
  congr 1
  · congr 1
    refine List.filter_congr fun i hi => ?_
    rw [gx_left (by simpa using hi)]
  · by_cases h : x.Parent = p
    · simp [h, gx_end]
    · simp [h, gx_end]
theorem idxs_mem {l : List DNode} {p : Str} {k : Int} : k ∈ idxs l p ↔ inR l k ∧ (gx l k).Parent = p := by
  unfold idxs
  simp only [List.mem_map, List.mem_filter, List.mem_range, decide_eq_true_eq]
  constructor
  · rintro ⟨i, ⟨h1, h2⟩, rfl⟩; exact ⟨⟨by omega, by omega⟩, h2⟩
  · rintro ⟨⟨h1, h2⟩, h3⟩
    refine ⟨k.toNat, ⟨by omega, ?_⟩, by omega⟩
    rw [show ((k.toNat : Nat) : Int) = k by omega]; exact h3
theorem idxs_map {l : List DNode} {p : Str} : (idxs l p).map (gx l) = l.filter (fun n => decide (n.Parent = p)) := by
  have key : ∀ (k : Nat), k ≤ l.length → (idxs (l.take k) p).map (gx l) = (l.take k).filter (fun n => decide (n.Parent = p)) := by
    intro k
    induction k with
    | zero => intro _; rfl
    | succ k ih =>
      intro hk
      rw [List.take_succ_eq_append_getElem (by omega), idxs_snoc, List.map_append, ih (by omega), List.filter_append]
      congr 1
      have hlen : (l.take k).length = k := by simp; omega
      by_cases h : (l[k]'(by omega)).Parent = p
      · rw [if_pos h, hlen]; simp [h, gx_nat (show k < l.length by omega)]
      · rw [if_neg h]; simp [h]
  have := key l.length (Nat.le_refl _)
  rwa [List.take_length] at this

/-- The numbers of the nodes, by Id; what is in the groups. -/
def numM (l : List DNode) : GMap Str Int := ⟨fun id => (l.findIdx? (fun n => decide (n.Id = id))).map (fun (i : Nat) => (i : Int))⟩
def memM (l : List DNode) : GMap Str (List Int) := ⟨fun p => if p ≠ Str.nil ∧ idxs l p ≠ [] then some (idxs l p) else none⟩
theorem numM_snoc {l : List DNode} {x : DNode} (h : ∀ n ∈ l, n.Id ≠ x.Id) : numM (l ++ [x]) = (numM l).set x.Id l.length := by
  unfold numM GMap.set
  congr 1
  funext id
  rw [List.findIdx?_append]
  by_cases he : id = x.Id
  · subst he
    have : l.findIdx? (fun n => decide (n.Id = x.Id)) = none := by
      rw [List.findIdx?_eq_none_iff]
      intro n hn
      simpa using h n hn
    rw [this, if_pos rfl]
    simp [List.findIdx?_cons]
  · rw [if_neg he]
    have : [x].findIdx? (fun n => decide (n.Id = id)) = none := by
      rw [List.findIdx?_eq_none_iff]
      intro n hn
      have : n = x := by simpa using hn
      subst this
      simpa using fun e => he e.symm
    rw [this]
    simp only
    cases l.findIdx? (fun n => decide (n.Id = id)) <;> rfl
theorem memM_getD {l : List DNode} {p : Str} (hp : p ≠ Str.nil) : (memM l).getD p [] = idxs l p := by
  unfold memM GMap.getD
  simp only
  by_cases h : idxs l p = []
  · rw [if_neg (by simp [h])]; simp [h]
  · rw [if_pos ⟨hp, h⟩]; rfl
theorem memM_snoc0 {l : List DNode} {x : DNode} (h : x.Parent = Str.nil) : memM (l ++ [x]) = memM l := by
  unfold memM
  congr 1
  funext p
  by_cases hp : p = Str.nil
  · simp [hp]
  · have e : (if x.Parent = p then [(l.length : Int)] else []) = [] := if_neg (fun e => hp (by rw [← e, h]))
    rw [idxs_snoc, e, List.append_nil]
theorem memM_snoc {l : List DNode} {x : DNode} (h : x.Parent ≠ Str.nil) : memM (l ++ [x]) = (memM l).set x.Parent ((memM l).getD x.Parent [] ++ [(l.length : Int)]) := by
  rw [memM_getD h]
  unfold memM GMap.set
  congr 1
  funext p
  simp only
  by_cases hp : p = x.Parent
  · subst hp
    rw [if_pos rfl, idxs_snoc, if_pos rfl, if_pos ⟨h, by simp⟩]
  · have e : (if x.Parent = p then [(l.length : Int)] else []) = [] := if_neg (fun e => hp e.symm)
    rw [if_neg hp, idxs_snoc, e, List.append_nil]
theorem numM_has {l : List DNode} {id : Str} : (numM l).has id = decide (0 ≤ nodeAt l id) := by
  unfold numM GMap.has nodeAt
  simp only
  cases l.findIdx? (fun n => decide (n.Id = id)) <;> simp
theorem numM_getD {l : List DNode} {id : Str} (h : 0 ≤ nodeAt l id) : (numM l).getD id 0 = nodeAt l id := by
  unfold numM GMap.getD nodeAt at *
  simp only at *
  cases hq : l.findIdx? (fun n => decide (n.Id = id)) with
  | none => rw [hq] at h; simp at h
  | some i => rfl
/-- The view of a diagram. -/
def viewD (d : Doc) : Page_view := ⟨d, numM d.Nodes, memM d.Nodes⟩
theorem viewOf_eq {d : Doc} (hl : d.Nodes.length ≤ 500) (hd : (d.Nodes.map (·.Id)).Nodup) : page_viewOf d = some (some (viewD d)) := by
  unfold page_viewOf
  simp only [bnd_eq]
  have hlen : ∀ k p, (idxs (d.Nodes.take k) p).length ≤ 500 := fun k p => by
    unfold idxs
    rw [List.length_map]
    refine Nat.le_trans (List.length_filter_le _ _) ?_
    simp; omega
  obtain ⟨s, h1, h2⟩ := rfor_inv (n := (d.Nodes.length : Int)) (step := page_viewOf_L1 d) (s0 := (GMap.nil, GMap.nil)) (fun i s => s = (numM (d.Nodes.take i), memM (d.Nodes.take i))) (by omega) (by
    simp only [List.take_zero]
    have e1 : numM [] = (GMap.nil : GMap Str Int) := rfl
    have e2 : memM [] = (GMap.nil : GMap Str (List Int)) := by
      unfold memM GMap.nil
      congr 1
      funext p
      rw [if_neg (fun h => h.2 rfl)]
    rw [e1, e2]) (fun i s hi hI => by
    subst hI
    have hi' : i < d.Nodes.length := by omega
    have hln : (d.Nodes.take i).length = i := by simp; omega
    have hnew : ∀ n ∈ d.Nodes.take i, n.Id ≠ d.Nodes[i].Id := fun n hn => by
      obtain ⟨j, hj, rfl⟩ := List.mem_iff_getElem.1 hn
      rw [List.getElem_take]
      have hj' : j < i := by simp at hj; omega
      have := List.pairwise_iff_getElem.1 hd j i (by simp; omega) (by simpa using hi') hj'
      simpa using this
    unfold page_viewOf_L1
    rw [need_of ⟨by omega, by omega⟩, gx_nat hi', bnd_eq, bnd_eq, List.take_succ_eq_append_getElem hi', numM_snoc hnew, hln]
    simp only
    by_cases hp : d.Nodes[i].Parent = Str.nil
    · rw [decide_eq_true hp, memM_snoc0 hp]
      exact ⟨_, rfl, rfl⟩
    · rw [decide_eq_false hp, memM_snoc hp, hln]
      rw [memM_getD hp]
      refine ⟨_, ?_, rfl⟩
      simp only [Bool.not_false, cond_true]
      rw [need_of]
      show _ ≤ 1073741824
      have := hlen i d.Nodes[i].Parent
      simp; omega)
  rw [h1, h2]
  simp [viewD]
theorem members_eq {d : Doc} (hl : d.Nodes.length ≤ 500) (id : Str) : ref_members d id = some (d.Nodes.filter (fun n => decide (n.Parent = id))) := by
  unfold ref_members
  rw [rfor_gather (fun n => if n.Parent = id then [n] else []) [] (fun a _ => by split <;> simp) (by simp; omega) (fun i s hi hs => by
    unfold ref_members_L1
    rw [need_of hi, bnd_eq]
    by_cases h : (gx d.Nodes i).Parent = id
    · rw [decide_eq_true h, if_pos h, cond_true, need_of]
      show _ ≤ 1073741824
      simp; omega
    · rw [decide_eq_false h, if_neg h, cond_false, List.append_nil])]
  simp only [List.nil_append, Option.bind_some]
  congr 1
  generalize d.Nodes = l
  induction l with
  | nil => rfl
  | cons n l ih =>
    rw [List.flatMap_cons, ih, List.filter_cons]
    by_cases h : n.Parent = id <;> simp [h]
theorem nodup_subD {α : Type} [DecidableEq α] : ∀ (l m : List α), l.Nodup → (∀ x ∈ l, x ∈ m) → l.length ≤ m.length
  | [], m, _, _ => by simp
  | x :: l, m, hn, hs => by
    have hx := hs x (by simp)
    have hn' := List.nodup_cons.1 hn
    have := nodup_subD l (m.erase x) hn'.2 (fun y hy => by
      have hne : y ≠ x := fun e => hn'.1 (e ▸ hy)
      rw [List.mem_erase_of_ne hne]; exact hs y (by simp [hy]))
    rw [List.length_erase_of_mem hx] at this
    have := List.length_pos_of_mem hx
    simp; omega

/-- The node above. -/
def par (l : List DNode) (n : DNode) : DNode := gx l (nodeAt l n.Parent)
def anc (l : List DNode) (n : DNode) : Nat → DNode
  | 0 => n
  | k + 1 => par l (anc l n k)
theorem anc_add {l : List DNode} {n : DNode} {i : Nat} : ∀ t, anc l n (i + t) = anc l (anc l n i) t
  | 0 => rfl
  | t + 1 => by
    show par l (anc l n (i + t)) = par l (anc l (anc l n i) t)
    rw [anc_add t]
/-- Parents are there. -/
def ParIn (l : List DNode) : Prop := ∀ n ∈ l, n.Parent ≠ Str.nil → ∃ g ∈ l, g.Id = n.Parent
theorem par_mem {l : List DNode} (hp : ParIn l) {n : DNode} (hn : n ∈ l) (h : n.Parent ≠ Str.nil) : par l n ∈ l ∧ (par l n).Id = n.Parent := by
  obtain ⟨h1, h2⟩ := nodeAt_pos (hp n hn h)
  exact ⟨gx_mem h1, h2⟩
theorem anc_mem {l : List DNode} (hp : ParIn l) {n : DNode} (hn : n ∈ l) : ∀ k, (∀ j, j < k → (anc l n j).Parent ≠ Str.nil) → anc l n k ∈ l
  | 0, _ => hn
  | k + 1, h => (par_mem hp (anc_mem hp hn k (fun j hj => h j (by omega))) (h k (by omega))).1

/-- What the chain of a node comes to. -/
def Up (l : List DNode) (n : DNode) (m : Int) (b : Bool) : Prop :=
  (b = false ∧ ∃ k : Nat, m = k ∧ (anc l n k).Parent = Str.nil ∧ ∀ j, j < k → (anc l n j).Parent ≠ Str.nil ∧ (anc l n j).Parent ≠ n.Id) ∨
  ∃ k : Nat, m = k + 1 ∧ (∀ j, j ≤ k → (anc l n j).Parent ≠ Str.nil) ∧ (b = true ↔ (anc l n k).Parent = n.Id) ∧ (b = false → k = l.length ∧ ∀ j, j ≤ k → (anc l n j).Parent ≠ n.Id)

/-- Where no node is below itself every chain ends. -/
theorem ends {l : List DNode} (hp : ParIn l) (hu : ∀ n ∈ l, ∃ m, Up l n m false) {n : DNode} (hn : n ∈ l) {m : Int} (h : Up l n m false) : ∃ k : Nat, m = k ∧ (anc l n k).Parent = Str.nil ∧ ∀ j, j < k → (anc l n j).Parent ≠ Str.nil := by
  rcases h with ⟨_, k, h1, h2, h3⟩ | ⟨k, h1, h2, h3, h4⟩
  · exact ⟨k, h1, h2, fun j hj => (h3 j hj).1⟩
  · exfalso
    obtain ⟨rfl, h5⟩ := h4 rfl
    -- one node comes twice
    have hmem : ∀ j, j ≤ l.length → anc l n j ∈ l := fun j hj => anc_mem hp hn j (fun q hq => h2 q (by omega))
    have hnd : ¬ ((List.range (l.length + 1)).map (anc l n)).Nodup := fun hd => by
      have := nodup_subD _ l hd (fun x hx => by
        obtain ⟨j, hj, rfl⟩ := List.mem_map.1 hx
        exact hmem j (by have := List.mem_range.1 hj; omega))
      rw [List.length_map, List.length_range] at this
      omega
    have : ∃ i j, i < j ∧ j ≤ l.length ∧ anc l n i = anc l n j := by
      apply Classical.byContradiction
      intro hne
      apply hnd
      rw [List.nodup_iff_pairwise_ne, List.pairwise_iff_getElem]
      intro i j hi hj hij e
      simp only [List.length_map, List.length_range] at hi hj
      simp at e
      exact hne ⟨i, j, hij, by omega, e⟩
    obtain ⟨i, j, hij, hj, he⟩ := this
    let a := anc l n i
    have ha : a ∈ l := hmem i (by omega)
    let q := j - i - 1
    have hq : (anc l a q).Parent = a.Id := by
      have e1 : anc l a q = anc l n (j - 1) := by
        rw [← anc_add]
        congr 1
        omega
      have e2 := (par_mem hp (hmem (j - 1) (by omega)) (h2 (j - 1) (by omega))).2
      have e3 : par l (anc l n (j - 1)) = a := by
        show anc l n (j - 1 + 1) = a
        rw [show j - 1 + 1 = j by omega, ← he]
      rw [e1, ← e2, e3]
    have hnn : ∀ t, t ≤ q → (anc l a t).Parent ≠ Str.nil := fun t ht => by
      rw [← anc_add]
      exact h2 _ (by omega)
    obtain ⟨m', hm'⟩ := hu a ha
    rcases hm' with ⟨_, k, g1, g2, g3⟩ | ⟨k, g1, g2, g3, g4⟩
    · by_cases hk : k ≤ q
      · exact hnn k hk g2
      · exact (g3 q (by omega)).2 hq
    · obtain ⟨rfl, g5⟩ := g4 rfl
      exact g5 q (by omega) hq
theorem view_node {d : Doc} {p : Str} (h : ∃ g ∈ d.Nodes, g.Id = p) : page_view_node (viewD d) p = some (gx d.Nodes (nodeAt d.Nodes p)) := by
  obtain ⟨h1, h2⟩ := nodeAt_pos h
  unfold page_view_node viewD
  simp only [bnd_eq]
  rw [numM_getD h1.1, need_of h1]
theorem above_both {d : Doc} (hl : d.Nodes.length ≤ 500) (hp : ParIn d.Nodes) {n : DNode} (hn : n ∈ d.Nodes) : ∃ m b, page_view_above (viewD d) n = some (m, !b) ∧ ref_above d n = some (m, b) ∧ Up d.Nodes n m b := by
  obtain ⟨e, e', h1, h2, h3⟩ := loop_inv2 (body := page_view_above_L1 n (viewD d)) (body' := ref_above_L1 d n) (s0 := ((0 : Int), n)) (t0 := ((0 : Int), n.Parent))
    (fun s t => ∃ k : Nat, k ≤ d.Nodes.length ∧ s = ((k : Int), anc d.Nodes n k) ∧ t = ((k : Int), (anc d.Nodes n k).Parent) ∧ ∀ j, j < k → (anc d.Nodes n j).Parent ≠ Str.nil ∧ (anc d.Nodes n j).Parent ≠ n.Id)
    (fun s => (d.Nodes.length + 1 - s.1).toNat)
    (fun e e' => (∃ k : Nat, e = Res.nx (k : Int) ∧ e' = Res.nx (k : Int) ∧ Up d.Nodes n k false) ∨ ∃ m b, e = Res.ab (m, !b) ∧ e' = Res.ab (m, b) ∧ Up d.Nodes n m b)
    ⟨0, by omega, rfl, rfl, fun j hj => by omega⟩ (fun s t hR => by
      obtain ⟨k, hk, rfl, rfl, hbef⟩ := hR
      have hmem : anc d.Nodes n k ∈ d.Nodes := anc_mem hp hn k (fun j hj => (hbef j hj).1)
      unfold page_view_above_L1 ref_above_L1
      simp only [bnd_eq]
      by_cases hnil : (anc d.Nodes n k).Parent = Str.nil
      · right
        refine ⟨Res.nx (k : Int), Res.nx (k : Int), by rw [decide_eq_true hnil]; rfl, by rw [decide_eq_true hnil]; rfl, .inl ⟨k, rfl, rfl, .inl ⟨rfl, k, rfl, hnil, hbef⟩⟩⟩
      · rw [decide_eq_false hnil]
        simp only [Bool.not_false, cond_true]
        have hw : W ((k : Int) + 1) = (k : Int) + 1 := Wk (by omega) (by omega)
        rw [hw]
        have hv : (viewD d).d.Nodes = d.Nodes := rfl
        rw [hv]
        have hall : ∀ j, j ≤ k → (anc d.Nodes n j).Parent ≠ Str.nil := fun j hj => by
          rcases Nat.lt_or_eq_of_le hj with h | h
          · exact (hbef j h).1
          · rw [h]; exact hnil
        by_cases hid : (anc d.Nodes n k).Parent = n.Id
        · right
          rw [decide_eq_true hid]
          simp only [Bool.true_or, cond_true]
          refine ⟨Res.ab ((k : Int) + 1, !true), Res.ab ((k : Int) + 1, true), rfl, rfl, .inr ⟨_, true, rfl, rfl, .inr ⟨k, rfl, hall, by simp [hid], fun h => by cases h⟩⟩⟩
        · rw [decide_eq_false hid]
          simp only [Bool.false_or]
          by_cases hlen : (d.Nodes.length : Int) < (k : Int) + 1
          · right
            rw [decide_eq_true hlen]
            refine ⟨Res.ab ((k : Int) + 1, !false), Res.ab ((k : Int) + 1, false), rfl, rfl, .inr ⟨_, false, rfl, rfl, .inr ⟨k, rfl, hall, by simp [hid], fun _ => ⟨by omega, fun j hj => ?_⟩⟩⟩⟩
            rcases Nat.lt_or_eq_of_le hj with h | h
            · exact (hbef j h).2
            · rw [h]; exact hid
          · left
            rw [decide_eq_false hlen]
            have hex := hp _ hmem hnil
            rw [view_node hex, NodeAt_eq (by omega), cond_false, cond_false, Option.bind_some, Option.bind_some, need_of (nodeAt_pos hex).1]
            refine ⟨_, _, rfl, rfl, ⟨k + 1, by omega, by rw [Int.natCast_add]; rfl, by rw [Int.natCast_add]; rfl, fun j hj => ?_⟩, by simp only; omega⟩
            rcases Nat.lt_or_eq_of_le (Nat.lt_succ_iff.1 hj) with h | h
            · exact hbef j h
            · rw [h]; exact ⟨hnil, hid⟩)
  unfold page_view_above ref_above
  rw [h1, h2]
  rcases h3 with ⟨k, rfl, rfl, h3⟩ | ⟨m, b, rfl, rfl, h3⟩
  · exact ⟨k, false, rfl, rfl, h3⟩
  · exact ⟨m, b, rfl, rfl, h3⟩

/-- Groups: what is wrong with them is found alike; where nothing is, every chain ends. -/
theorem tree_both {d : Doc} (hl : d.Nodes.length ≤ 500) (hid : ∀ n ∈ d.Nodes, n.Id ≠ Str.nil) : ∃ e, page_view_checkGroups (viewD d) = some e ∧ ref_treeError d = some e ∧
    (e = 0 → (∀ n ∈ d.Nodes, n.Parent ≠ Str.nil → ∃ g ∈ d.Nodes, g.Id = n.Parent ∧ (par d.Nodes n).Kind = 6) ∧ (∀ n ∈ d.Nodes, ∃ k : Nat, k ≤ 8 ∧ (anc d.Nodes n k).Parent = Str.nil ∧ ∀ j, j < k → (anc d.Nodes n j).Parent ≠ Str.nil) ∧
      ∀ n ∈ d.Nodes, n.Kind = 6 → idxs d.Nodes n.Id ≠ []) := by
  have hll : (d.Nodes.length : Int) ≤ 9223372036854775807 := by omega
  have hv : (viewD d).d.Nodes = d.Nodes := rfl
  have hvn : (viewD d).number = numM d.Nodes := rfl
  have hvm : (viewD d).members = memM d.Nodes := rfl
  let err1 : DNode → Int := fun n => if n.Parent ≠ Str.nil ∧ (nodeAt d.Nodes n.Parent < 0 ∨ (par d.Nodes n).Kind ≠ 6) then 10 else 0
  have p1 : rforE (d.Nodes.length : Int) (page_view_checkGroups_L1 (viewD d)) (fun s => Res.nx s) () = some (if firstErr (d.Nodes.map err1) = 0 then Res.nx () else Res.ab (firstErr (d.Nodes.map err1))) :=
    rforE_err err1 (fun e => (Res.ab e : Res Unit Int)) hll (fun i hi => by
      unfold page_view_checkGroups_L1
      rw [hv, hvn, need_of hi, bnd_eq]
      have hneed : (!decide ((gx d.Nodes i).Parent = Str.nil)) = true → (!(numM d.Nodes).has (gx d.Nodes i).Parent) = false → inR d.Nodes ((numM d.Nodes).getD (gx d.Nodes i).Parent 0) := fun _ h2 => by
        rw [numM_has] at h2
        have : 0 ≤ nodeAt d.Nodes (gx d.Nodes i).Parent := by simpa using h2
        rw [numM_getD this]
        apply Classical.byContradiction
        intro hc
        have := nodeAt_pos (l := d.Nodes) (id := (gx d.Nodes i).Parent) (Classical.byContradiction fun hne => by
          have : nodeAt d.Nodes (gx d.Nodes i).Parent < 0 := nodeAt_neg.2 (fun n hn e => hne ⟨n, hn, e⟩)
          omega)
        exact hc this.1
      rw [need_of hneed, numM_has]
      by_cases h0 : (gx d.Nodes i).Parent = Str.nil
      · rw [show err1 (gx d.Nodes i) = 0 from if_neg (fun h => h.1 h0)]
        simp [h0]
      · by_cases hneg : nodeAt d.Nodes (gx d.Nodes i).Parent < 0
        · rw [show err1 (gx d.Nodes i) = 10 from if_pos ⟨h0, .inl hneg⟩]
          have : ¬ 0 ≤ nodeAt d.Nodes (gx d.Nodes i).Parent := by omega
          simp [h0, this]
        · have hge : 0 ≤ nodeAt d.Nodes (gx d.Nodes i).Parent := by omega
          rw [numM_getD hge]
          by_cases hk : (par d.Nodes (gx d.Nodes i)).Kind = 6
          · rw [show err1 (gx d.Nodes i) = 0 from if_neg (fun h => h.2.elim hneg (fun h => h hk))]
            unfold par at hk
            simp [h0, hge, hk]
          · rw [show err1 (gx d.Nodes i) = 10 from if_pos ⟨h0, .inr hk⟩]
            unfold par at hk
            simp [h0, hge, hk])
  have q1 : rforE (d.Nodes.length : Int) (ref_treeError_L1 d) (fun s => Res.nx s) () = some (if firstErr (d.Nodes.map err1) = 0 then Res.nx () else Res.ab (firstErr (d.Nodes.map err1))) :=
    rforE_err err1 (fun e => (Res.ab e : Res Unit Int)) hll (fun i hi => by
      unfold ref_treeError_L1
      rw [need_of hi, bnd_eq, NodeAt_eq hll, Option.bind_some]
      have hneed : (!decide ((gx d.Nodes i).Parent = Str.nil)) = true → decide (nodeAt d.Nodes (gx d.Nodes i).Parent < 0) = false → inR d.Nodes (nodeAt d.Nodes (gx d.Nodes i).Parent) := fun _ h2 => by
        have h2 : ¬ nodeAt d.Nodes (gx d.Nodes i).Parent < 0 := by simpa using h2
        exact (nodeAt_pos (l := d.Nodes) (id := (gx d.Nodes i).Parent) (Classical.byContradiction fun hne => h2 (nodeAt_neg.2 (fun n hn e => hne ⟨n, hn, e⟩)))).1
      rw [need_of hneed]
      by_cases h0 : (gx d.Nodes i).Parent = Str.nil
      · rw [show err1 (gx d.Nodes i) = 0 from if_neg (fun h => h.1 h0)]
        simp [h0]
      · by_cases hneg : nodeAt d.Nodes (gx d.Nodes i).Parent < 0
        · rw [show err1 (gx d.Nodes i) = 10 from if_pos ⟨h0, .inl hneg⟩]
          simp [h0, hneg]
        · by_cases hk : (par d.Nodes (gx d.Nodes i)).Kind = 6
          · rw [show err1 (gx d.Nodes i) = 0 from if_neg (fun h => h.2.elim hneg (fun h => h hk))]
            unfold par at hk
            simp [h0, hneg, hk]
          · rw [show err1 (gx d.Nodes i) = 10 from if_pos ⟨h0, .inr hk⟩]
            unfold par at hk
            simp [h0, hneg, hk])
  by_cases h1 : firstErr (d.Nodes.map err1) = 0
  case neg =>
    refine ⟨firstErr (d.Nodes.map err1), ?_, ?_, fun h => absurd h h1⟩
    · unfold page_view_checkGroups; rw [hv, p1, if_neg h1]; rfl
    · unfold ref_treeError; rw [q1, if_neg h1]; rfl
  have hgood : ∀ n ∈ d.Nodes, n.Parent ≠ Str.nil → ∃ g ∈ d.Nodes, g.Id = n.Parent ∧ (par d.Nodes n).Kind = 6 := fun n hn hne => by
    have := firstErr_zero.1 h1 _ (List.mem_map_of_mem hn)
    have hx : ¬ (n.Parent ≠ Str.nil ∧ (nodeAt d.Nodes n.Parent < 0 ∨ (par d.Nodes n).Kind ≠ 6)) := fun h => by
      have e : err1 n = 10 := if_pos h
      rw [e] at this; cases this
    have hk : (par d.Nodes n).Kind = 6 := Classical.byContradiction fun hk => hx ⟨hne, .inr hk⟩
    have hge : ¬ nodeAt d.Nodes n.Parent < 0 := fun h => hx ⟨hne, .inl h⟩
    apply Classical.byContradiction
    intro hno
    exact hge (nodeAt_neg.2 (fun g hg e => hno ⟨g, hg, e, hk⟩))
  have hpar : ParIn d.Nodes := fun n hn hne => by
    obtain ⟨g, h1, h2, _⟩ := hgood n hn hne
    exact ⟨g, h1, h2⟩
  let A : DNode → Int × Bool := fun n => (ref_above d n).getD (0, false)
  have hA : ∀ n ∈ d.Nodes, page_view_above (viewD d) n = some ((A n).1, !(A n).2) ∧ ref_above d n = some (A n) ∧ Up d.Nodes n (A n).1 (A n).2 := fun n hn => by
    obtain ⟨m, b, g1, g2, g3⟩ := above_both hl hpar hn
    have e : A n = (m, b) := by show (ref_above d n).getD _ = _; rw [g2]; rfl
    rw [e]; exact ⟨g1, g2, g3⟩
  let err2 : DNode → Int := fun n => if (A n).2 = true then 13 else 0
  let err3 : DNode → Int := fun n => if 8 < (A n).1 then 4 else 0
  let err4 : DNode → Int := fun n => if n.Kind = 6 ∧ idxs d.Nodes n.Id = [] then 9 else 0
  have p2 : rforE (d.Nodes.length : Int) (page_view_checkGroups_L2 (viewD d)) (fun s => Res.nx s) () = some (if firstErr (d.Nodes.map err2) = 0 then Res.nx () else Res.ab (firstErr (d.Nodes.map err2))) :=
    rforE_err err2 (fun e => (Res.ab e : Res Unit Int)) hll (fun i hi => by
      unfold page_view_checkGroups_L2
      rw [hv, need_of hi, bnd_eq, (hA _ (gx_mem hi)).1, Option.bind_some]
      by_cases h : (A (gx d.Nodes i)).2 = true
      · rw [show err2 (gx d.Nodes i) = 13 from if_pos h]; simp [h]
      · rw [show err2 (gx d.Nodes i) = 0 from if_neg h]; simp [h])
  have q2 : rforE (d.Nodes.length : Int) (ref_treeError_L2 d) (fun s => Res.nx s) () = some (if firstErr (d.Nodes.map err2) = 0 then Res.nx () else Res.ab (firstErr (d.Nodes.map err2))) :=
    rforE_err err2 (fun e => (Res.ab e : Res Unit Int)) hll (fun i hi => by
      unfold ref_treeError_L2
      rw [need_of hi, bnd_eq, (hA _ (gx_mem hi)).2.1, Option.bind_some]
      by_cases h : (A (gx d.Nodes i)).2 = true
      · rw [show err2 (gx d.Nodes i) = 13 from if_pos h]; simp [h]
      · rw [show err2 (gx d.Nodes i) = 0 from if_neg h]; simp [h])
  have p3 : rforE (d.Nodes.length : Int) (page_view_checkGroups_L3 (viewD d)) (fun s => Res.nx s) () = some (if firstErr (d.Nodes.map err3) = 0 then Res.nx () else Res.ab (firstErr (d.Nodes.map err3))) :=
    rforE_err err3 (fun e => (Res.ab e : Res Unit Int)) hll (fun i hi => by
      unfold page_view_checkGroups_L3
      rw [hv, need_of hi, bnd_eq, (hA _ (gx_mem hi)).1, Option.bind_some]
      by_cases h : 8 < (A (gx d.Nodes i)).1
      · rw [show err3 (gx d.Nodes i) = 4 from if_pos h]; simp [h]
      · rw [show err3 (gx d.Nodes i) = 0 from if_neg h]; simp [h])
  have q3 : rforE (d.Nodes.length : Int) (ref_treeError_L3 d) (fun s => Res.nx s) () = some (if firstErr (d.Nodes.map err3) = 0 then Res.nx () else Res.ab (firstErr (d.Nodes.map err3))) :=
    rforE_err err3 (fun e => (Res.ab e : Res Unit Int)) hll (fun i hi => by
      unfold ref_treeError_L3
      rw [need_of hi, bnd_eq, (hA _ (gx_mem hi)).2.1, Option.bind_some]
      by_cases h : 8 < (A (gx d.Nodes i)).1
      · rw [show err3 (gx d.Nodes i) = 4 from if_pos h]; simp [h]
      · rw [show err3 (gx d.Nodes i) = 0 from if_neg h]; simp [h])
  have hlen : ∀ p, (d.Nodes.filter (fun n => decide (n.Parent = p))).length = (idxs d.Nodes p).length := fun p => by rw [← idxs_map, List.length_map]
  have p4 : rforE (d.Nodes.length : Int) (page_view_checkGroups_L4 (viewD d)) (fun s => Res.nx s) () = some (if firstErr (d.Nodes.map err4) = 0 then Res.nx () else Res.ab (firstErr (d.Nodes.map err4))) :=
    rforE_err err4 (fun e => (Res.ab e : Res Unit Int)) hll (fun i hi => by
      unfold page_view_checkGroups_L4
      rw [hv, hvm, need_of hi, bnd_eq, memM_getD (hid _ (gx_mem hi))]
      by_cases h : (gx d.Nodes i).Kind = 6 ∧ idxs d.Nodes (gx d.Nodes i).Id = []
      · rw [show err4 (gx d.Nodes i) = 9 from if_pos h]; simp [h.1, h.2]
      · rw [show err4 (gx d.Nodes i) = 0 from if_neg h]
        by_cases h2 : (gx d.Nodes i).Kind = 6
        · have h3 : idxs d.Nodes (gx d.Nodes i).Id ≠ [] := fun e => h ⟨h2, e⟩
          simp [h2, h3]
        · simp [h2])
  have q4 : rforE (d.Nodes.length : Int) (ref_treeError_L4 d) (fun s => Res.nx s) () = some (if firstErr (d.Nodes.map err4) = 0 then Res.nx () else Res.ab (firstErr (d.Nodes.map err4))) :=
    rforE_err err4 (fun e => (Res.ab e : Res Unit Int)) hll (fun i hi => by
      unfold ref_treeError_L4
      rw [need_of hi, bnd_eq, members_eq hl]
      by_cases h2 : (gx d.Nodes i).Kind = 6
      · rw [decide_eq_true h2, gd_true, Option.bind_some, hlen]
        by_cases h3 : idxs d.Nodes (gx d.Nodes i).Id = []
        · rw [show err4 (gx d.Nodes i) = 9 from if_pos ⟨h2, h3⟩]; simp [h3]
        · rw [show err4 (gx d.Nodes i) = 0 from if_neg (fun h => h3 h.2)]; simp [h3]
      · rw [show err4 (gx d.Nodes i) = 0 from if_neg (fun h => h2 h.1), decide_eq_false h2]; simp [gd])
  unfold page_view_checkGroups ref_treeError
  rw [hv, p1, p2, p3, p4, q1, q2, q3, q4, if_pos h1, bindR_nx]
  by_cases h2 : firstErr (d.Nodes.map err2) = 0
  case neg => rw [if_neg h2]; exact ⟨_, rfl, rfl, fun h => absurd h h2⟩
  rw [if_pos h2, bindR_nx]
  by_cases h3 : firstErr (d.Nodes.map err3) = 0
  case neg => rw [if_neg h3]; exact ⟨_, rfl, rfl, fun h => absurd h h3⟩
  rw [if_pos h3, bindR_nx]
  by_cases h4 : firstErr (d.Nodes.map err4) = 0
  case neg => rw [if_neg h4]; exact ⟨_, rfl, rfl, fun h => absurd h h4⟩
  rw [if_pos h4, bindR_nx]
  have hu : ∀ n ∈ d.Nodes, Up d.Nodes n (A n).1 false := fun n hn => by
    have := firstErr_zero.1 h2 _ (List.mem_map_of_mem hn)
    have hb : (A n).2 = false := by
      cases hb : (A n).2 with
      | false => rfl
      | true =>
        have e : err2 n = 13 := if_pos hb
        rw [e] at this; cases this
    have := (hA n hn).2.2
    rwa [hb] at this
  refine ⟨0, rfl, rfl, fun _ => ⟨hgood, fun n hn => ?_, fun n hn hk he => ?_⟩⟩
  · obtain ⟨k, e1, e2, e3⟩ := ends hpar (fun n hn => ⟨_, hu n hn⟩) hn (hu n hn)
    refine ⟨k, ?_, e2, e3⟩
    have := firstErr_zero.1 h3 _ (List.mem_map_of_mem hn)
    apply Classical.byContradiction
    intro hc
    have e : err3 n = 4 := if_pos (by omega)
    rw [e] at this; cases this
  · have := firstErr_zero.1 h4 _ (List.mem_map_of_mem hn)
    have e : err4 n = 9 := if_pos ⟨hk, he⟩
    rw [e] at this; cases this
def zeroB : Box := ⟨0, 0, 0, 0⟩
theorem gboxes_eq {l : List Box} (hl : (l.length : Int) ≤ 9223372036854775807) : geom_boxes l = some (firstErr (l.map boxErr)) := by
  unfold geom_boxes
  rw [rforE_err boxErr (fun e => (Res.ab e : Res Unit Int)) hl (fun i hi => by
    unfold geom_boxes_L1
    rw [need_of hi, bnd_eq, CheckBox_eq, Option.bind_some]
    by_cases h : boxErr (gx l i) = 0 <;> simp [h])]
  by_cases h : firstErr (l.map boxErr) = 0 <;> simp [h]
theorem hull_both {l : List Box} (hok : ∀ b ∈ l, okB b) (hl : l.length ≤ 1000) : ∃ b e, geom_Hull l = some (b, e) ∧ ref_HullOf l = some (b, e) ∧ (e = 0 → okB b) := by
  unfold geom_Hull ref_HullOf
  simp only [bnd_eq]
  rw [decide_eq_false (show ¬ (1000 : Int) < (l.length : Int) by omega), gboxes_eq (by omega)]
  have hz : firstErr (l.map boxErr) = 0 := firstErr_zero.2 (fun e he => by
    obtain ⟨b, hb, rfl⟩ := List.mem_map.1 he
    exact boxErr_zero.2 (hok b hb))
  rw [hz]
  simp only [cond_false, Option.bind_some, decide_true, Bool.not_true]
  by_cases h0 : l = []
  · subst h0
    refine ⟨zeroB, 9, rfl, rfl, fun h => by cases h⟩
  have hpos : 0 < l.length := List.length_pos_iff.2 h0
  rw [decide_eq_false (show ¬ (l.length : Int) = 0 by omega)]
  have hin : inR l 0 := ⟨by omega, by omega⟩
  simp only [cond_false, need_of hin]
  obtain ⟨s, t, h1, h2, h3⟩ := rfor_inv2 (n := (l.length : Int)) (step := geom_Hull_L1 l) (step' := ref_HullOf_L1 l) (s0 := gx l 0) (t0 := ((gx l 0).X, (gx l 0).Y, (gx l 0).X, (gx l 0).Y))
    (fun k s t => (k = 0 ∧ s = gx l 0 ∧ t = ((gx l 0).X, (gx l 0).Y, (gx l 0).X, (gx l 0).Y)) ∨ (s = ⟨t.1, t.2.1, t.2.2.1 - t.1, t.2.2.2 - t.2.1⟩ ∧ -1000000 ≤ t.1 ∧ t.1 ≤ 1000000 ∧ -1000000 ≤ t.2.1 ∧ t.2.1 ≤ 1000000 ∧ t.1 < t.2.2.1 ∧ t.2.2.1 ≤ 1020000 ∧ t.2.1 < t.2.2.2 ∧ t.2.2.2 ≤ 1020000))
    (by omega) (.inl ⟨rfl, rfl, rfl⟩) (fun i s t hi hI => by
      have hi' : i < l.length := by omega
      have hb := hok _ (List.getElem_mem hi')
      unfold geom_Hull_L1 ref_HullOf_L1
      rw [need_of ⟨by omega, by omega⟩, need_of ⟨by omega, by omega⟩, gx_nat hi']
      simp only [bnd_eq]
      refine ⟨_, _, rfl, rfl, .inr ?_⟩
      have hv0 : i = 0 → l[i] = gx l 0 := fun h => by subst h; exact (gx_nat hi').symm
      generalize l[i] = v at *
      obtain ⟨x1, x2, y1, y2, w1, w2, g1, g2⟩ := hb
      rcases hI with ⟨rfl, rfl, rfl⟩ | ⟨rfl, c1, c2, c3, c4, c5, c6, c7, c8⟩
      · rw [← hv0 rfl]
        simp only [Int.min_self]
        rw [Wk (n := v.X + v.W_) (by omega) (by omega), Wk (n := v.Y + v.H) (by omega) (by omega), Int.max_self, Int.max_self, show max v.X (v.X + v.W_) = v.X + v.W_ by omega, show max v.Y (v.Y + v.H) = v.Y + v.H by omega,
          Wk (n := v.X + v.W_ - v.X) (by omega) (by omega), Wk (n := v.Y + v.H - v.Y) (by omega) (by omega)]
        refine ⟨rfl, by omega, by omega, by omega, by omega, by omega, by omega, by omega, by omega⟩
      · have q1 : W (t.1 + (t.2.2.1 - t.1)) = t.2.2.1 := by rw [Wk (by omega) (by omega)]; omega
        have q2 : W (t.2.1 + (t.2.2.2 - t.2.1)) = t.2.2.2 := by rw [Wk (by omega) (by omega)]; omega
        have q3 : W (v.X + v.W_) = v.X + v.W_ := Wk (by omega) (by omega)
        have q4 : W (v.Y + v.H) = v.Y + v.H := Wk (by omega) (by omega)
        simp only [q1, q2, q3, q4]
        rw [Wk (n := max t.2.2.1 (v.X + v.W_) - min t.1 v.X) (by omega) (by omega), Wk (n := max t.2.2.2 (v.Y + v.H) - min t.2.1 v.Y) (by omega) (by omega)]
        refine ⟨rfl, by omega, by omega, by omega, by omega, by omega, by omega, by omega, by omega⟩)
  rw [h1, h2]
  simp only [Option.bind_some]
  rcases h3 with ⟨h, _⟩ | ⟨rfl, c1, c2, c3, c4, c5, c6, c7, c8⟩
  · have : (l.length : Int).toNat = l.length := by omega
    omega
  · rw [Wk (n := t.2.2.1 - t.1) (by omega) (by omega), Wk (n := t.2.2.2 - t.2.1) (by omega) (by omega)]
    by_cases h : 20000 < t.2.2.1 - t.1 ∨ 20000 < t.2.2.2 - t.2.1
    · have e : (decide (20000 < t.2.2.1 - t.1) || decide (20000 < t.2.2.2 - t.2.1)) = true := by simpa using h
      rw [e]
      exact ⟨zeroB, 4, rfl, rfl, fun h => by cases h⟩
    · have e : (decide (20000 < t.2.2.1 - t.1) || decide (20000 < t.2.2.2 - t.2.1)) = false := by simpa using h
      rw [e]
      refine ⟨_, 0, rfl, rfl, fun _ => ?_⟩
      unfold okB
      simp only
      omega
theorem grow_both {h : Box} (hh : okB h) : ∃ b e, geom_Grow h 10 = some (b, e) ∧ ref_BoxError (⟨W (h.X - 10), W (h.Y - 10), W (h.W_ + 20), W (h.H + 20)⟩ : Box) = some e ∧ (e = 0 → b = (⟨W (h.X - 10), W (h.Y - 10), W (h.W_ + 20), W (h.H + 20)⟩ : Box) ∧ okB b) := by
  obtain ⟨x1, x2, y1, y2, w1, w2, g1, g2⟩ := id hh
  unfold geom_Grow
  simp only [bnd_eq]
  have e2 : W (2 * 10) = 20 := Wk (by omega) (by omega)
  rw [CheckBox_eq, boxErr_zero.2 hh, BoxError_eq, e2]
  rw [Wk (n := h.X - 10) (by omega) (by omega), Wk (n := h.Y - 10) (by omega) (by omega), Wk (n := h.W_ + 20) (by omega) (by omega), Wk (n := h.H + 20) (by omega) (by omega)]
  simp only [Option.bind_some, decide_true, Bool.not_true, cond_false]
  have e3 : (decide ((10 : Int) < -20000) || decide ((20000 : Int) < 10)) = false := by decide
  rw [e3, cond_false]
  have e4 : (decide (h.W_ + 20 < 1) || decide (h.H + 20 < 1)) = false := by
    rw [decide_eq_false (by omega), decide_eq_false (by omega)]; rfl
  rw [e4, cond_false, CheckBox_eq, Option.bind_some]
  by_cases h0 : boxErr (⟨h.X - 10, h.Y - 10, h.W_ + 20, h.H + 20⟩ : Box) = 0
  · rw [h0]
    exact ⟨_, 0, rfl, rfl, fun _ => ⟨rfl, boxErr_zero.1 h0⟩⟩
  · rw [decide_eq_false h0]
    exact ⟨_, _, rfl, rfl, fun h => absurd h h0⟩

/-- One step of the two box functions. -/
theorem box_step {d : Doc} (hl : d.Nodes.length ≤ 500) (hd : (d.Nodes.map (·.Id)).Nodup) (hid : ∀ n ∈ d.Nodes, n.Id ≠ Str.nil) (hb : ∀ n ∈ d.Nodes, n.Kind ≠ 6 → okB n.Box)
    {i : Nat} (hi : i < d.Nodes.length) (R : Int → (Box × Int) × Box) (hR : ∀ c ∈ idxs d.Nodes d.Nodes[i].Id, (R c).1.2 = 0 → (R c).1.1 = (R c).2 ∧ okB (R c).2) :
    ∃ b e b', (e = 0 → b = b' ∧ okB b') ∧ ∀ (slf : Page_view × Int → Option (Box × Int)) (slf' : Doc × Str → Option (Box × Int)),
      (d.Nodes[i].Kind = 6 → ∀ c ∈ idxs d.Nodes d.Nodes[i].Id, slf (viewD d, c) = some (R c).1 ∧ slf' (d, (gx d.Nodes c).Id) = some ((R c).2, (R c).1.2)) →
      page_view_boxOf_body slf (viewD d, (i : Int)) = some (b, e) ∧ ref_BoxOfNode_body slf' (d, d.Nodes[i].Id) = some (b', e) := by
  have hin : inR d.Nodes (i : Int) := ⟨by omega, by omega⟩
  have hn := List.getElem_mem hi
  have hv : (viewD d).d.Nodes = d.Nodes := rfl
  have hvm : (viewD d).members = memM d.Nodes := rfl
  by_cases hk : d.Nodes[i].Kind = 6
  case neg =>
    refine ⟨d.Nodes[i].Box, 0, d.Nodes[i].Box, fun _ => ⟨rfl, hb _ hn hk⟩, fun slf slf' _ => ⟨?_, ?_⟩⟩
    · unfold page_view_boxOf_body
      simp only [bnd_eq]
      rw [hv, need_of hin, gx_nat hi, decide_eq_false hk]; rfl
    · unfold ref_BoxOfNode_body
      simp only [bnd_eq]
      rw [NodeAt_eq (by omega), nodeAt_of hd hi, Option.bind_some, need_of hin, gx_nat hi, decide_eq_false hk]; rfl
  generalize hks : idxs d.Nodes d.Nodes[i].Id = ks at *
  have hkl : ks.length ≤ 500 := by
    rw [← hks]; unfold idxs
    rw [List.length_map]
    refine Nat.le_trans (List.length_filter_le _ _) ?_
    simp; omega
  let err : Nat → Int := fun k => (R (gx ks (k : Int))).1.2
  let E := firstErr ((List.range ks.length).map err)
  -- the two loops
  have loop1 : ∀ (slf : Page_view × Int → Option (Box × Int)), (∀ c ∈ ks, slf (viewD d, c) = some (R c).1) →
      rforE (ks.length : Int) (page_view_boxOf_L1 slf (viewD d, (i : Int)) ks) (fun s => Res.nx s) ([] : List Box) = some (if E = 0 then Res.nx (ks.map (fun c => (R c).1.1)) else Res.ab (zeroB, E)) := fun slf hs => by
    have := rforE_errS (n := ks.length) (step := page_view_boxOf_L1 slf (viewD d, (i : Int)) ks) (fin := fun s => (Res.nx s : Res (List Box) (Box × Int))) (fun k => (ks.take k).map (fun c => (R c).1.1)) err (fun e => Res.ab (zeroB, e)) (by omega) (fun k hk _ => by
      unfold page_view_boxOf_L1
      have hink : inR ks (k : Int) := ⟨by omega, by omega⟩
      rw [need_of hink, hs _ (gx_mem hink), Option.bind_some]
      by_cases h : err k = 0
      · have h' : (R (gx ks (k : Int))).1.2 = 0 := h
        rw [if_pos h, h']
        simp only [decide_true, Bool.not_true, cond_false]
        rw [need_of (by show _ ≤ _; simp; omega), List.take_succ_eq_append_getElem hk, List.map_append, gx_nat hk]
        rfl
      · have h' : ¬ (R (gx ks (k : Int))).1.2 = 0 := h
        rw [if_neg h, decide_eq_false h']
        rfl)
    simp only [List.take_zero, List.map_nil, List.take_length] at this
    exact this
  have loop2 : ∀ (slf' : Doc × Str → Option (Box × Int)), (∀ c ∈ ks, slf' (d, (gx d.Nodes c).Id) = some ((R c).2, (R c).1.2)) →
      rforE ((ks.map (gx d.Nodes)).length : Int) (ref_BoxOfNode_L1 slf' (d, d.Nodes[i].Id) (ks.map (gx d.Nodes))) (fun s => Res.nx s) ([] : List Box) = some (if E = 0 then Res.nx (ks.map (fun c => (R c).2)) else Res.ab (zeroB, E)) := fun slf' hs => by
    rw [List.length_map]
    have := rforE_errS (n := ks.length) (step := ref_BoxOfNode_L1 slf' (d, d.Nodes[i].Id) (ks.map (gx d.Nodes))) (fin := fun s => (Res.nx s : Res (List Box) (Box × Int))) (fun k => (ks.take k).map (fun c => (R c).2)) err (fun e => Res.ab (zeroB, e)) (by omega) (fun k hk _ => by
      unfold ref_BoxOfNode_L1
      have hink : inR ks (k : Int) := ⟨by omega, by omega⟩
      have hg : gx (ks.map (gx d.Nodes)) (k : Int) = gx d.Nodes (gx ks (k : Int)) := by rw [gx_nat (by simpa using hk), gx_nat hk]; simp
      rw [need_of ⟨by omega, by simp; omega⟩, bnd_eq, hg, hs _ (gx_mem hink), Option.bind_some]
      by_cases h : err k = 0
      · have h' : (R (gx ks (k : Int))).1.2 = 0 := h
        rw [if_pos h, h']
        simp only [decide_true, Bool.not_true, cond_false]
        rw [need_of (by show _ ≤ _; simp; omega), List.take_succ_eq_append_getElem hk, List.map_append, gx_nat hk]
        rfl
      · have h' : ¬ (R (gx ks (k : Int))).1.2 = 0 := h
        rw [if_neg h, decide_eq_false h']
        rfl)
    simp only [List.take_zero, List.map_nil, List.take_length] at this
    exact this
  have hfil : d.Nodes.filter (fun n => decide (n.Parent = d.Nodes[i].Id)) = ks.map (gx d.Nodes) := by rw [← hks]; exact idxs_map.symm
  have r1 : ∀ slf, page_view_boxOf_body slf (viewD d, (i : Int)) = bindR (σ := (List Box)) (ρ := (Box × Int)) (rforE (ks.length : Int) (page_view_boxOf_L1 slf (viewD d, (i : Int)) ks) (fun s => Res.nx s) ([] : List Box)) fun j =>
      Option.bind (geom_Hull j) fun r2 => bif !decide (r2.2 = 0) then some (zeroB, r2.2) else Option.bind (geom_Grow r2.1 10) fun r3 => some (r3.1, r3.2) := fun slf => by
    unfold page_view_boxOf_body
    simp only [bnd_eq]
    rw [hv, hvm, need_of hin, gx_nat hi, decide_eq_true hk, memM_getD (hid _ hn), hks]
    rfl
  have r2 : ∀ slf', ref_BoxOfNode_body slf' (d, d.Nodes[i].Id) = bindR (σ := (List Box)) (ρ := (Box × Int)) (rforE ((ks.map (gx d.Nodes)).length : Int) (ref_BoxOfNode_L1 slf' (d, d.Nodes[i].Id) (ks.map (gx d.Nodes))) (fun s => Res.nx s) ([] : List Box)) fun j =>
      Option.bind (ref_HullOf j) fun r4 => bif !decide (r4.2 = 0) then some (zeroB, r4.2) else Option.bind (ref_BoxError (⟨W (r4.1.X - 10), W (r4.1.Y - 10), W (r4.1.W_ + 20), W (r4.1.H + 20)⟩ : Box)) fun r5 => some ((⟨W (r4.1.X - 10), W (r4.1.Y - 10), W (r4.1.W_ + 20), W (r4.1.H + 20)⟩ : Box), r5) := fun slf' => by
    unfold ref_BoxOfNode_body
    simp only [bnd_eq]
    rw [NodeAt_eq (by omega), nodeAt_of hd hi, Option.bind_some, need_of hin, gx_nat hi, decide_eq_true hk, members_eq hl, Option.bind_some, hfil]
    rfl
  by_cases hE : E = 0
  case neg =>
    refine ⟨zeroB, E, zeroB, fun h => absurd h hE, fun slf slf' hs => ?_⟩
    rw [r1, r2, loop1 slf (fun c hc => (hs hk c hc).1), loop2 slf' (fun c hc => (hs hk c hc).2), if_neg hE, if_neg hE]
    exact ⟨rfl, rfl⟩
  have hz : ∀ c ∈ ks, (R c).1.2 = 0 := fun c hc => by
    obtain ⟨k, hk', rfl⟩ := List.mem_iff_getElem.1 hc
    have := firstErr_zero.1 hE (err k) (List.mem_map.2 ⟨k, by simpa using hk', rfl⟩)
    show (R ks[k]).1.2 = 0
    rw [← gx_nat hk']; exact this
  have hsame : ks.map (fun c => (R c).1.1) = ks.map (fun c => (R c).2) := List.map_congr_left fun c hc => (hR c hc (hz c hc)).1
  obtain ⟨b, e, h1, h2, h3⟩ := hull_both (l := ks.map (fun c => (R c).2)) (fun b hb => by
    obtain ⟨c, hc, rfl⟩ := List.mem_map.1 hb
    exact (hR c hc (hz c hc)).2) (by simp; omega)
  by_cases he : e = 0
  case neg =>
    refine ⟨zeroB, e, zeroB, fun h => absurd h he, fun slf slf' hs => ?_⟩
    rw [r1, r2, loop1 slf (fun c hc => (hs hk c hc).1), loop2 slf' (fun c hc => (hs hk c hc).2), if_pos hE, if_pos hE, bindR_nx, bindR_nx, hsame, h1, h2, Option.bind_some, Option.bind_some, decide_eq_false he]
    exact ⟨rfl, rfl⟩
  obtain ⟨b2, e2, g1, g2, g3⟩ := grow_both (h3 he)
  refine ⟨b2, e2, _, fun h => ⟨(g3 h).1, (g3 h).1 ▸ (g3 h).2⟩, fun slf slf' hs => ?_⟩
  rw [r1, r2, loop1 slf (fun c hc => (hs hk c hc).1), loop2 slf' (fun c hc => (hs hk c hc).2), if_pos hE, if_pos hE, bindR_nx, bindR_nx, hsame, h1, h2, Option.bind_some, Option.bind_some, decide_eq_true he]
  simp only [Bool.not_true, cond_false]
  rw [g1, g2]
  exact ⟨rfl, rfl⟩

/-- How far a node is below the top. -/
def Dp (l : List DNode) (n : DNode) (m : Nat) : Prop := (anc l n m).Parent = Str.nil ∧ ∀ j, j < m → (anc l n j).Parent ≠ Str.nil
theorem Dp.uni {l : List DNode} {n : DNode} {m m' : Nat} (h : Dp l n m) (h' : Dp l n m') : m = m' := by
  rcases Nat.lt_trichotomy m m' with c | c | c
  · exact absurd h.1 (h'.2 m c)
  · exact c
  · exact absurd h'.1 (h.2 m' c)
theorem par_at {l : List DNode} (hd : (l.map (·.Id)).Nodup) {i : Nat} (hi : i < l.length) {c : DNode} (hc : c.Parent = l[i].Id) : par l c = l[i] := by
  unfold par
  rw [hc, nodeAt_of hd hi, gx_nat hi]
theorem anc_par {l : List DNode} {c : DNode} : ∀ k, anc l c (k + 1) = anc l (par l c) k
  | 0 => rfl
  | k + 1 => by
    show par l (anc l c (k + 1)) = par l (anc l (par l c) k)
    rw [anc_par k]
theorem Dp.kid {l : List DNode} {c : DNode} {m : Nat} (hc : c.Parent ≠ Str.nil) (h : Dp l (par l c) m) : Dp l c (m + 1) := by
  refine ⟨by rw [anc_par]; exact h.1, fun j hj => ?_⟩
  cases j with
  | zero => exact hc
  | succ j => rw [anc_par]; exact h.2 j (by omega)

/-- Boxes are found alike. -/
theorem box_both {d : Doc} (hl : d.Nodes.length ≤ 500) (hd : (d.Nodes.map (·.Id)).Nodup) (hid : ∀ n ∈ d.Nodes, n.Id ≠ Str.nil) (hb : ∀ n ∈ d.Nodes, n.Kind ≠ 6 → okB n.Box) (hdp : ∀ n ∈ d.Nodes, ∃ k, k ≤ 8 ∧ Dp d.Nodes n k)
    {i : Nat} (hi : i < d.Nodes.length) : ∃ b e b', page_view_boxOf (viewD d) (i : Int) = some (b, e) ∧ ref_BoxOfNode d d.Nodes[i].Id = some (b', e) ∧ (e = 0 → b = b' ∧ okB b') := by
  have key : ∀ (f m : Nat) (i : Nat) (hi : i < d.Nodes.length), Dp d.Nodes d.Nodes[i] m → 9 ≤ m + f → ∃ b e b', (e = 0 → b = b' ∧ okB b') ∧
      ∀ N, f ≤ N → fixN page_view_boxOf_body N (viewD d, (i : Int)) = some (b, e) ∧ fixN ref_BoxOfNode_body N (d, d.Nodes[i].Id) = some (b', e) := by
    intro f
    induction f with
    | zero =>
      intro m i hi hm hf
      obtain ⟨k, hk, hk2⟩ := hdp _ (List.getElem_mem hi)
      have := hm.uni hk2
      omega
    | succ f ih =>
      intro m i hi hm hf
      have hkid : ∀ c ∈ idxs d.Nodes d.Nodes[i].Id, ∃ (x : (Box × Int) × Box), (x.1.2 = 0 → x.1.1 = x.2 ∧ okB x.2) ∧ ∀ N, f ≤ N → fixN page_view_boxOf_body N (viewD d, c) = some x.1 ∧ fixN ref_BoxOfNode_body N (d, (gx d.Nodes c).Id) = some (x.2, x.1.2) := fun c hc => by
        obtain ⟨hin, hp⟩ := idxs_mem.1 hc
        obtain ⟨j, rfl⟩ : ∃ j : Nat, c = j := ⟨c.toNat, by have := hin.1; omega⟩
        have hj : j < d.Nodes.length := by have := hin.2; omega
        rw [gx_nat hj] at hp ⊢
        have hpe := par_at hd hi hp
        obtain ⟨b, e, b', h1, h2⟩ := ih (m + 1) j hj (Dp.kid (by rw [hp]; exact hid _ (List.getElem_mem hi)) (by rw [hpe]; exact hm)) (by omega)
        exact ⟨((b, e), b'), h1, h2⟩
      let R : Int → (Box × Int) × Box := fun c => if h : c ∈ idxs d.Nodes d.Nodes[i].Id then (hkid c h).choose else ((zeroB, 0), zeroB)
      have hR : ∀ c (h : c ∈ idxs d.Nodes d.Nodes[i].Id), R c = (hkid c h).choose := fun c h => dif_pos h
      obtain ⟨b, e, b', h1, h2⟩ := box_step hl hd hid hb hi R (fun c hc => by rw [hR c hc]; exact (hkid c hc).choose_spec.1)
      refine ⟨b, e, b', h1, fun N hN => ?_⟩
      obtain ⟨N, rfl⟩ : ∃ q, N = q + 1 := ⟨N - 1, by omega⟩
      exact h2 (fixN page_view_boxOf_body N) (fixN ref_BoxOfNode_body N) (fun _ c hc => by rw [hR c hc]; exact (hkid c hc).choose_spec.2 N (by omega))
  obtain ⟨k, hk, hk2⟩ := hdp _ (List.getElem_mem hi)
  obtain ⟨b, e, b', h1, h2⟩ := key 9 k i hi hk2 (by omega)
  exact ⟨b, e, b', fixp_of 9 (fun N hN => (h2 N hN).1), fixp_of 9 (fun N hN => (h2 N hN).2), h1⟩
theorem fe_if {c : Prop} [Decidable c] {e : Int} {l : List Int} (he : e ≠ 0) : firstErr ((if c then 0 else e) :: l) = if c then firstErr l else e := by
  by_cases h : c <;> simp [h, he]
theorem fe_if2 {c : Prop} [Decidable c] {e : Int} {l : List Int} (he : e ≠ 0) : firstErr ((if c then e else 0) :: l) = if c then e else firstErr l := by
  by_cases h : c <;> simp [h, he]
theorem fe_app : ∀ (l m : List Int), firstErr (l ++ m) = if firstErr l = 0 then firstErr m else firstErr l
  | [], m => by simp
  | e :: l, m => by
    rw [List.cons_append, firstErr_cons, firstErr_cons, fe_app l m]
    by_cases h : e = 0 <;> simp [h]
def clsErr (s : Str) : Int := if s = Str.nil ∨ nameB s = true then 0 else 5
/-- What is wrong with a node by itself. -/
def nodeErr (n : DNode) (tw : Bool) : Int :=
  firstErr [if nameB n.Id = true then 0 else 5, if tw = true then 6 else 0, if 1 ≤ n.Kind ∧ n.Kind ≤ 6 then 0 else 1, if n.Kind = 6 then (if n.Box = zeroB then 0 else 2) else boxErr n.Box, textErr n.Text, clsErr n.Class]
theorem cls_page (s : Str) {k : Bool → Option Int} : (Option.bind (gd (!decide (s = Str.nil)) (page_isName s)) fun r => bif (!decide (s = Str.nil)) && !r then some 5 else some 0) = some (clsErr s) := by
  unfold clsErr
  rw [isName_eq]
  by_cases h : s = Str.nil
  · simp [h, gd]
  · rw [decide_eq_false h, Bool.not_false, gd_true, Option.bind_some]
    cases nameB s <;> simp [h]
theorem checkNode_eq (n : DNode) (tw : Bool) : page_checkNode n tw = some (nodeErr n tw) := by
  unfold page_checkNode nodeErr
  rw [isName_eq, Option.bind_some, fe_if (by decide), fe_if2 (by decide), fe_if (by decide), firstErr_cons]
  cases nameB n.Id with
  | false => rfl
  | true =>
    cases tw with
    | true => rfl
    | false =>
      simp only [Bool.not_true, cond_false, if_true, Bool.false_eq_true, if_false]
      by_cases hk : 1 ≤ n.Kind ∧ n.Kind ≤ 6
      case neg =>
        have : (decide (n.Kind < 1) || decide (6 < n.Kind)) = true := by simp; omega
        rw [this, if_neg hk]; rfl
      have : (decide (n.Kind < 1) || decide (6 < n.Kind)) = false := by simp; omega
      rw [this, if_pos hk, cond_false]
      have hz : (⟨(0 : Int), (0 : Int), (0 : Int), (0 : Int)⟩ : Box) = zeroB := rfl
      rw [hz]
      have last : (Option.bind (shape_CheckText n.Text) fun e2 => bif !decide (e2 = 0) then some e2 else Option.bind (gd (!decide (n.Class = Str.nil)) (page_isName n.Class)) fun r2 => bif (!decide (n.Class = Str.nil)) && !r2 then some 5 else some 0) = some (firstErr [textErr n.Text, clsErr n.Class]) := by
        rw [CheckText_eq, Option.bind_some, cls_page (k := fun _ => none)]
        by_cases h : textErr n.Text = 0
        · simp [h]
        · simp [h]
      by_cases h6 : n.Kind = 6
      · rw [decide_eq_true h6, if_pos h6]
        by_cases hb : n.Box = zeroB
        · rw [decide_eq_true hb, if_pos hb]
          simp only [Bool.not_true, Bool.and_false, cond_false, bindR_nx, if_true]
          exact last
        · rw [decide_eq_false hb, if_neg hb]; simp
      · rw [decide_eq_false h6, if_neg h6]
        simp only [Bool.false_and, cond_false, Bool.not_false, cond_true]
        rw [CheckBox_eq, Option.bind_some]
        by_cases hb : boxErr n.Box = 0
        · rw [decide_eq_true hb, if_pos hb]
          simp only [Bool.not_true, cond_false, bindR_nx]
          exact last
        · rw [decide_eq_false hb, if_neg hb]
          simp
theorem classError_eq {s : Str} (hs : fits s) : ref_classError s = some (clsErr s) := by
  unfold ref_classError clsErr
  rw [NameOf_eq hs]
  by_cases h : s = Str.nil
  · simp [h, gd, When_eq]
  · rw [decide_eq_false h, Bool.not_false, gd_true, Option.bind_some, When_eq]
    cases nameB s <;> simp [h]
theorem nodeError_eq {d : Doc} (hl : d.Nodes.length ≤ 500) (hf : ∀ n ∈ d.Nodes, fits n.Id ∧ fits n.Text ∧ fits n.Class) {i : Nat} (hi : i < d.Nodes.length) :
    ref_nodeError d (i : Int) = some (nodeErr d.Nodes[i] (decide (d.Nodes[i].Id ∈ (d.Nodes.take i).map (·.Id)))) := by
  obtain ⟨f1, f2, f3⟩ := hf _ (List.getElem_mem hi)
  unfold ref_nodeError
  rw [need_of ⟨by omega, by omega⟩, gx_nat hi, bnd_eq, need_of ⟨by omega, by omega, by omega⟩]
  have hseg : seg d.Nodes 0 (i : Int) = d.Nodes.take i := by simp [seg]
  rw [hseg, ContainsFunc_Node_eq (d.Nodes.take i) (fun x0 => ref_nodeError_1 x0 d.Nodes[i]) (fun m => decide (m.Id = d.Nodes[i].Id)) (by simp; omega) (fun x _ => rfl), Option.bind_some, NameOf_eq f1, Option.bind_some, When_eq, Option.bind_some, When_eq, Option.bind_some, In_eq, Option.bind_some, When_eq, Option.bind_some, First_eq (by simp), Option.bind_some]
  have htw : (d.Nodes.take i).any (fun m => decide (m.Id = d.Nodes[i].Id)) = decide (d.Nodes[i].Id ∈ (d.Nodes.take i).map (·.Id)) := by
    rw [Bool.eq_iff_iff, List.any_eq_true, decide_eq_true_eq, List.mem_map]
    simp
  rw [htw]
  generalize decide (d.Nodes[i].Id ∈ (d.Nodes.take i).map (·.Id)) = tw
  generalize d.Nodes[i] = n at *
  have e1 : nodeErr n tw = if firstErr [if nameB n.Id = true then (0 : Int) else 5, if tw = true then (6 : Int) else 0, if 1 ≤ n.Kind ∧ n.Kind ≤ 6 then (0 : Int) else 1] = 0 then firstErr [if n.Kind = 6 then (if n.Box = zeroB then (0 : Int) else 2) else boxErr n.Box, textErr n.Text, clsErr n.Class] else firstErr [if nameB n.Id = true then (0 : Int) else 5, if tw = true then (6 : Int) else 0, if 1 ≤ n.Kind ∧ n.Kind ≤ 6 then (0 : Int) else 1] := fe_app [_, _, _] [_, _, _]
  have e2 : firstErr [if (!nameB n.Id) = true then (5 : Int) else 0, if tw = true then (6 : Int) else 0, if (!decide (1 ≤ n.Kind ∧ n.Kind ≤ 6)) = true then (1 : Int) else 0] = firstErr [if nameB n.Id = true then (0 : Int) else 5, if tw = true then (6 : Int) else 0, if 1 ≤ n.Kind ∧ n.Kind ≤ 6 then (0 : Int) else 1] := by
    cases nameB n.Id <;> by_cases h : 1 ≤ n.Kind ∧ n.Kind ≤ 6 <;> simp [h]
  rw [e2, e1]
  generalize firstErr [if nameB n.Id = true then (0 : Int) else 5, if tw = true then (6 : Int) else 0, if 1 ≤ n.Kind ∧ n.Kind ≤ 6 then (0 : Int) else 1] = E
  by_cases hE : E = 0
  · rw [decide_eq_true hE, if_pos hE, Bool.not_true, cond_false, When_eq, Option.bind_some, BoxError_eq, TextError_eq f2, classError_eq f3]
    have hz : (⟨(0 : Int), (0 : Int), (0 : Int), (0 : Int)⟩ : Box) = zeroB := rfl
    rw [hz]
    by_cases h6 : n.Kind = 6
    · rw [decide_eq_true h6, if_pos h6]
      simp only [Bool.not_true, cond_false, Option.bind_some]
      rw [First_eq (by simp), Option.bind_some]
      by_cases hb : n.Box = zeroB <;> simp [hb]
    · rw [decide_eq_false h6, if_neg h6]
      simp only [Bool.not_false, cond_true, Option.bind_some]
      rw [First_eq (by simp), Option.bind_some]
  · rw [decide_eq_false hE, if_neg hE]; rfl

/-- What is wrong with an end of an edge. -/
def endErr (l : List DNode) (y : DEnd) : Int := if nodeAt l y.Node < 0 then 10 else if (gx l (nodeAt l y.Node)).Kind = 6 then 1 else if (1 ≤ y.Side ∧ y.Side ≤ 4) ∧ 0 ≤ y.At ∧ y.At ≤ 1000 then 0 else 3
def edgeErr (l : List DNode) (x : DEdge) (tw : Bool) : Int :=
  firstErr [if nameB x.Id = true then 0 else 5, if tw = true then 6 else 0, endErr l x.From, endErr l x.To, if 50 < x.Bends.length then 4 else 0, ptsErr x.Bends, textErr x.Text, clsErr x.Class]
theorem nodeAt_in {l : List DNode} {id : Str} (h : ¬ nodeAt l id < 0) : inR l (nodeAt l id) ∧ (gx l (nodeAt l id)).Id = id :=
  nodeAt_pos (Classical.byContradiction fun hne => h (nodeAt_neg.2 (fun n hn e => hne ⟨n, hn, e⟩)))
theorem checkEnd_eq (d : Doc) (y : DEnd) : page_view_checkEnd (viewD d) y = some (endErr d.Nodes y) := by
  unfold page_view_checkEnd endErr
  have hvn : (viewD d).number = numM d.Nodes := rfl
  have hv : (viewD d).d.Nodes = d.Nodes := rfl
  rw [hvn, hv, numM_has]
  by_cases h : nodeAt d.Nodes y.Node < 0
  · rw [if_pos h, decide_eq_false (by omega)]; rfl
  · rw [if_neg h, decide_eq_true (by omega), numM_getD (by omega), Bool.not_true, cond_false, need_of (nodeAt_in h).1]
    by_cases h6 : (gx d.Nodes (nodeAt d.Nodes y.Node)).Kind = 6
    · rw [if_pos h6, decide_eq_true h6]; rfl
    · rw [if_neg h6, decide_eq_false h6, cond_false]
      by_cases hs : (1 ≤ y.Side ∧ y.Side ≤ 4) ∧ 0 ≤ y.At ∧ y.At ≤ 1000
      · have : (decide (y.Side < 1) || decide (4 < y.Side) || decide (y.At < 0) || decide (1000 < y.At)) = false := by simp; omega
        rw [this, if_pos hs]; rfl
      · have : (decide (y.Side < 1) || decide (4 < y.Side) || decide (y.At < 0) || decide (1000 < y.At)) = true := by simp; omega
        rw [this, if_neg hs]; rfl
theorem checkEdge_eq (d : Doc) (x : DEdge) (tw : Bool) : page_view_checkEdge (viewD d) x tw = some (edgeErr d.Nodes x tw) := by
  unfold page_view_checkEdge edgeErr
  rw [isName_eq, Option.bind_some, fe_if (by decide), fe_if2 (by decide)]
  cases nameB x.Id with
  | false => rfl
  | true =>
    cases tw with
    | true => rfl
    | false =>
      simp only [Bool.not_true, cond_false, if_true, Bool.false_eq_true, if_false, bnd_eq]
      rw [rforE_err (endErr d.Nodes) (fun e => (Res.ab e : Res Unit Int)) (by simp) (fun i hi => by
        unfold page_view_checkEdge_L1
        rw [need_of hi, bnd_eq, checkEnd_eq, Option.bind_some]
        by_cases h : endErr d.Nodes (gx [x.From, x.To] i) = 0 <;> simp [h])]
      rw [show [endErr d.Nodes x.From, endErr d.Nodes x.To, if 50 < x.Bends.length then (4 : Int) else 0, ptsErr x.Bends, textErr x.Text, clsErr x.Class] = [x.From, x.To].map (endErr d.Nodes) ++ [if 50 < x.Bends.length then (4 : Int) else 0, ptsErr x.Bends, textErr x.Text, clsErr x.Class] from rfl, fe_app]
      by_cases hE : firstErr ([x.From, x.To].map (endErr d.Nodes)) = 0
      case neg => rw [if_neg hE, if_neg hE]; rfl
      rw [if_pos hE, if_pos hE, bindR_nx, fe_if2 (by decide)]
      by_cases h50 : 50 < x.Bends.length
      · rw [if_pos h50, decide_eq_true (by omega)]; rfl
      rw [if_neg h50, decide_eq_false (by omega), cond_false, CheckPoints_eq, Option.bind_some, firstErr_cons]
      by_cases hp : ptsErr x.Bends = 0
      case neg => rw [if_neg hp, decide_eq_false hp]; rfl
      rw [if_pos hp, decide_eq_true hp, Bool.not_true, cond_false, CheckText_eq, Option.bind_some, firstErr_cons]
      by_cases ht : textErr x.Text = 0
      case neg => rw [if_neg ht, decide_eq_false ht]; rfl
      rw [if_pos ht, decide_eq_true ht, Bool.not_true, cond_false, cls_page (k := fun _ => none)]
      by_cases h2 : clsErr x.Class = 0 <;> simp [h2]
theorem PortError_eq2 (s a : Int) : ref_PortError s a = some (if (1 ≤ s ∧ s ≤ 4) ∧ 0 ≤ a ∧ a ≤ 1000 then 0 else 3) := by
  unfold ref_PortError
  rw [In_eq, In_eq, Option.bind_some]
  by_cases h1 : 1 ≤ s ∧ s ≤ 4
  · rw [decide_eq_true h1]
    simp only [Bool.not_true, Bool.not_false, gd_true, Option.bind_some, Bool.false_or]
    rw [When_eq]
    by_cases h2 : 0 ≤ a ∧ a ≤ 1000 <;> simp [h1, h2]
  · rw [decide_eq_false h1, if_neg (fun h => h1 h.1)]
    simp [gd, When_eq]
theorem edgeError_eq {d : Doc} (hl : d.Nodes.length ≤ 500) (hel : d.Edges.length ≤ 1000) (hf : ∀ x ∈ d.Edges, fits x.Id ∧ fits x.Text ∧ fits x.Class) {i : Nat} (hi : i < d.Edges.length) :
    ref_edgeError d (i : Int) = some (edgeErr d.Nodes d.Edges[i] (decide (d.Edges[i].Id ∈ d.Nodes.map (·.Id) ++ (d.Edges.take i).map (·.Id)))) := by
  obtain ⟨f1, f2, f3⟩ := hf _ (List.getElem_mem hi)
  have hll : (d.Nodes.length : Int) ≤ 9223372036854775807 := by omega
  unfold ref_edgeError
  rw [need_of ⟨by omega, by omega⟩, gx_nat hi, bnd_eq, NodeAt_eq hll, Option.bind_some, need_of (fun _ => ⟨by omega, by omega, by omega⟩)]
  have hseg : seg d.Edges 0 (i : Int) = d.Edges.take i := by simp [seg]
  rw [hseg, ContainsFunc_Edge_eq (d.Edges.take i) (fun x0 => ref_edgeError_1 x0 d.Edges[i]) (fun m => decide (m.Id = d.Edges[i].Id)) (by simp; omega) (fun x _ => rfl)]
  have htw : (decide (0 ≤ nodeAt d.Nodes d.Edges[i].Id) || (d.Edges.take i).any (fun m => decide (m.Id = d.Edges[i].Id))) = decide (d.Edges[i].Id ∈ d.Nodes.map (·.Id) ++ (d.Edges.take i).map (·.Id)) := by
    rw [Bool.eq_iff_iff, Bool.or_eq_true, List.any_eq_true, decide_eq_true_eq, decide_eq_true_eq, List.mem_append, List.mem_map, List.mem_map]
    refine or_congr ?_ (by simp)
    constructor
    · intro h
      obtain ⟨h1, h2⟩ := nodeAt_in (l := d.Nodes) (id := d.Edges[i].Id) (by omega)
      exact ⟨_, gx_mem h1, h2⟩
    · rintro ⟨n, hn, e⟩
      have := (nodeAt_pos ⟨n, hn, e⟩).1.1
      exact this
  have hgd : ∀ {k : Bool → Option Int}, (Option.bind (gd (!(decide (0 ≤ nodeAt d.Nodes d.Edges[i].Id))) (some ((d.Edges.take i).any (fun m => decide (m.Id = d.Edges[i].Id))))) fun r2 => k (decide (0 ≤ nodeAt d.Nodes d.Edges[i].Id) || r2)) = k (decide (d.Edges[i].Id ∈ d.Nodes.map (·.Id) ++ (d.Edges.take i).map (·.Id))) := fun {k} => by
    rw [← htw]
    cases decide (0 ≤ nodeAt d.Nodes d.Edges[i].Id) <;> simp [gd]
  rw [hgd (k := fun tw => Option.bind (ref_NameOf d.Edges[i].Id) fun r3 => Option.bind (ref_When (!r3) 5) fun r4 => Option.bind (ref_When tw 6) fun r5 => Option.bind (ref_First [r4, r5]) fun e1 =>
    bif !decide (e1 = 0) then some e1 else bnd [d.Edges[i].From, d.Edges[i].To] fun v2 => bindR (rforE (v2.length : Int) (ref_edgeError_L1 d v2) (fun s => Res.nx s) ()) fun j_12 =>
      bif decide (50 < (d.Edges[i].Bends.length : Int)) then some 4 else Option.bind (ref_PointsError d.Edges[i].Bends) fun r8 => Option.bind (ref_TextError d.Edges[i].Text) fun r9 => Option.bind (ref_classError d.Edges[i].Class) fun r10 => Option.bind (ref_First [r8, r9, r10]) fun r11 => some r11)]
  generalize decide (d.Edges[i].Id ∈ d.Nodes.map (·.Id) ++ (d.Edges.take i).map (·.Id)) = tw
  generalize d.Edges[i] = x at *
  simp only [NameOf_eq f1, Option.bind_some, When_eq]
  rw [First_eq (by simp), Option.bind_some]
  have eR : edgeErr d.Nodes x tw = if nameB x.Id = true then (if tw = true then 6 else firstErr [endErr d.Nodes x.From, endErr d.Nodes x.To, if 50 < x.Bends.length then 4 else 0, ptsErr x.Bends, textErr x.Text, clsErr x.Class]) else 5 := by
    unfold edgeErr
    rw [fe_if (by decide), fe_if2 (by decide)]
  rw [eR]
  cases nameB x.Id with
  | false => rfl
  | true =>
    cases tw with
    | true => rfl
    | false =>
      have e0 : firstErr [if (!true) = true then (5 : Int) else 0, if false = true then (6 : Int) else 0] = 0 := by simp
      rw [e0]
      simp only [decide_true, Bool.not_true, cond_false, if_true, Bool.false_eq_true, if_false, bnd_eq]
      rw [rforE_err (endErr d.Nodes) (fun e => (Res.ab e : Res Unit Int)) (by simp) (fun i hi => by
        unfold ref_edgeError_L1
        rw [need_of hi, bnd_eq, NodeAt_eq hll, Option.bind_some]
        generalize gx [x.From, x.To] i = y
        unfold endErr
        by_cases h : nodeAt d.Nodes y.Node < 0
        · rw [if_pos h, decide_eq_true h]; rfl
        · rw [if_neg h, decide_eq_false h, cond_false, need_of (nodeAt_in h).1, When_eq, Option.bind_some, PortError_eq2, Option.bind_some, First_eq (by simp), Option.bind_some]
          by_cases h6 : (gx d.Nodes (nodeAt d.Nodes y.Node)).Kind = 6
          · simp [h6]
          · by_cases hs : (1 ≤ y.Side ∧ y.Side ≤ 4) ∧ 0 ≤ y.At ∧ y.At ≤ 1000
            · simp [h6, hs]
            · simp only [if_neg h6, if_neg hs, decide_eq_false h6]; simp)]
      rw [show [endErr d.Nodes x.From, endErr d.Nodes x.To, if 50 < x.Bends.length then (4 : Int) else 0, ptsErr x.Bends, textErr x.Text, clsErr x.Class] = [x.From, x.To].map (endErr d.Nodes) ++ [if 50 < x.Bends.length then (4 : Int) else 0, ptsErr x.Bends, textErr x.Text, clsErr x.Class] from rfl, fe_app]
      by_cases hE : firstErr ([x.From, x.To].map (endErr d.Nodes)) = 0
      case neg => rw [if_neg hE, if_neg hE]; rfl
      rw [if_pos hE, if_pos hE, bindR_nx, fe_if2 (by decide)]
      by_cases h50 : 50 < x.Bends.length
      · rw [if_pos h50, decide_eq_true (by omega)]; rfl
      rw [if_neg h50, decide_eq_false (by omega), cond_false, PointsError_eq, Option.bind_some, TextError_eq f2, Option.bind_some, classError_eq f3, Option.bind_some, First_eq (by simp), Option.bind_some]
/-- What is known: Ids that were met. -/
def knM (l : List Str) : GMap Str Bool := ⟨fun id => if id ∈ l then some true else none⟩
theorem knM_set {l : List Str} {x : Str} : (knM l).set x true = knM (l ++ [x]) := by
  unfold knM GMap.set
  congr 1
  funext id
  by_cases h : id = x
  · simp [h]
  · simp [h]
theorem knM_getD {l : List Str} {x : Str} : (knM l).getD x false = decide (x ∈ l) := by
  unfold knM GMap.getD
  by_cases h : x ∈ l <;> simp [h]

/-- A right diagram. -/
structure Right (d : Doc) : Prop where
  nl : d.Nodes.length ≤ 500
  el : d.Edges.length ≤ 1000
  node : ∀ (i : Nat) (h : i < d.Nodes.length), nodeErr d.Nodes[i] (decide (d.Nodes[i].Id ∈ (d.Nodes.take i).map (·.Id))) = 0
  tree : ∀ n ∈ d.Nodes, n.Parent ≠ Str.nil → ∃ g ∈ d.Nodes, g.Id = n.Parent ∧ (par d.Nodes n).Kind = 6
  deep : ∀ n ∈ d.Nodes, ∃ k, k ≤ 8 ∧ Dp d.Nodes n k
  full : ∀ n ∈ d.Nodes, n.Kind = 6 → idxs d.Nodes n.Id ≠ []
  edge : ∀ (i : Nat) (h : i < d.Edges.length), edgeErr d.Nodes d.Edges[i] (decide (d.Edges[i].Id ∈ d.Nodes.map (·.Id) ++ (d.Edges.take i).map (·.Id))) = 0
  box : ∀ (i : Nat) (h : i < d.Nodes.length), ∃ b, page_view_boxOf (viewD d) (i : Int) = some (b, 0) ∧ ref_BoxOfNode d d.Nodes[i].Id = some (b, 0) ∧ okB b

theorem nodeErr_zero {n : DNode} {tw : Bool} (h : nodeErr n tw = 0) : nameB n.Id = true ∧ tw = false ∧ (1 ≤ n.Kind ∧ n.Kind ≤ 6) ∧ (n.Kind ≠ 6 → okB n.Box) := by
  have := firstErr_zero.1 h
  have h1 := this (if nameB n.Id = true then 0 else 5) (by simp)
  have h2 := this (if tw = true then 6 else 0) (by simp)
  have h3 := this (if 1 ≤ n.Kind ∧ n.Kind ≤ 6 then 0 else 1) (by simp)
  have h4 := this (if n.Kind = 6 then (if n.Box = zeroB then 0 else 2) else boxErr n.Box) (by simp)
  refine ⟨?_, ?_, ?_, fun hk => ?_⟩
  · apply Classical.byContradiction; intro hc; rw [if_neg hc] at h1; cases h1
  · cases tw with
    | false => rfl
    | true => simp at h2
  · apply Classical.byContradiction; intro hc; rw [if_neg hc] at h3; cases h3
  · rw [if_neg hk] at h4; exact boxErr_zero.1 h4
theorem nodup_of_tw : ∀ {l : List DNode}, (∀ (i : Nat) (h : i < l.length), l[i].Id ∉ (l.take i).map (·.Id)) → (l.map (·.Id)).Nodup := fun {l} h => by
  rw [List.nodup_iff_pairwise_ne, List.pairwise_iff_getElem]
  intro i j hi hj hij e
  simp only [List.length_map] at hi hj
  simp only [List.getElem_map] at e
  refine h j hj (List.mem_map.2 ⟨l[i], ?_, e⟩)
  have : l[i] = (l.take j)[i]'(by simp; omega) := by simp
  rw [this]; exact List.getElem_mem _

/-- A diagram's error is found alike. -/
theorem Check_both {d : Doc} (hf : fits d) : ∃ e, page_Check d = some e ∧ ref_DocError d = some e ∧ (e = 0 → Right d) := by
  have hfn : ∀ n ∈ d.Nodes, fits n.Id ∧ fits n.Text ∧ fits n.Class := fun n hn => by
    have := hf.1.2 n hn
    exact ⟨this.1, this.2.2.2.1, this.2.2.2.2.1⟩
  have hfe : ∀ x ∈ d.Edges, fits x.Id ∧ fits x.Text ∧ fits x.Class := fun x hx => by
    have := hf.2.2 x hx
    exact ⟨this.1, this.2.2.2.2.1, this.2.2.2.2.2⟩
  unfold page_Check ref_DocError
  by_cases hsz : 500 < d.Nodes.length ∨ 1000 < d.Edges.length
  · have : (decide (500 < (d.Nodes.length : Int)) || decide (1000 < (d.Edges.length : Int))) = true := by simp; omega
    rw [this]
    exact ⟨4, rfl, rfl, fun h => by cases h⟩
  have hl : d.Nodes.length ≤ 500 := by omega
  have hel : d.Edges.length ≤ 1000 := by omega
  have : (decide (500 < (d.Nodes.length : Int)) || decide (1000 < (d.Edges.length : Int))) = false := by simp; omega
  rw [this, cond_false, cond_false, bnd_eq]
  let nE : Nat → Int := fun i => nodeErr (gx d.Nodes (i : Int)) (decide ((gx d.Nodes (i : Int)).Id ∈ (d.Nodes.take i).map (·.Id)))
  have k0 : (GMap.nil : GMap Str Bool) = knM ((d.Nodes.take 0).map (·.Id)) := by simp [knM, GMap.nil]
  rw [k0]
  have p1 := rforE_errS (n := d.Nodes.length) (step := page_Check_L1 d) (fin := fun s => (Res.nx s : Res (GMap Str Bool) Int)) (fun k => knM ((d.Nodes.take k).map (·.Id))) nE (fun e => Res.ab e) (by omega) (fun i hi _ => by
    unfold page_Check_L1
    rw [need_of ⟨by omega, by omega⟩, bnd_eq, knM_getD, checkNode_eq, Option.bind_some]
    show (bif !decide (nE i = 0) then _ else _) = _
    by_cases h : nE i = 0
    · rw [decide_eq_true h, if_pos h, knM_set, List.take_succ_eq_append_getElem hi, List.map_append, gx_nat hi]; rfl
    · rw [decide_eq_false h, if_neg h]; rfl)
  have q1 := rforE_errS (n := d.Nodes.length) (step := ref_DocError_L1 d) (fin := fun s => (Res.nx s : Res Unit Int)) (fun _ => ()) nE (fun e => Res.ab e) (by omega) (fun i hi _ => by
    unfold ref_DocError_L1
    rw [nodeError_eq hl hfn hi, Option.bind_some, ← gx_nat hi]
    show (bif !decide (nE i = 0) then some (Res.ab (Res.ab (nE i))) else _) = _
    by_cases h : nE i = 0
    · rw [decide_eq_true h, if_pos h]; rfl
    · rw [decide_eq_false h, if_neg h]; rfl)
  rw [p1, q1]
  by_cases h1 : firstErr ((List.range d.Nodes.length).map nE) = 0
  case neg => rw [if_neg h1, if_neg h1]; exact ⟨_, rfl, rfl, fun h => absurd h h1⟩
  rw [if_pos h1, if_pos h1, bindR_nx, bindR_nx, List.take_length]
  have hnode : ∀ (i : Nat) (h : i < d.Nodes.length), nodeErr d.Nodes[i] (decide (d.Nodes[i].Id ∈ (d.Nodes.take i).map (·.Id))) = 0 := fun i h => by
    have := firstErr_zero.1 h1 (nE i) (List.mem_map.2 ⟨i, by simpa using h, rfl⟩)
    rw [← gx_nat h]; exact this
  have hd : (d.Nodes.map (·.Id)).Nodup := nodup_of_tw fun i h => by
    have := (nodeErr_zero (hnode i h)).2.1
    exact of_decide_eq_false this
  have hat : ∀ n ∈ d.Nodes, nameB n.Id = true ∧ (n.Kind ≠ 6 → okB n.Box) := fun n hn => by
    obtain ⟨i, hi, rfl⟩ := List.mem_iff_getElem.1 hn
    have := nodeErr_zero (hnode i hi)
    exact ⟨this.1, this.2.2.2⟩
  have hid : ∀ n ∈ d.Nodes, n.Id ≠ Str.nil := fun n hn => nameB_ne (hat n hn).1
  have hbx : ∀ n ∈ d.Nodes, n.Kind ≠ 6 → okB n.Box := fun n hn => (hat n hn).2
  rw [viewOf_eq hl hd, Option.bind_some, Option.bind_some]
  obtain ⟨e, t1, t2, t3⟩ := tree_both hl hid
  rw [t1, t2, Option.bind_some, Option.bind_some]
  by_cases he : e = 0
  case neg => rw [decide_eq_false he]; exact ⟨e, rfl, rfl, fun h => absurd h he⟩
  rw [decide_eq_true he, Bool.not_true, cond_false, cond_false]
  obtain ⟨htree, hdeep, hfull⟩ := t3 he
  have hdp : ∀ n ∈ d.Nodes, ∃ k, k ≤ 8 ∧ Dp d.Nodes n k := fun n hn => by
    obtain ⟨k, a, b, c⟩ := hdeep n hn
    exact ⟨k, a, b, c⟩
  let eE : Nat → Int := fun i => edgeErr d.Nodes (gx d.Edges (i : Int)) (decide ((gx d.Edges (i : Int)).Id ∈ d.Nodes.map (·.Id) ++ (d.Edges.take i).map (·.Id)))
  have k1 : knM (d.Nodes.map (·.Id)) = knM (d.Nodes.map (·.Id) ++ (d.Edges.take 0).map (·.Id)) := by simp
  rw [k1]
  have p2 := rforE_errS (n := d.Edges.length) (step := page_Check_L2 d (viewD d)) (fin := fun s => (Res.nx s : Res (GMap Str Bool) Int)) (fun k => knM (d.Nodes.map (·.Id) ++ (d.Edges.take k).map (·.Id))) eE (fun e => Res.ab e) (by omega) (fun i hi _ => by
    unfold page_Check_L2
    rw [need_of ⟨by omega, by omega⟩, bnd_eq, knM_getD, checkEdge_eq, Option.bind_some]
    show (bif !decide (eE i = 0) then _ else _) = _
    by_cases h : eE i = 0
    · rw [decide_eq_true h, if_pos h, knM_set, List.take_succ_eq_append_getElem hi, List.map_append, gx_nat hi, List.append_assoc]; rfl
    · rw [decide_eq_false h, if_neg h]; rfl)
  have q2 := rforE_errS (n := d.Edges.length) (step := ref_DocError_L2 d) (fin := fun s => (Res.nx s : Res Unit Int)) (fun _ => ()) eE (fun e => Res.ab e) (by omega) (fun i hi _ => by
    unfold ref_DocError_L2
    rw [edgeError_eq hl hel hfe hi, Option.bind_some, ← gx_nat hi]
    show (bif !decide (eE i = 0) then some (Res.ab (Res.ab (eE i))) else _) = _
    by_cases h : eE i = 0
    · rw [decide_eq_true h, if_pos h]; rfl
    · rw [decide_eq_false h, if_neg h]; rfl)
  rw [p2, q2]
  by_cases h2 : firstErr ((List.range d.Edges.length).map eE) = 0
  case neg => rw [if_neg h2, if_neg h2]; exact ⟨_, rfl, rfl, fun h => absurd h h2⟩
  rw [if_pos h2, if_pos h2, bindR_nx, bindR_nx]
  -- boxes
  have hbox : ∀ i : Nat, ∃ x : (Box × Int) × Box, i < d.Nodes.length → page_view_boxOf (viewD d) (i : Int) = some x.1 ∧ ref_BoxOfNode d (gx d.Nodes (i : Int)).Id = some (x.2, x.1.2) ∧ (x.1.2 = 0 → x.1.1 = x.2 ∧ okB x.2) := fun i => by
    by_cases hi : i < d.Nodes.length
    · obtain ⟨b, e, b', g1, g2, g3⟩ := box_both hl hd hid hbx hdp hi
      exact ⟨((b, e), b'), fun _ => ⟨g1, by rw [gx_nat hi]; exact g2, g3⟩⟩
    · exact ⟨((zeroB, 0), zeroB), fun h => absurd h hi⟩
  let bE : Nat → Int := fun i => (hbox i).choose.1.2
  have p3 := rforE_errS (n := d.Nodes.length) (step := page_Check_L3 (viewD d)) (fin := fun s => (Res.nx s : Res Unit Int)) (fun _ => ()) bE (fun e => Res.ab e) (by omega) (fun i hi _ => by
    unfold page_Check_L3
    rw [((hbox i).choose_spec hi).1, Option.bind_some]
    show (bif !decide (bE i = 0) then some (Res.ab (Res.ab (bE i))) else _) = _
    by_cases h : bE i = 0
    · rw [decide_eq_true h, if_pos h]; rfl
    · rw [decide_eq_false h, if_neg h]; rfl)
  have q3 := rforE_errS (n := d.Nodes.length) (step := ref_DocError_L3 d) (fin := fun s => (Res.nx s : Res Unit Int)) (fun _ => ()) bE (fun e => Res.ab e) (by omega) (fun i hi _ => by
    unfold ref_DocError_L3
    rw [need_of ⟨by omega, by omega⟩, bnd_eq, ((hbox i).choose_spec hi).2.1, Option.bind_some]
    show (bif !decide (bE i = 0) then some (Res.ab (Res.ab (bE i))) else _) = _
    by_cases h : bE i = 0
    · rw [decide_eq_true h, if_pos h]; rfl
    · rw [decide_eq_false h, if_neg h]; rfl)
  rw [p3, q3]
  by_cases h3 : firstErr ((List.range d.Nodes.length).map bE) = 0
  case neg => rw [if_neg h3]; exact ⟨_, rfl, rfl, fun h => absurd h h3⟩
  rw [if_pos h3]
  refine ⟨0, rfl, rfl, fun _ => ⟨hl, hel, hnode, htree, hdp, hfull, fun i h => ?_, fun i h => ?_⟩⟩
  · have := firstErr_zero.1 h2 (eE i) (List.mem_map.2 ⟨i, by simpa using h, rfl⟩)
    rw [← gx_nat h]; exact this
  · have hz := firstErr_zero.1 h3 (bE i) (List.mem_map.2 ⟨i, by simpa using h, rfl⟩)
    obtain ⟨g1, g2, g3⟩ := (hbox i).choose_spec h
    have hz' : (hbox i).choose.1.2 = 0 := hz
    generalize (hbox i).choose = x at *
    obtain ⟨⟨b, e⟩, b'⟩ := x
    simp only at hz' g1 g2 g3
    subst hz'
    obtain ⟨rfl, g4⟩ := g3 rfl
    rw [gx_nat h] at g2
    exact ⟨b, g1, g2, g4⟩
/-! Errors. -/

def valC (c : UInt8) : Bool := decide (c.toNat < 33) || decide (126 < c.toNat) || decide (c.toNat = 34)
def valueB (s : Str) : Bool := !decide (s = Str.nil) && decide (s.b.length ≤ 40) && !s.b.any valC
theorem valC_int (c : UInt8) : (((decide ((c.toNat : Int) < 33)) || (decide ((126 : Int) < (c.toNat : Int)))) || (decide ((c.toNat : Int) = 34))) = valC c := by
  unfold valC
  rw [Bool.eq_iff_iff]
  simp only [Bool.or_eq_true, decide_eq_true_eq]
  omega
theorem isValue_eq (s : Str) : desk_isValue s = some (valueB s) := by
  unfold desk_isValue valueB
  by_cases h1 : s = Str.nil
  · simp [h1]
  · by_cases h2 : s.b.length ≤ 40
    · rw [decide_eq_false h1, decide_eq_false (p := (40 : Int) < (s.b.length : Int)) (by omega), Bool.or_self, cond_false, rforE_any valC (Res.ab false) (by omega) (fun i hi => by
        unfold desk_isValue_L1
        rw [need_of hi, need_of (fun _ => hi), need_of (fun _ => hi)]
        simp only
        rw [valC_int]
        cases valC (gx s.b i) <;> rfl), decide_eq_true h2]
      cases s.b.any valC <;> rfl
    · rw [decide_eq_false h1, decide_eq_true (p := (40 : Int) < (s.b.length : Int)) (by omega), Bool.or_true, cond_true, decide_eq_false h2]; rfl
def ruleErr (r : Rule) : Int := if ((!decide (r.Class = Str.nil) && !nameB r.Class) || !nameB r.Prop_) = true then 5 else if valueB r.Value = true then 0 else 2
def rulesErr (l : List Rule) : Int := if 100 < l.length then 4 else firstErr (l.map ruleErr)
theorem CheckRules_eq (l : List Rule) : desk_CheckRules l = some (rulesErr l) := by
  unfold desk_CheckRules rulesErr
  by_cases h : 100 < l.length
  · rw [if_pos h, decide_eq_true (p := (100 : Int) < (l.length : Int)) (by omega), cond_true]
  · rw [if_neg h, decide_eq_false (p := (100 : Int) < (l.length : Int)) (by omega), cond_false, rforE_err ruleErr (fun e => Res.ab e) (by omega) (fun i hi => by
      unfold desk_CheckRules_L1
      rw [need_of hi, bnd_eq, isName_eqD, isName_eqD]
      unfold ruleErr
      rw [isValue_eq]
      cases decide ((gx l i).Class = Str.nil) <;> cases nameB (gx l i).Class <;> cases nameB (gx l i).Prop_ <;> cases valueB (gx l i).Value <;> rfl)]
    by_cases c : firstErr (l.map ruleErr) = 0
    · rw [if_pos c, c]; rfl
    · rw [if_neg c]; rfl
theorem rulesError_eq (l : List Rule) (hf : fits l) : law_rulesError l = some (rulesErr l) := by
  unfold law_rulesError rulesErr
  by_cases h : 100 < l.length
  · rw [if_pos h, decide_eq_true (p := (100 : Int) < (l.length : Int)) (by omega), cond_true]
  · rw [if_neg h, decide_eq_false (p := (100 : Int) < (l.length : Int)) (by omega), cond_false, rforE_err ruleErr (fun e => Res.ab e) (by omega) (fun i hi => by
      obtain ⟨f1, f2, f3⟩ : fits (gx l i).Class ∧ fits (gx l i).Prop_ ∧ fits (gx l i).Value := hf.2 _ (gx_mem hi)
      have f3' : (gx l i).Value.b.length ≤ 9223372036854775807 := f3
      unfold law_rulesError_L1
      rw [need_of hi, bnd_eq, In_eq, Option.bind_some, bnd_eq]
      obtain ⟨s, s1, s2⟩ := rfor_inv (n := ((gx l i).Value.b.length : Int)) (step := law_rulesError_L2 (gx l i)) (s0 := !decide (1 ≤ ((gx l i).Value.b.length : Int) ∧ ((gx l i).Value.b.length : Int) ≤ 40)) (fun j s => s = (!decide (1 ≤ ((gx l i).Value.b.length : Int) ∧ ((gx l i).Value.b.length : Int) ≤ 40) || ((gx l i).Value.b.take j).any valC))
        (by omega) (by simp) (fun j s hj hI => by
          have hin : inR (gx l i).Value.b (j : Int) := ⟨by omega, hj⟩
          have hj' : j < (gx l i).Value.b.length := by omega
          unfold law_rulesError_L2
          rw [need_of (fun _ => hin), need_of (fun _ => hin), need_of (fun _ => hin), bnd_eq]
          refine ⟨_, rfl, ?_⟩
          simp only
          rw [hI, List.take_succ_eq_append_getElem hj', List.any_append, List.any_cons, List.any_nil, Bool.or_false, ← gx_nat hj', ← valC_int]
          simp only [Bool.or_assoc])
      rw [s1, Option.bind_some, s2]
      simp only [Int.toNat_natCast, List.take_length]
      rw [NameOf_eq f1, NameOf_eq f2]
      have hv : (!decide (1 ≤ ((gx l i).Value.b.length : Int) ∧ ((gx l i).Value.b.length : Int) ≤ 40) || (gx l i).Value.b.any valC) = !valueB (gx l i).Value := by
        unfold valueB
        have hnil : (gx l i).Value = Str.nil ↔ (gx l i).Value.b.length = 0 := by
          cases (gx l i).Value with
          | mk b => unfold Str.nil; rw [Str.mk.injEq]; exact List.length_eq_zero_iff.symm
        cases (gx l i).Value.b.any valC with
        | true => simp
        | false =>
          rw [Bool.eq_iff_iff]
          simp only [Bool.or_false, Bool.not_false, Bool.and_true, Bool.not_eq_true', Bool.and_eq_false_iff, decide_eq_false_iff_not, Bool.not_eq_false', decide_eq_true_eq, hnil]
          omega
      rw [hv]
      unfold ruleErr
      cases decide ((gx l i).Class = Str.nil) <;> cases nameB (gx l i).Class <;> cases nameB (gx l i).Prop_ <;> cases valueB (gx l i).Value <;> simp [When_eq, First_eq, firstErr_cons])]
    by_cases c : firstErr (l.map ruleErr) = 0
    · rw [if_pos c, c]; rfl
    · rw [if_neg c]; rfl

theorem desks_eq : law_desks = some true := by
  unfold law_desks
  rw [CheckRules_eq, CheckRules_eq]
  have h1 : rulesErr [] = 0 := rfl
  have h2 : rulesErr [(⟨Str.nil, Str.nil, Str.nil⟩ : Rule)] = 5 := by decide
  rw [h1, h2]; rfl
def kindsL : List Str := [Str.nil, ⟨[98, 111, 120]⟩, ⟨[114, 111, 117, 110, 100]⟩, ⟨[111, 118, 97, 108]⟩, ⟨[100, 105, 97, 109, 111, 110, 100]⟩, ⟨[110, 111, 116, 101]⟩, ⟨[103, 114, 111, 117, 112]⟩]
def sidesL : List Str := [Str.nil, ⟨[117, 112]⟩, ⟨[114, 105, 103, 104, 116]⟩, ⟨[100, 111, 119, 110]⟩, ⟨[108, 101, 102, 116]⟩]
abbrev wClass : List UInt8 := [99, 108, 97, 115, 115]
abbrev wIn : List UInt8 := [105, 110]
abbrev wLocked : List UInt8 := [108, 111, 99, 107, 101, 100]
abbrev wBy : List UInt8 := [98, 121]
abbrev wEdge : List UInt8 := [101, 100, 103, 101]
abbrev wStyle : List UInt8 := [115, 116, 121, 108, 101]
def optW (w : List UInt8) (v : Str) : List (List UInt8) := if v = Str.nil then [] else [w, v.b]
def lockW (b : Bool) : List (List UInt8) := bif b then [wLocked] else []
def numsW (l : List Int) : List (List UInt8) := l.map Go.Lib.itoa
def boxN (b : Box) : List Int := [b.X, b.Y, b.W_, b.H]
def coords (l : List Point) : List Int := l.flatMap fun p => [p.X, p.Y]
def placeW (n : DNode) : List (List UInt8) := if n.Kind = 6 then [] else numsW (boxN n.Box)
def nodeW (n : DNode) : List (List UInt8) := (gx kindsL n.Kind).b :: n.Id.b :: (placeW n ++ (optW wClass n.Class ++ (optW wIn n.Parent ++ lockW n.Locked)))
def endW (y : DEnd) : List (List UInt8) := [y.Node.b, (gx sidesL y.Side).b, Go.Lib.itoa y.At]
def bendW (l : List Point) : List (List UInt8) := if l = [] then [] else wBy :: numsW (coords l)
def edgeW (x : DEdge) : List (List UInt8) := wEdge :: x.Id.b :: (endW x.From ++ (endW x.To ++ (bendW x.Bends ++ optW wClass x.Class)))
def starB (s : Str) : List UInt8 := if s = Str.nil then [42] else s.b
def ruleW (r : Rule) : List (List UInt8) := [wStyle, starB r.Class, r.Prop_.b, r.Value.b]
def ruleB (r : Rule) : List UInt8 := joinC 32 (ruleW r)
def nodeB (n : DNode) : List UInt8 := lineW (nodeW n) n.Text
def edgeB (x : DEdge) : List UInt8 := lineW (edgeW x) x.Text
def docB (d : Doc) (l : List Rule) : List UInt8 := textL (l.map ruleB) ++ (textL (d.Nodes.map nodeB) ++ textL (d.Edges.map edgeB))
theorem ruleB_eq (r : Rule) : ruleB r = lineW (ruleW r) Str.nil := by
  unfold ruleB lineW qB
  rw [if_pos rfl, List.append_nil]

/-! What is right can be read again. -/

structure RuleT (r : Rule) : Prop where
  cls : r.Class = Str.nil ∨ nameB r.Class = true
  prop : nameB r.Prop_ = true
  val : valueB r.Value = true
structure NodeT (n : DNode) : Prop where
  id : nameB n.Id = true
  k1 : 1 ≤ n.Kind
  k2 : n.Kind ≤ 6
  zero : n.Kind = 6 → n.Box = zeroB
  box : ∀ v ∈ boxN n.Box, v.natAbs < 10000000
  cls : n.Class = Str.nil ∨ nameB n.Class = true
  par : n.Parent = Str.nil ∨ nameB n.Parent = true
  text : n.Text.b.length ≤ 1000
structure EndT (y : DEnd) : Prop where
  node : nameB y.Node = true
  s1 : 1 ≤ y.Side
  s2 : y.Side ≤ 4
  at_ : y.At.natAbs < 10000000
structure EdgeT (x : DEdge) : Prop where
  id : nameB x.Id = true
  from_ : EndT x.From
  to_ : EndT x.To
  few : x.Bends.length ≤ 50
  bends : ∀ v ∈ coords x.Bends, v.natAbs < 10000000
  cls : x.Class = Str.nil ∨ nameB x.Class = true
  text : x.Text.b.length ≤ 1000
structure DocT (d : Doc) (l : List Rule) : Prop where
  rl : l.length ≤ 100
  nl : d.Nodes.length ≤ 500
  el : d.Edges.length ≤ 1000
  rule : ∀ r ∈ l, RuleT r
  node : ∀ n ∈ d.Nodes, NodeT n
  edge : ∀ x ∈ d.Edges, EdgeT x

theorem nameB_len {s : Str} (h : nameB s = true) : s.b.length ≤ 40 := by
  unfold nameB at h
  simp only [Bool.and_eq_true, decide_eq_true_eq] at h
  exact h.1
theorem nameB_word {s : Str} (h : nameB s = true) : Word s.b := by
  have key : ∀ c ∈ s.b, nameC c = true := fun c hm => by
    unfold nameB at h
    simp only [Bool.and_eq_true, decide_eq_true_eq] at h
    obtain ⟨_, h2⟩ := h
    cases hb : s.b with
    | nil => rw [hb] at hm; cases hm
    | cons a l =>
      rw [hb] at h2 hm
      simp only [Bool.and_eq_true] at h2
      rcases List.mem_cons.1 hm with rfl | hm
      · unfold nameC; rw [h2.1]; rfl
      · exact List.all_eq_true.1 h2.2 c hm
  exact ⟨fun e => nameB_ne h (by cases s; simp only at e; rw [e]; rfl), fun hm => absurd (key _ hm) (by decide), fun hm => absurd (key _ hm) (by decide), fun hm => absurd (key _ hm) (by decide)⟩
theorem itoa_word (n : Int) : Word (Go.Lib.itoa n) := by
  have key : ∀ c : UInt8, c = 32 ∨ c = 34 ∨ c = 10 → c ∉ Go.Lib.itoa n := fun c hc hm => by
    rcases itoa_mem hm with h | h
    · rcases hc with rfl | rfl | rfl <;> exact absurd h (by decide)
    · rcases hc with rfl | rfl | rfl <;> exact absurd h (by decide)
  exact ⟨itoa_ne n, key _ (.inl rfl), key _ (.inr (.inl rfl)), key _ (.inr (.inr rfl))⟩
theorem value_word {s : Str} (h : valueB s = true) : Word s.b ∧ s.b.length ≤ 40 := by
  unfold valueB at h
  simp only [Bool.and_eq_true, Bool.not_eq_true', decide_eq_true_eq, decide_eq_false_iff_not] at h
  obtain ⟨⟨h1, h2⟩, h3⟩ := h
  have key : ∀ c ∈ s.b, valC c = false := fun c hm => by
    cases hc : valC c with
    | false => rfl
    | true => exact absurd (List.any_eq_true.2 ⟨c, hm, hc⟩) (by rw [h3]; decide)
  exact ⟨⟨fun e => h1 (by cases s; simp only at e; rw [e]; rfl), fun hm => absurd (key _ hm) (by decide), fun hm => absurd (key _ hm) (by decide), fun hm => absurd (key _ hm) (by decide)⟩, h2⟩
theorem word_lit {w : List UInt8} (h : (!w.isEmpty && !w.contains 32 && !w.contains 34 && !w.contains 10) = true) : Word w := by
  simp only [Bool.and_eq_true, Bool.not_eq_true', List.contains_eq_mem, decide_eq_false_iff_not] at h
  obtain ⟨⟨⟨h1, h2⟩, h3⟩, h4⟩ := h
  exact ⟨fun e => (by rw [e] at h1; cases h1), h2, h3, h4⟩
theorem kind_cases {k : Int} (h1 : 1 ≤ k) (h2 : k ≤ 6) : k = 1 ∨ k = 2 ∨ k = 3 ∨ k = 4 ∨ k = 5 ∨ k = 6 := by omega
theorem side_cases {k : Int} (h1 : 1 ≤ k) (h2 : k ≤ 4) : k = 1 ∨ k = 2 ∨ k = 3 ∨ k = 4 := by omega
theorem kind_word {k : Int} (h1 : 1 ≤ k) (h2 : k ≤ 6) : Word (gx kindsL k).b ∧ (gx kindsL k).b.length ≤ 7 := by
  rcases kind_cases h1 h2 with rfl | rfl | rfl | rfl | rfl | rfl <;> exact ⟨word_lit (by decide), by decide⟩
theorem side_word {k : Int} (h1 : 1 ≤ k) (h2 : k ≤ 4) : Word (gx sidesL k).b ∧ (gx sidesL k).b.length ≤ 5 := by
  rcases side_cases h1 h2 with rfl | rfl | rfl | rfl <;> exact ⟨word_lit (by decide), by decide⟩
/-- Words of at most 40 bytes. -/
def Short (ws : List (List UInt8)) : Prop := ∀ w ∈ ws, Word w ∧ w.length ≤ 40
theorem short_app {a b : List (List UInt8)} (ha : Short a) (hb : Short b) : Short (a ++ b) := fun w hw => (List.mem_append.1 hw).elim (ha w) (hb w)
theorem short_cons {a : List UInt8} {b : List (List UInt8)} (ha : Word a ∧ a.length ≤ 40) (hb : Short b) : Short (a :: b) := fun w hw => by
  rcases List.mem_cons.1 hw with rfl | hw
  · exact ha
  · exact hb w hw
theorem short_nil : Short [] := fun w hw => by cases hw
theorem short_name {s : Str} (h : nameB s = true) : Word s.b ∧ s.b.length ≤ 40 := ⟨nameB_word h, nameB_len h⟩
theorem short_lit {w : List UInt8} (h : (!w.isEmpty && !w.contains 32 && !w.contains 34 && !w.contains 10) = true) (hl : w.length ≤ 40) : Word w ∧ w.length ≤ 40 := ⟨word_lit h, hl⟩
theorem short_opt {w : List UInt8} {v : Str} (hw : Word w ∧ w.length ≤ 40) (h : v = Str.nil ∨ nameB v = true) : Short (optW w v) := by
  unfold optW
  split
  · exact short_nil
  · rename_i hn
    exact short_cons hw (short_cons (short_name (h.resolve_left hn)) short_nil)
theorem itoa_len9 {n : Int} (h : n.natAbs < 10000000) : (Go.Lib.itoa n).length ≤ 8 := itoa_lenA (k := 7) (by decide) (by omega)
theorem short_nums {l : List Int} (h : ∀ v ∈ l, v.natAbs < 10000000) : Short (numsW l) := fun w hw => by
  obtain ⟨n, hn, rfl⟩ := List.mem_map.1 hw
  have := itoa_len9 (h n hn)
  exact ⟨itoa_word n, by omega⟩
theorem NodeT.words {n : DNode} (h : NodeT n) : Short (nodeW n) := by
  have hk := kind_word h.k1 h.k2
  refine short_cons ⟨hk.1, by omega⟩ (short_cons (short_name h.id) (short_app ?_ (short_app (short_opt (short_lit (by decide) (by decide)) h.cls) (short_app (short_opt (short_lit (by decide) (by decide)) h.par) ?_))))
  · unfold placeW
    split
    · exact short_nil
    · exact short_nums h.box
  · unfold lockW
    cases n.Locked
    · exact short_nil
    · exact short_cons (short_lit (by decide) (by decide)) short_nil
theorem EndT.words {y : DEnd} (h : EndT y) : Short (endW y) := by
  have hk := side_word h.s1 h.s2
  have := itoa_len9 h.at_
  exact short_cons (short_name h.node) (short_cons ⟨hk.1, by omega⟩ (short_cons ⟨itoa_word _, by omega⟩ short_nil))
theorem EdgeT.words {x : DEdge} (h : EdgeT x) : Short (edgeW x) := by
  refine short_cons (short_lit (by decide) (by decide)) (short_cons (short_name h.id) (short_app h.from_.words (short_app h.to_.words (short_app ?_ (short_opt (short_lit (by decide) (by decide)) h.cls)))))
  unfold bendW
  split
  · exact short_nil
  · exact short_cons (short_lit (by decide) (by decide)) (short_nums h.bends)
theorem RuleT.words {r : Rule} (h : RuleT r) : Short (ruleW r) := by
  refine short_cons (short_lit (by decide) (by decide)) (short_cons ?_ (short_cons (short_name h.prop) (short_cons (value_word h.val) short_nil)))
  unfold starB
  split
  · exact short_lit (by decide) (by decide)
  · rename_i hn
    exact short_name (h.cls.resolve_left hn)
theorem Short.word {ws : List (List UInt8)} (h : Short ws) : ∀ w ∈ ws, Word w := fun w hw => (h w hw).1
theorem Short.join {ws : List (List UInt8)} (h : Short ws) : (joinC 32 ws).length ≤ ws.length * 41 := joinC_len 32 ws 40 fun w hw => (h w hw).2
theorem coords_len : ∀ (l : List Point), (coords l).length = 2 * l.length
  | [] => rfl
  | p :: l => by
    have := coords_len l
    unfold coords at this ⊢
    rw [List.flatMap_cons, List.length_append, this, List.length_cons, List.length_cons, List.length_cons, List.length_nil]; omega
theorem opt_len (w : List UInt8) (v : Str) : (optW w v).length ≤ 2 := by unfold optW; split <;> simp
theorem place_len (n : DNode) : (placeW n).length ≤ 4 := by unfold placeW numsW boxN; split <;> simp
theorem lock_len (b : Bool) : (lockW b).length ≤ 1 := by unfold lockW; cases b <;> simp
theorem bend_len (l : List Point) : (bendW l).length ≤ 2 * l.length + 1 := by
  unfold bendW numsW
  split
  · simp
  · rw [List.length_cons, List.length_map, coords_len]; omega
theorem nodeW_len (n : DNode) : (nodeW n).length ≤ 11 := by
  have h1 := place_len n
  have h2 := opt_len wClass n.Class
  have h3 := opt_len wIn n.Parent
  have h4 := lock_len n.Locked
  unfold nodeW
  simp only [List.length_cons, List.length_append]; omega
theorem edgeW_len {x : DEdge} (h : x.Bends.length ≤ 50) : (edgeW x).length ≤ 111 := by
  have h1 := bend_len x.Bends
  have h2 := opt_len wClass x.Class
  unfold edgeW endW
  simp only [List.length_cons, List.length_append, List.length_nil]; omega
theorem nodeB_len {n : DNode} (h : NodeT n) : (nodeB n).length ≤ 7000 := by
  have h1 := h.words.join
  have h2 := nodeW_len n
  have h3 := qB_len h.text
  unfold nodeB lineW
  rw [List.length_append]; omega
theorem edgeB_len {x : DEdge} (h : EdgeT x) : (edgeB x).length ≤ 7000 := by
  have h1 := h.words.join
  have h2 := edgeW_len h.few
  have h3 := qB_len h.text
  unfold edgeB lineW
  rw [List.length_append]; omega
theorem ruleB_len {r : Rule} (h : RuleT r) : (ruleB r).length ≤ 7000 := by
  have h1 := h.words.join
  have h2 : (ruleW r).length = 4 := rfl
  unfold ruleB; omega
theorem map_len {α : Type} {f : α → List UInt8} {l : List α} (h : ∀ x ∈ l, (f x).length ≤ 7000) : (textL (l.map f)).length ≤ l.length * 7001 := by
  have := textL_len (n := 7000) (l := l.map f) (fun y hy => by
    obtain ⟨x, hx, rfl⟩ := List.mem_map.1 hy
    exact h x hx)
  simpa using this
theorem docB_len {d : Doc} {l : List Rule} (h : DocT d l) : (docB d l).length ≤ 20000000 := by
  have h1 := map_len (f := ruleB) (l := l) (fun r hr => ruleB_len (h.rule r hr))
  have h2 := map_len (f := nodeB) (l := d.Nodes) (fun n hn => nodeB_len (h.node n hn))
  have h3 := map_len (f := edgeB) (l := d.Edges) (fun x hx => edgeB_len (h.edge x hx))
  have a := h.rl
  have b := h.nl
  have c := h.el
  unfold docB
  rw [List.length_append, List.length_append]; omega

/-! What Check lets through. -/

theorem clsErr_zero {s : Str} (h : clsErr s = 0) : s = Str.nil ∨ nameB s = true := by
  unfold clsErr at h
  split at h
  · assumption
  · cases h
theorem rulesErr_zero {l : List Rule} (h : rulesErr l = 0) : l.length ≤ 100 ∧ ∀ r ∈ l, RuleT r := by
  unfold rulesErr at h
  split at h
  · cases h
  · refine ⟨by omega, fun r hr => ?_⟩
    have h1 := firstErr_zero.1 h (ruleErr r) (List.mem_map.2 ⟨r, hr, rfl⟩)
    unfold ruleErr at h1
    split at h1
    · cases h1
    · rename_i hc
      split at h1
      · rename_i hv
        simp only [Bool.or_eq_true, Bool.and_eq_true, Bool.not_eq_true', not_or, not_and, decide_eq_false_iff_not, Bool.not_eq_false] at hc
        refine ⟨?_, hc.2, hv⟩
        by_cases hn : r.Class = Str.nil
        · exact .inl hn
        · exact .inr (hc.1 hn)
      · cases h1
theorem Right.nodeT {d : Doc} (h : Right d) {n : DNode} (hn : n ∈ d.Nodes) : NodeT n := by
  obtain ⟨i, hi, rfl⟩ := List.getElem_of_mem hn
  have h0 := h.node i hi
  obtain ⟨a1, a2, a3, a4⟩ := nodeErr_zero h0
  have hz := firstErr_zero.1 h0
  have h4 := hz (if d.Nodes[i].Kind = 6 then (if d.Nodes[i].Box = zeroB then 0 else 2) else boxErr d.Nodes[i].Box) (by simp)
  have h5 := hz (textErr d.Nodes[i].Text) (by simp)
  have h6 := hz (clsErr d.Nodes[i].Class) (by simp)
  have hzero : d.Nodes[i].Kind = 6 → d.Nodes[i].Box = zeroB := fun hk => by
    rw [if_pos hk] at h4
    split at h4
    · assumption
    · cases h4
  refine ⟨a1, a3.1, a3.2, hzero, fun v hv => ?_, clsErr_zero h6, ?_, (textErr_zero.1 h5).1⟩
  · by_cases hk : d.Nodes[i].Kind = 6
    · rw [hzero hk] at hv
      unfold boxN zeroB at hv
      simp only [List.mem_cons, List.mem_nil_iff, or_false, or_self] at hv
      subst hv; decide
    · have hb := a4 hk
      unfold okB at hb
      unfold boxN at hv
      simp only [List.mem_cons, List.mem_nil_iff, or_false] at hv
      omega
  · by_cases hp : d.Nodes[i].Parent = Str.nil
    · exact .inl hp
    · obtain ⟨g, hg, hid, _⟩ := h.tree _ (List.getElem_mem hi) hp
      obtain ⟨j, hj, rfl⟩ := List.getElem_of_mem hg
      rw [← hid]
      exact .inr (nodeErr_zero (h.node j hj)).1
theorem Right.endT {d : Doc} (h : Right d) {y : DEnd} (he : endErr d.Nodes y = 0) : EndT y := by
  unfold endErr at he
  split at he
  · cases he
  · rename_i hn
    split at he
    · cases he
    · split at he
      · rename_i hs
        obtain ⟨h1, h2⟩ := nodeAt_in hn
        have hm := gx_mem h1
        refine ⟨?_, hs.1.1, hs.1.2, by omega⟩
        rw [← h2]; exact (h.nodeT hm).id
      · cases he
theorem Right.edgeT {d : Doc} (h : Right d) {x : DEdge} (hx : x ∈ d.Edges) : EdgeT x := by
  obtain ⟨i, hi, rfl⟩ := List.getElem_of_mem hx
  have hz := firstErr_zero.1 (h.edge i hi)
  have h1 := hz (if nameB d.Edges[i].Id = true then 0 else 5) (by simp)
  have h3 := hz (endErr d.Nodes d.Edges[i].From) (by simp)
  have h4 := hz (endErr d.Nodes d.Edges[i].To) (by simp)
  have h5 := hz (if 50 < d.Edges[i].Bends.length then 4 else 0) (by simp)
  have h6 := hz (ptsErr d.Edges[i].Bends) (by simp)
  have h7 := hz (textErr d.Edges[i].Text) (by simp)
  have h8 := hz (clsErr d.Edges[i].Class) (by simp)
  refine ⟨?_, h.endT h3, h.endT h4, ?_, fun v hv => ?_, clsErr_zero h8, (textErr_zero.1 h7).1⟩
  · split at h1
    · assumption
    · cases h1
  · split at h5
    · cases h5
    · omega
  · have hp := (ptsErr_zero.1 h6).2
    obtain ⟨p, hp1, hp2⟩ := List.mem_flatMap.1 hv
    have := hp p hp1
    unfold okP at this
    simp only [List.mem_cons, List.mem_nil_iff, or_false] at hp2
    omega
theorem docT_of {d : Doc} {l : List Rule} (h : Right d) (hl : rulesErr l = 0) : DocT d l :=
  ⟨(rulesErr_zero hl).1, h.nl, h.el, (rulesErr_zero hl).2, fun _ hn => h.nodeT hn, fun _ hx => h.edgeT hx⟩
theorem Contains_string (w : List Str) (v : Str) (hw : (w.length : Int) ≤ 9223372036854775807) : slices_Contains_string w v = some (decide (v ∈ w)) := by
  unfold slices_Contains_string slices_Index_string
  obtain ⟨e, h1, h2⟩ := rforE_inv (n := (w.length : Int)) (step := slices_Index_string_L1 w v) (fin := fun s => Res.nx s) (s0 := ()) (fun i _ => ∀ j : Nat, j < i → ∀ hj : j < w.length, v ≠ w[j])
    (fun e => (e = Res.nx () ∧ v ∉ w) ∨ ∃ k : Int, 0 ≤ k ∧ e = Res.ab k ∧ v ∈ w) hw (fun j hj => by omega) (fun i s hi hI => by
      have hi' : i < w.length := by omega
      unfold slices_Index_string_L1
      rw [need_of ⟨by omega, by omega⟩, gx_nat hi']
      by_cases e : v = w[i]
      · exact .inr ⟨_, by rw [decide_eq_true e, cond_true], .inr ⟨(i : Int), by omega, rfl, e ▸ List.getElem_mem hi'⟩⟩
      · refine .inl ⟨(), by rw [decide_eq_false e, cond_false], fun j hj hjl => ?_⟩
        by_cases hji : j = i
        · subst hji; exact e
        · exact hI j (by omega) hjl)
    (fun s hI => .inl ⟨rfl, fun hm => by
      obtain ⟨j, hj, he⟩ := List.getElem_of_mem hm
      exact hI j (by omega) hj he.symm⟩)
  rw [h1]
  rcases h2 with ⟨rfl, hn⟩ | ⟨k, h0, rfl, hm⟩
  · rw [bindR_nx, Option.bind_some, decide_eq_false hn]; rfl
  · rw [bindR_ab, Option.bind_some, decide_eq_true hm, decide_eq_true h0]
theorem kget (s : Str) (i : Nat) (hi : i < s.b.length) : gx s.b (i : Int) = s.b[i] := gx_nat hi
theorem u8n (x : UInt8) (k : Nat) (hk : k < 256) : decide ((⟨(x.toNat : Int)⟩ : KI .u8).n = (⟨(k : Int)⟩ : KI .u8).n) = decide (x = UInt8.ofNat k) := by
  rw [decide_eq_decide]
  show ((x.toNat : Int) = (k : Int)) ↔ _
  constructor
  · intro h
    apply UInt8.toNat_inj.1
    rw [UInt8.toNat_ofNat']; omega
  · intro h; rw [h, UInt8.toNat_ofNat']; omega
theorem head0 : ∀ (l : List UInt8) (h : 0 < l.length), l[0] = l.headD 0
  | a :: l, _ => rfl
theorem index3 (c : UInt8) : strings_IndexByte (⟨[34, 92, 110]⟩ : Str) (⟨(c.toNat : Int)⟩ : KI .u8) = some (if c = 34 then 0 else if c = 92 then 1 else if c = 110 then 2 else -1) := by
  unfold strings_IndexByte
  rw [need_of (by decide)]
  congr 1
  unfold indexByteS
  have e : ((⟨(c.toNat : Int)⟩ : KI .u8).n.toNat.toUInt8) = c := by
    apply UInt8.toNat_inj.1
    simp
  rw [e]
  simp only [Go.Lib.indexByte, beq_iff_eq]
  by_cases h1 : c = 34
  · subst h1; rfl
  · by_cases h2 : c = 92
    · subst h2; rfl
    · by_cases h3 : c = 110
      · subst h3; rfl
      · rw [if_neg (Ne.symm h1), if_neg (Ne.symm h2), if_neg (Ne.symm h3), if_neg h1, if_neg h2, if_neg h3]; rfl
/-- What is read from a place on. -/
def unqR (s : Str) (out : List (KI .u8)) (i : Nat) : Res Unit (Str × Bool) := match unqF (s.b.drop i) with
  | none => if (s.b.drop i).length = 0 then .nx () else .ab (Str.nil, false)
  | some (v, r) => .ab (⟨(strB out).b ++ v⟩, r.isEmpty && s.b.headD 0 == 34)
theorem strB_append (a b : List (KI .u8)) : (strB (a ++ b)).b = (strB a).b ++ (strB b).b := by simp [strB]
theorem strB_one (c : UInt8) : (strB [(⟨(c.toNat : Int)⟩ : KI .u8)]).b = [c] := by
  simp only [strB, List.map_cons, List.map_nil]
  congr 1
  simp
theorem Unquoted_loop (s : Str) (hs : s.b.length ≤ 1000000000) : ∀ (n i : Nat) (out : List (KI .u8)), s.b.length - i ≤ n → 1 ≤ i → i ≤ s.b.length → out.length ≤ i →
    ∃ r, loop (edit_Unquoted_L1 s) (out, (i : Int)) = some r ∧ (match unqF (s.b.drop i) with
      | none => r = .nx () ∨ r = .ab (Str.nil, false)
      | some (v, t) => r = .ab (⟨(strB out).b ++ v⟩, t.isEmpty && s.b.headD 0 == 34)) := by
  intro n
  induction n with
  | zero =>
    intro i out hn h1 hi ho
    obtain rfl : i = s.b.length := by omega
    refine ⟨.nx (), loop_done (by
      unfold edit_Unquoted_L1
      rw [decide_eq_false (by omega), cond_false]), ?_⟩
    rw [List.drop_length, unqF_nil]; exact .inl rfl
  | succ n ih =>
    intro i out hn h1 hi ho
    rcases Nat.eq_or_lt_of_le hi with rfl | hlt
    · refine ⟨.nx (), loop_done (by
        unfold edit_Unquoted_L1
        rw [decide_eq_false (by omega), cond_false]), ?_⟩
      rw [List.drop_length, unqF_nil]; exact .inl rfl
    · have hd : s.b.drop i = s.b[i] :: s.b.drop (i + 1) := List.drop_eq_getElem_cons hlt
      have e0 : edit_Unquoted_L1 s (out, (i : Int)) = bindR (σ := (Int × (KI .u8))) (ρ := (Step ((List (KI .u8)) × Int) (Res Unit (Str × Bool)))) (
          if s.b[i] = 34 then some (Res.ab (Step.done (Res.ab (strB out, (s.b.drop (i + 1)).isEmpty && s.b.headD 0 == 34))))
          else if s.b[i] = 10 then some (Res.ab (Step.done (Res.ab (Str.nil, false))))
          else if s.b[i] = 92 then (match s.b.drop (i + 1) with
            | [] => some (Res.ab (Step.done (Res.ab (Str.nil, false))))
            | c :: _ => if c = 34 then some (Res.nx (((i + 1 : Nat) : Int), (⟨((34 : UInt8).toNat : Int)⟩ : KI .u8))) else if c = 92 then some (Res.nx (((i + 1 : Nat) : Int), (⟨((92 : UInt8).toNat : Int)⟩ : KI .u8))) else if c = 110 then some (Res.nx (((i + 1 : Nat) : Int), (⟨((10 : UInt8).toNat : Int)⟩ : KI .u8))) else some (Res.ab (Step.done (Res.ab (Str.nil, false)))))
          else some (Res.nx ((i : Int), (⟨(s.b[i].toNat : Int)⟩ : KI .u8)))) (fun j => need (room (out.length + [j.2].length)) <| bnd (out ++ [j.2]) fun b1 => bnd (W (j.1 + 1)) fun i2 => some (Step.again (b1, i2))) := by
        unfold edit_Unquoted_L1
        simp only
        rw [decide_eq_true (by omega), cond_true, need_of ⟨by omega, by omega⟩, bnd_eq, kget s i hlt]
        congr 1
        have u34 : decide ((⟨(s.b[i].toNat : Int)⟩ : KI .u8).n = (⟨34⟩ : KI .u8).n) = decide (s.b[i] = 34) := u8n s.b[i] 34 (by decide)
        have u10 : decide ((⟨(s.b[i].toNat : Int)⟩ : KI .u8).n = (⟨10⟩ : KI .u8).n) = decide (s.b[i] = 10) := u8n s.b[i] 10 (by decide)
        have u92 : decide ((⟨(s.b[i].toNat : Int)⟩ : KI .u8).n = (⟨92⟩ : KI .u8).n) = decide (s.b[i] = 92) := u8n s.b[i] 92 (by decide)
        by_cases c1 : s.b[i] = 34
        · rw [if_pos c1]
          rw [show decide ((⟨(s.b[i].toNat : Int)⟩ : KI .u8).n = (⟨34⟩ : KI .u8).n) = true from u34.trans (decide_eq_true c1), cond_true]
          have h0 : 0 < s.b.length := by omega
          rw [need_of (fun _ => ⟨by omega, by omega⟩)]
          have g0 : gx s.b 0 = s.b.headD 0 := by
            have := kget s 0 h0
            rw [show ((0 : Nat) : Int) = 0 from rfl] at this
            rw [this]
            exact head0 s.b h0
          have hw : W ((s.b.length : Int) - 1) = (s.b.length : Int) - 1 := Wk (by omega) (by omega)
          rw [g0, hw]
          have e1 : decide ((i : Int) = (s.b.length : Int) - 1) = (s.b.drop (i + 1)).isEmpty := by
            rw [Bool.eq_iff_iff, decide_eq_true_eq, List.isEmpty_iff, List.drop_eq_nil_iff]; omega
          have e2 := u8n (s.b.headD 0) 34 (by decide)
          rw [e1]
          rw [show decide ((⟨((s.b.headD 0).toNat : Int)⟩ : KI .u8).n = (⟨34⟩ : KI .u8).n) = (s.b.headD 0 == 34) from e2.trans (by rw [Bool.eq_iff_iff, decide_eq_true_eq, beq_iff_eq]; rfl)]
        · rw [if_neg c1]
          rw [show decide ((⟨(s.b[i].toNat : Int)⟩ : KI .u8).n = (⟨34⟩ : KI .u8).n) = false from u34.trans (decide_eq_false c1), cond_false]
          by_cases c2 : s.b[i] = 10
          · rw [if_pos c2, show decide ((⟨(s.b[i].toNat : Int)⟩ : KI .u8).n = (⟨10⟩ : KI .u8).n) = true from u10.trans (decide_eq_true c2), cond_true]
          · rw [if_neg c2, show decide ((⟨(s.b[i].toNat : Int)⟩ : KI .u8).n = (⟨10⟩ : KI .u8).n) = false from u10.trans (decide_eq_false c2), cond_false]
            by_cases c3 : s.b[i] = 92
            · rw [if_pos c3, show decide ((⟨(s.b[i].toNat : Int)⟩ : KI .u8).n = (⟨92⟩ : KI .u8).n) = true from u92.trans (decide_eq_true c3), cond_true]
              have hw : W ((i : Int) + 1) = ((i + 1 : Nat) : Int) := by rw [Wk (by omega) (by omega)]; omega
              rw [hw, bnd_eq]
              by_cases hl : i + 1 = s.b.length
              · rw [decide_eq_true (by omega), cond_true, List.drop_eq_nil_of_le (by omega)]
              · have hl2 : i + 1 < s.b.length := by omega
                rw [decide_eq_false (by omega), cond_false, need_of ⟨by omega, by omega⟩, kget s (i + 1) hl2, index3, Option.bind_some, List.drop_eq_getElem_cons hl2]
                simp only
                by_cases d1 : s.b[i + 1] = 34
                · rw [if_pos d1, if_pos d1, decide_eq_false (by decide), cond_false, need_of ⟨by decide, by decide⟩, bnd_eq]; rfl
                · rw [if_neg d1, if_neg d1]
                  by_cases d2 : s.b[i + 1] = 92
                  · rw [if_pos d2, if_pos d2, decide_eq_false (by decide), cond_false, need_of ⟨by decide, by decide⟩, bnd_eq]; rfl
                  · rw [if_neg d2, if_neg d2]
                    by_cases d3 : s.b[i + 1] = 110
                    · rw [if_pos d3, if_pos d3, decide_eq_false (by decide), cond_false, need_of ⟨by decide, by decide⟩, bnd_eq]; rfl
                    · rw [if_neg d3, if_neg d3]; rfl
            · rw [if_neg c3, show decide ((⟨(s.b[i].toNat : Int)⟩ : KI .u8).n = (⟨92⟩ : KI .u8).n) = false from u92.trans (decide_eq_false c3), cond_false]
      have go : ∀ (c : UInt8) (j : Nat), j + 1 ≤ s.b.length → (need (room (out.length + [(⟨(c.toNat : Int)⟩ : KI .u8)].length)) <| bnd (out ++ [(⟨(c.toNat : Int)⟩ : KI .u8)]) fun b1 => bnd (W ((j : Int) + 1)) fun i2 => (some (Step.again (b1, i2)) : Option (Step ((List (KI .u8)) × Int) (Res Unit (Str × Bool))))) = some (Step.again (out ++ [(⟨(c.toNat : Int)⟩ : KI .u8)], ((j + 1 : Nat) : Int))) := by
        intro c j hj
        rw [need_of (by rw [room_iff, List.length_singleton]; omega), bnd_eq, bnd_eq, Wk (by omega) (by omega)]
        rfl
      rw [hd, unqF_cons]
      by_cases c1 : s.b[i] = 34
      · rw [if_pos c1] at e0 ⊢
        exact ⟨_, loop_done e0, by simp⟩
      · rw [if_neg c1] at e0 ⊢
        by_cases c2 : s.b[i] = 10
        · rw [if_pos c2] at e0 ⊢
          exact ⟨_, loop_done e0, .inr rfl⟩
        · rw [if_neg c2] at e0 ⊢
          by_cases c3 : s.b[i] = 92
          · rw [if_pos c3] at e0 ⊢
            have step : ∀ (c : UInt8) (r : List UInt8), i + 2 ≤ s.b.length → s.b.drop (i + 2) = r → edit_Unquoted_L1 s (out, (i : Int)) = some (Step.again (out ++ [(⟨(c.toNat : Int)⟩ : KI .u8)], ((i + 1 + 1 : Nat) : Int))) →
                ∃ x, loop (edit_Unquoted_L1 s) (out, (i : Int)) = some x ∧ (match (unqF r).map (fun y => (c :: y.1, y.2)) with
                  | none => x = .nx () ∨ x = .ab (Str.nil, false)
                  | some (v, t) => x = .ab (⟨(strB out).b ++ v⟩, t.isEmpty && s.b.headD 0 == 34)) := by
              intro c r hlen hr he
              obtain ⟨x, h1, h2⟩ := ih (i + 2) (out ++ [(⟨(c.toNat : Int)⟩ : KI .u8)]) (by omega) (by omega) hlen (by rw [List.length_append, List.length_singleton]; omega)
              refine ⟨x, (loop_again he).trans h1, ?_⟩
              rw [hr] at h2
              cases hu : unqF r with
              | none => rw [hu] at h2; exact h2
              | some y =>
                obtain ⟨v, t⟩ := y
                rw [hu] at h2
                simp only at h2
                rw [strB_append, strB_one] at h2
                simpa using h2
            cases hm : s.b.drop (i + 1) with
            | nil =>
              rw [hm] at e0
              exact ⟨_, loop_done e0, .inr rfl⟩
            | cons c r =>
              rw [hm] at e0
              simp only at e0 ⊢
              have hlen : i + 2 ≤ s.b.length := by
                have := congrArg List.length hm
                rw [List.length_drop, List.length_cons] at this; omega
              have hr : s.b.drop (i + 2) = r := by
                have := congrArg List.tail hm
                rw [List.tail_drop] at this
                exact this
              by_cases d1 : c = 34
              · rw [if_pos d1] at e0 ⊢
                exact step 34 r hlen hr (e0.trans (go 34 (i + 1) hlen))
              · rw [if_neg d1] at e0 ⊢
                by_cases d2 : c = 92
                · rw [if_pos d2] at e0 ⊢
                  exact step 92 r hlen hr (e0.trans (go 92 (i + 1) hlen))
                · rw [if_neg d2] at e0 ⊢
                  by_cases d3 : c = 110
                  · rw [if_pos d3] at e0 ⊢
                    exact step 10 r hlen hr (e0.trans (go 10 (i + 1) hlen))
                  · rw [if_neg d3] at e0 ⊢
                    exact ⟨_, loop_done e0, .inr rfl⟩
          · rw [if_neg c3] at e0 ⊢
            obtain ⟨x, h1, h2⟩ := ih (i + 1) (out ++ [(⟨(s.b[i].toNat : Int)⟩ : KI .u8)]) (by omega) (by omega) (by omega) (by rw [List.length_append, List.length_singleton]; omega)
            refine ⟨x, (loop_again (e0.trans (go s.b[i] i hlt))).trans h1, ?_⟩
            cases hu : unqF (s.b.drop (i + 1)) with
            | none => rw [hu] at h2; exact h2
            | some y =>
              obtain ⟨v, t⟩ := y
              rw [hu] at h2
              simp only at h2
              rw [strB_append, strB_one] at h2
              simpa using h2
theorem Unquoted_eq (s : Str) (hs : s.b.length ≤ 1000000000) : edit_Unquoted s = some (unquoteS s) := by
  unfold edit_Unquoted unquoteS
  cases hb : s.b with
  | nil =>
    have e0 : edit_Unquoted_L1 s (([] : List (KI .u8)), 1) = some (Step.done (Res.nx ())) := by
      unfold edit_Unquoted_L1
      rw [decide_eq_false (by rw [hb]; simp), cond_false]
    rw [loop_done e0]; rfl
  | cons q l =>
    obtain ⟨x, h1, h2⟩ := Unquoted_loop s hs s.b.length 1 [] (by omega) (Nat.le_refl 1) (by rw [hb]; simp) (by simp)
    rw [show ((1 : Nat) : Int) = 1 from rfl] at h1
    rw [h1]
    rw [hb, List.drop_succ_cons, List.drop_zero] at h2
    simp only
    cases hu : unqF l with
    | none =>
      rw [hu] at h2
      rcases h2 with rfl | rfl <;> rfl
    | some y =>
      obtain ⟨v, t⟩ := y
      rw [hu] at h2
      simp only at h2
      rw [h2]; rfl
theorem Atoi_in (s : Str) : InI (atoiI s).1 := by
  unfold atoiI
  rcases h : Go.Lib.atoiAll s.b with v | _ | _
  · obtain ⟨b0, b1⟩ := Go.Lib.atoiAll_bounds h; exact ⟨by omega, by omega⟩
  · show InI 0; decide
  · show InI (Go.Lib.atoiSat s.b); unfold Go.Lib.atoiSat; split <;> decide
/-- A text without a sign ahead. -/
def digitsS (s : Str) : Str := match s.b with
  | [] => s
  | c :: l => if c = 45 then ⟨l⟩ else s
theorem TrimPrefix_eq (s : Str) : strings_TrimPrefix s ⟨[45]⟩ = some (digitsS s) := by
  unfold strings_TrimPrefix stringslite_TrimPrefix stringslite_HasPrefix digitsS
  obtain ⟨b⟩ := s
  cases b with
  | nil => rw [need_of (fun h => absurd (of_decide_eq_true h) (by decide))]; rfl
  | cons c l =>
    have h1 : decide ((([45] : List UInt8).length : Int) ≤ (((c :: l) : List UInt8).length : Int)) = true := decide_eq_true (by simp only [List.length_cons, List.length_nil]; omega)
    have hs : segR (c :: l : List UInt8).length 0 (([45] : List UInt8).length : Int) := ⟨by omega, by simp, by simp only [List.length_cons, List.length_nil]; omega⟩
    have e1 : seg (c :: l : List UInt8) 0 (([45] : List UInt8).length : Int) = [c] := rfl
    rw [need_of (fun _ => hs)]
    simp only [Option.bind_some]
    rw [h1, e1, Bool.true_and]
    by_cases hc : c = 45
    · subst hc
      have hs2 : segR (45 :: l : List UInt8).length (([45] : List UInt8).length : Int) ((45 :: l : List UInt8).length : Int) := ⟨by omega, by simp only [List.length_cons, List.length_nil]; omega, by omega⟩
      have e2 : seg (45 :: l : List UInt8) (([45] : List UInt8).length : Int) ((45 :: l : List UInt8).length : Int) = l := by
        unfold seg
        simp
      rw [decide_eq_true rfl, cond_true, need_of hs2, e2, if_pos rfl]; rfl
    · have : ¬ (⟨[c]⟩ : Str) = ⟨[45]⟩ := fun e => by
        injection e with e
        injection e with e
        exact hc e
      rw [decide_eq_false this, cond_false, if_neg hc]; rfl
theorem Number_any (s : Str) (hs : s.b.length ≤ 4294967281) : ∃ n b, edit_Number s = some (n, b) ∧ (b = true → InI n ∧ Go.Lib.itoa n = s.b) := by
  unfold edit_Number
  have ha : strconv_Atoi s = some (atoiI s) := by unfold strconv_Atoi; exact need_of hs
  rw [TrimPrefix_eq, Option.bind_some, ha, Option.bind_some]
  have hin := Atoi_in s
  cases hc : ((!(atoiI s).2.is) && (decide (((digitsS s).b.length : Int) ≤ 7))) with
  | false => exact ⟨_, _, rfl, fun h => by simp at h⟩
  | true =>
    rw [gd_true, Itoa_eq hin, Option.bind_some]
    refine ⟨_, _, rfl, fun h => ?_⟩
    simp only [Bool.true_and, decide_eq_true_eq] at h
    exact ⟨hin, congrArg Str.b h⟩
theorem digits_itoa {n : Int} (h : n.natAbs < 10000000) : (digitsS (itoaS n)).b.length ≤ 7 := by
  unfold digitsS itoaS Go.Lib.itoa
  by_cases hn : n < 0
  · rw [if_pos hn]
    show (Go.Lib.decDigits n.natAbs).length ≤ 7
    rw [Go.Lib.decDigits_length]
    exact nDigits_le (by decide) (by omega)
  · rw [if_neg hn]
    have hd : (Go.Lib.decDigits n.toNat).length ≤ 7 := by
      rw [Go.Lib.decDigits_length]
      exact nDigits_le (by decide) (by omega)
    cases hb : Go.Lib.decDigits n.toNat with
    | nil => simp
    | cons c l =>
      rw [hb] at hd
      simp only
      split
      · simp only [List.length_cons] at hd; show l.length ≤ 7; omega
      · exact hd
theorem Number_of {n : Int} (h : n.natAbs < 10000000) : edit_Number (itoaS n) = some (n, true) := by
  have hl := itoa_len9 h
  unfold edit_Number
  have ha : strconv_Atoi (itoaS n) = some (n, ⟨false⟩) := by
    unfold strconv_Atoi
    rw [need_of (by show (Go.Lib.itoa n).length ≤ _; omega), atoiI_itoa (by omega)]
  rw [TrimPrefix_eq, Option.bind_some, ha, Option.bind_some]
  have hd := digits_itoa h
  simp only [decide_eq_true (show ((digitsS (itoaS n)).b.length : Int) ≤ 7 by omega), Bool.not_false, Bool.and_self, gd_true]
  rw [Itoa_eq (by unfold InI; omega), Option.bind_some]
  simp
theorem ReadNumbers_any (w : List Str) (hw : ∀ s ∈ w, s.b.length ≤ 4294967281) (hl : w.length ≤ 100000000) : ∃ ns b, edit_ReadNumbers w = some (ns, b) ∧ (b = true → numsW ns = w.map Str.b ∧ ∀ n ∈ ns, InI n) := by
  unfold edit_ReadNumbers
  obtain ⟨e, h1, h2⟩ := rforE_inv (n := (w.length : Int)) (step := edit_ReadNumbers_L1 w) (fin := fun s => Res.nx s) (s0 := ([] : List Int)) (fun i ns => numsW ns = (w.take i).map Str.b ∧ ns.length = i ∧ ∀ n ∈ ns, InI n)
    (fun e => (∃ ns, e = Res.nx ns ∧ numsW ns = w.map Str.b ∧ ∀ n ∈ ns, InI n) ∨ e = Res.ab ([], false)) (by omega) ⟨rfl, rfl, fun n hn => by cases hn⟩ (fun i s hi hI => by
      have hi' : i < w.length := by omega
      obtain ⟨n, b, e1, e2⟩ := Number_any w[i] (hw _ (List.getElem_mem hi'))
      unfold edit_ReadNumbers_L1
      rw [need_of ⟨by omega, by omega⟩, gx_nat hi', e1, Option.bind_some]
      cases hb : b with
      | false => exact .inr ⟨_, rfl, .inr rfl⟩
      | true =>
        obtain ⟨q1, q2⟩ := e2 hb
        refine .inl ⟨s ++ [n], ?_, ?_, ?_, ?_⟩
        · simp only [Bool.not_true, cond_false]
          rw [need_of (by rw [room_iff, List.length_singleton]; omega)]
        · rw [List.take_succ_eq_append_getElem hi']
          unfold numsW at hI ⊢
          rw [List.map_append, List.map_append, hI.1, List.map_singleton, List.map_singleton, q2]
        · rw [List.length_append, List.length_singleton, hI.2.1]
        · intro m hm
          rcases List.mem_append.1 hm with hm | hm
          · exact hI.2.2 m hm
          · rw [List.mem_singleton.1 hm]; exact q1)
    (fun s hI => .inl ⟨s, rfl, by simpa using hI.1, hI.2.2⟩)
  rw [h1]
  rcases h2 with ⟨ns, rfl, q1, q2⟩ | rfl
  · exact ⟨ns, true, rfl, fun _ => ⟨q1, q2⟩⟩
  · exact ⟨_, _, rfl, fun h => by cases h⟩
theorem ReadNumbers_of {ns : List Int} (h : ∀ n ∈ ns, n.natAbs < 10000000) (hl : ns.length ≤ 100000000) : edit_ReadNumbers (ns.map itoaS) = some (ns, true) := by
  unfold edit_ReadNumbers
  obtain ⟨e, h1, h2⟩ := rforE_inv (n := ((ns.map itoaS).length : Int)) (step := edit_ReadNumbers_L1 (ns.map itoaS)) (fin := fun s => Res.nx s) (s0 := ([] : List Int)) (fun i s => s = ns.take i)
    (fun e => e = Res.nx ns) (by rw [List.length_map]; omega) (by simp) (fun i s hi hI => by
      have hi' : i < (ns.map itoaS).length := by omega
      have hi2 : i < ns.length := by rw [List.length_map] at hi'; exact hi'
      unfold edit_ReadNumbers_L1
      rw [need_of ⟨by omega, by omega⟩, gx_nat hi', List.getElem_map, Number_of (h _ (List.getElem_mem hi2)), Option.bind_some]
      refine .inl ⟨s ++ [ns[i]], ?_, ?_⟩
      · simp only [Bool.not_true, cond_false]
        rw [need_of (by rw [room_iff, List.length_singleton, hI, List.length_take]; omega)]
      · rw [hI, List.take_succ_eq_append_getElem hi2])
    (fun s hI => by rw [hI]; simp)
  rw [h1, h2]; rfl
theorem coords_cons (p : Point) (l : List Point) : coords (p :: l) = p.X :: p.Y :: coords l := rfl
theorem coords_snoc (l : List Point) (p : Point) : coords (l ++ [p]) = coords l ++ [p.X, p.Y] := by
  unfold coords; rw [List.flatMap_append]; rfl
theorem Points_loop (l : List Int) (hl : l.length ≤ 100000000) : ∀ (k : Nat) (a : List Point) (i : Nat), l.length - i = 2 * k → i ≤ l.length → coords a = l.take i → i = 2 * a.length → ∃ r, loop (edit_Points_L1 l) (a, (i : Int)) = some r ∧ coords r = l
  | 0, a, i, h1, h2, h3, _ => by
    refine ⟨a, loop_done ?_, ?_⟩
    · unfold edit_Points_L1
      rw [decide_eq_false (by show ¬ ((i : Int) < (l.length : Int)); omega), cond_false]
    · rw [h3, List.take_of_length_le (by omega)]
  | k + 1, a, i, h1, h2, h3, h4 => by
    have hi : i < l.length := by omega
    have hi2 : i + 1 < l.length := by omega
    have hst : edit_Points_L1 l (a, (i : Int)) = some (Step.again (a ++ [(⟨l[i], l[i + 1]⟩ : Point)], ((i + 2 : Nat) : Int))) := by
      unfold edit_Points_L1
      simp only
      have hw : W ((i : Int) + 1) = ((i + 1 : Nat) : Int) := by rw [Wk (by omega) (by omega)]; omega
      have hw2 : W ((i : Int) + 2) = ((i + 2 : Nat) : Int) := by rw [Wk (by omega) (by omega)]; omega
      rw [decide_eq_true (by omega), cond_true, need_of ⟨by omega, by omega⟩, hw, need_of ⟨by omega, by omega⟩, need_of (by rw [room_iff, List.length_singleton]; omega), bnd_eq, bnd_eq, hw2, gx_nat hi, gx_nat hi2]
    obtain ⟨r, r1, r2⟩ := Points_loop l hl k (a ++ [(⟨l[i], l[i + 1]⟩ : Point)]) (i + 2) (by omega) (by omega) (by
      rw [coords_snoc, h3, show i + 2 = (i + 1) + 1 from rfl, List.take_succ_eq_append_getElem hi2, List.take_succ_eq_append_getElem hi, List.append_assoc]; rfl) (by rw [List.length_append, List.length_singleton]; omega)
    exact ⟨r, (loop_again hst).trans r1, r2⟩
theorem coords_inj : ∀ {a b : List Point}, coords a = coords b → a = b
  | [], [], _ => rfl
  | [], q :: b, h => by rw [coords_cons] at h; cases h
  | p :: a, [], h => by rw [coords_cons] at h; cases h
  | p :: a, q :: b, h => by
    rw [coords_cons, coords_cons] at h
    injection h with h1 h
    injection h with h2 h
    rw [coords_inj h]
    cases p; cases q
    simp only at h1 h2
    rw [h1, h2]
theorem Points_any (l : List Int) (hl : l.length ≤ 100000000) : ∃ r b, edit_Points l = some (r, b) ∧ (b = true → coords r = l ∧ r ≠ []) := by
  unfold edit_Points
  have ht : (l.length : Int).tmod 2 = ((l.length % 2 : Nat) : Int) := by rw [Int.tmod_eq_emod_of_nonneg (by omega)]; omega
  by_cases h : l.length % 2 = 1 ∨ l.length = 0
  · have : (decide (((l.length : Int).tmod 2) = 1) || decide ((l.length : Int) = 0)) = true := by
      rw [Bool.or_eq_true, decide_eq_true_eq, decide_eq_true_eq, ht]; omega
    rw [this, cond_true]
    exact ⟨_, _, rfl, fun h => by cases h⟩
  · have : (decide (((l.length : Int).tmod 2) = 1) || decide ((l.length : Int) = 0)) = false := by
      rw [Bool.or_eq_false_iff, decide_eq_false_iff_not, decide_eq_false_iff_not, ht]; omega
    obtain ⟨r, r1, r2⟩ := Points_loop l hl (l.length / 2) [] 0 (by omega) (by omega) rfl rfl
    rw [show ((0 : Nat) : Int) = 0 from rfl] at r1
    rw [this, cond_false, r1, Option.bind_some]
    refine ⟨_, _, rfl, fun _ => ⟨r2, fun e => ?_⟩⟩
    rw [e] at r2
    rw [← r2] at h
    exact h (.inr rfl)
theorem Points_of {p : List Point} (hp : p ≠ []) (hl : p.length ≤ 1000) : edit_Points (coords p) = some (p, true) := by
  have hc := coords_len p
  unfold edit_Points
  have hpl := List.length_pos_iff.2 hp
  have ht : ((coords p).length : Int).tmod 2 = (((coords p).length % 2 : Nat) : Int) := by rw [Int.tmod_eq_emod_of_nonneg (by omega)]; omega
  have : (decide ((((coords p).length : Int).tmod 2) = 1) || decide (((coords p).length : Int) = 0)) = false := by
    rw [Bool.or_eq_false_iff, decide_eq_false_iff_not, decide_eq_false_iff_not, ht]; omega
  obtain ⟨r, r1, r2⟩ := Points_loop (coords p) (by omega) p.length [] 0 (by omega) (by omega) rfl rfl
  rw [show ((0 : Nat) : Int) = 0 from rfl] at r1
  rw [this, cond_false, r1, Option.bind_some, coords_inj r2]
theorem Index_any (l : List Str) (v : Str) (hl : (l.length : Int) ≤ 9223372036854775807) : ∃ k, slices_Index_string l v = some k ∧ ((k = -1 ∧ v ∉ l) ∨ ∃ (i : Nat) (hi : i < l.length), k = (i : Int) ∧ l[i] = v) := by
  unfold slices_Index_string
  obtain ⟨e, h1, h2⟩ := rforE_inv (n := (l.length : Int)) (step := slices_Index_string_L1 l v) (fin := fun s => Res.nx s) (s0 := ()) (fun i _ => ∀ j : Nat, j < i → ∀ hj : j < l.length, v ≠ l[j])
    (fun e => (e = Res.nx () ∧ v ∉ l) ∨ ∃ (i : Nat) (hi : i < l.length), e = Res.ab (i : Int) ∧ l[i] = v) hl (fun j hj => by omega) (fun i s hi hI => by
      have hi' : i < l.length := by omega
      unfold slices_Index_string_L1
      rw [need_of ⟨by omega, by omega⟩, gx_nat hi']
      by_cases e : v = l[i]
      · exact .inr ⟨_, by rw [decide_eq_true e, cond_true], .inr ⟨i, hi', rfl, e.symm⟩⟩
      · refine .inl ⟨(), by rw [decide_eq_false e, cond_false], fun j hj hjl => ?_⟩
        by_cases hji : j = i
        · subst hji; exact e
        · exact hI j (by omega) hjl)
    (fun s hI => .inl ⟨rfl, fun hm => by
      obtain ⟨j, hj, he⟩ := List.getElem_of_mem hm
      exact hI j (by omega) hj he.symm⟩)
  rw [h1]
  rcases h2 with ⟨rfl, hn⟩ | ⟨i, hi, rfl, hm⟩
  · exact ⟨_, rfl, .inl ⟨rfl, hn⟩⟩
  · exact ⟨_, rfl, .inr ⟨i, hi, rfl, hm⟩⟩
theorem Index_of {l : List Str} (hn : l.Nodup) (hl : (l.length : Int) ≤ 9223372036854775807) {k : Int} (hk : inR l k) : slices_Index_string l (gx l k) = some k := by
  obtain ⟨x, h1, h2⟩ := Index_any l (gx l k) hl
  rw [h1]
  rcases h2 with ⟨_, h⟩ | ⟨i, hi, rfl, h⟩
  · exact absurd (gx_mem hk) h
  · rw [gx_get hk, List.getElem_inj hn] at h
    have := hk.1
    congr 1; omega
theorem seg_drop {α : Type} (l : List α) (k : Nat) : seg l (k : Int) (l.length : Int) = l.drop k := by
  unfold seg
  simp
theorem seg_take {α : Type} (l : List α) (k : Nat) : seg l 0 (k : Int) = l.take k := by
  unfold seg
  simp
theorem take_nil : desk_words_take ⟨[]⟩ = some (Str.nil, ⟨[]⟩) := rfl
theorem take_cons (s : Str) (l : List Str) : desk_words_take ⟨s :: l⟩ = some (s, ⟨l⟩) := by
  unfold desk_words_take
  have h1 : ¬ (((s :: l).length : Nat) : Int) = 0 := by rw [List.length_cons]; omega
  rw [decide_eq_false h1, cond_false, need_of ⟨by omega, by rw [List.length_cons]; omega⟩, need_of ⟨by omega, by rw [List.length_cons]; omega, by omega⟩, bnd_eq, bnd_eq]
  have : seg (s :: l) 1 (((s :: l).length : Nat) : Int) = l := seg_drop (s :: l) 1
  rw [this]; rfl
/-- A word behind a given one. -/
def opt (w : Str) : List Str → Str × List Str
  | a :: b :: r => if a = w then (b, r) else (Str.nil, a :: b :: r)
  | l => (Str.nil, l)
theorem option_eq (l : List Str) (w : Str) : desk_words_option ⟨l⟩ w = some ((opt w l).1, ⟨(opt w l).2⟩) := by
  unfold desk_words_option
  match l with
  | [] => rw [need_of (fun h => absurd (of_decide_eq_false h) (by decide))]; rfl
  | [a] => rw [need_of (fun h => absurd (of_decide_eq_false h) (fun hn => hn (by show ((1 : Nat) : Int) < 2; decide)))]; rfl
  | a :: b :: r =>
    have h2 : ¬ (((a :: b :: r).length : Nat) : Int) < 2 := by rw [List.length_cons, List.length_cons]; omega
    have hg : gx (a :: b :: r) 0 = a := rfl
    rw [need_of (fun _ => ⟨by omega, by rw [List.length_cons]; omega⟩), decide_eq_false h2, Bool.false_or, hg, opt]
    by_cases h : a = w
    · rw [decide_eq_true h, if_pos h, Bool.not_true, cond_false, take_cons, Option.bind_some, take_cons, Option.bind_some]
    · rw [decide_eq_false h, if_neg h]; rfl
theorem opt_any (w : Str) (l : List Str) (h : Str.nil ∉ l) : l.map Str.b = optW w.b (opt w l).1 ++ (opt w l).2.map Str.b ∧ (∀ s ∈ (opt w l).2, s ∈ l) ∧ ((opt w l).1 = Str.nil ∨ (opt w l).1 ∈ l) := by
  match l with
  | [] => exact ⟨rfl, fun s hs => hs, .inl rfl⟩
  | [a] => exact ⟨rfl, fun s hs => hs, .inl rfl⟩
  | a :: b :: r =>
    rw [opt]
    by_cases e : a = w
    · rw [if_pos e]
      have hb : ¬ b = Str.nil := fun e => h (by simp [e])
      refine ⟨?_, fun s hs => by simp [hs], .inr (by simp)⟩
      simp only [optW, if_neg hb, List.map_cons, e]; rfl
    · rw [if_neg e]
      exact ⟨rfl, fun s hs => hs, .inl rfl⟩
theorem opt_of {w : Str} {v : Str} {r : List Str} (h : ∀ a, r.head? = some a → a ≠ w) : opt w ((optW w.b v).map Str.mk ++ r) = (v, r) := by
  unfold optW
  split
  · rename_i hv
    rw [hv]
    show opt w r = _
    match r, h with
    | [], _ => rfl
    | [a], _ => rfl
    | a :: b :: r, h => rw [opt, if_neg (h a rfl)]
  · show opt w (w :: v :: r) = _
    rw [opt, if_pos rfl]
theorem numbers_any (l : List Str) (hw : ∀ s ∈ l, s.b.length ≤ 4294967281) (hl : l.length ≤ 100000000) (k : Nat) :
    ∃ ns b l', desk_words_numbers ⟨l⟩ (k : Int) = some (ns, b, ⟨l'⟩) ∧ (b = true → k ≤ l.length ∧ numsW ns = (l.take k).map Str.b ∧ (∀ n ∈ ns, InI n) ∧ l' = l.drop k) := by
  unfold desk_words_numbers
  have hlw : (⟨l⟩ : Desk_words).l = l := rfl
  rw [hlw]
  by_cases h : l.length < k
  · rw [decide_eq_true (show ((l.length : Nat) : Int) < (k : Int) by omega), cond_true]
    exact ⟨_, _, _, rfl, fun h => by cases h⟩
  · rw [decide_eq_false (show ¬ ((l.length : Nat) : Int) < (k : Int) by omega), cond_false, need_of ⟨by omega, by omega, by omega⟩, seg_take]
    obtain ⟨ns, b, e1, e2⟩ := ReadNumbers_any (l.take k) (fun s hs => hw s (List.mem_of_mem_take hs)) (by rw [List.length_take]; omega)
    rw [e1, Option.bind_some, need_of ⟨by omega, by omega, by omega⟩, bnd_eq, bnd_eq, seg_drop]
    exact ⟨_, _, _, rfl, fun h => ⟨by omega, (e2 h).1, (e2 h).2, rfl⟩⟩
theorem numbers_of {ns : List Int} (h : ∀ n ∈ ns, n.natAbs < 10000000) (hl : ns.length ≤ 100000000) (r : List Str) {k : Int} (hk : k = (ns.length : Int)) : desk_words_numbers ⟨ns.map itoaS ++ r⟩ k = some (ns, true, ⟨r⟩) := by
  unfold desk_words_numbers
  have hlen : (ns.map itoaS ++ r).length = ns.length + r.length := by rw [List.length_append, List.length_map]
  subst hk
  rw [decide_eq_false (show ¬ (((ns.map itoaS ++ r).length : Nat) : Int) < (ns.length : Int) by omega), cond_false, need_of ⟨by omega, by omega, by rw [hlen]; omega⟩, seg_take, List.take_left' (by rw [List.length_map]), ReadNumbers_of h hl, Option.bind_some,
    need_of ⟨by omega, by rw [hlen]; omega, by omega⟩, bnd_eq, bnd_eq, seg_drop, List.drop_left' (by rw [List.length_map])]
theorem kindsL_nodup : kindsL.Nodup := by decide
theorem sidesL_nodup : sidesL.Nodup := by decide
theorem KindWords_eq : edit_KindWords = some kindsL := rfl
theorem SideWords_eq : edit_SideWords = some sidesL := rfl
theorem ReadEnd_any (a b c : Str) (hc : c.b.length ≤ 4294967281) (ha : fits a) : ∃ y ok, edit_ReadEnd [a, b, c] = some (y, ok) ∧ (ok = true → endW y = [a.b, b.b, c.b] ∧ fits y) := by
  unfold edit_ReadEnd
  have g0 : gx [a, b, c] 0 = a := rfl
  have g1 : gx [a, b, c] 1 = b := rfl
  have g2 : gx [a, b, c] 2 = c := rfl
  have h3 : (!decide ((([a, b, c] : List Str).length : Int) = 3)) = false := by simp
  have n0 : inR [a, b, c] 0 := ⟨by decide, by simp⟩
  have n1 : inR [a, b, c] 1 := ⟨by decide, by simp⟩
  have n2 : inR [a, b, c] 2 := ⟨by decide, by simp⟩
  rw [bnd_eq, need_of (fun _ => n0), need_of (fun _ => n1), h3, Bool.false_or, g0, g1]
  cases hz : (decide (a = Str.nil) || decide (b = Str.nil)) with
  | true => exact ⟨_, _, rfl, fun h => by cases h⟩
  | false =>
    rw [cond_false, need_of n0, bnd_eq, SideWords_eq, Option.bind_some, need_of n1]
    obtain ⟨k, k1, k2⟩ := Index_any sidesL b (by decide)
    obtain ⟨n, ok, e1, e2⟩ := Number_any c hc
    rw [k1, Option.bind_some, bnd_eq, need_of n2, g2, e1, Option.bind_some, bnd_eq]
    refine ⟨_, _, rfl, fun hok => ?_⟩
    simp only [Bool.and_eq_true, decide_eq_true_eq] at hok
    obtain ⟨q1, q2⟩ := e2 hok.1
    rcases k2 with ⟨hk, _⟩ | ⟨i, hi, hk, hb⟩
    · exact absurd hok.2 (by rw [hk]; decide)
    · refine ⟨?_, ha, ?_, q1⟩
      · show [a.b, (gx sidesL k).b, Go.Lib.itoa n] = _
        rw [hk, gx_nat hi, hb, q2]
      · show InI k
        have : sidesL.length = 5 := rfl
        unfold InI; omega
theorem ReadEnd_of {y : DEnd} (h : EndT y) : edit_ReadEnd ((endW y).map Str.mk) = some (y, true) := by
  show edit_ReadEnd [y.Node, gx sidesL y.Side, itoaS y.At] = _
  unfold edit_ReadEnd
  have h3 : (!decide ((([y.Node, gx sidesL y.Side, itoaS y.At] : List Str).length : Int) = 3)) = false := by simp
  have n0 : inR [y.Node, gx sidesL y.Side, itoaS y.At] 0 := ⟨by decide, by simp⟩
  have n1 : inR [y.Node, gx sidesL y.Side, itoaS y.At] 1 := ⟨by decide, by simp⟩
  have n2 : inR [y.Node, gx sidesL y.Side, itoaS y.At] 2 := ⟨by decide, by simp⟩
  have g0 : gx [y.Node, gx sidesL y.Side, itoaS y.At] 0 = y.Node := rfl
  have g1 : gx [y.Node, gx sidesL y.Side, itoaS y.At] 1 = gx sidesL y.Side := rfl
  have g2 : gx [y.Node, gx sidesL y.Side, itoaS y.At] 2 = itoaS y.At := rfl
  have s1 := h.s1
  have s2 := h.s2
  have hz0 : ¬ y.Node = Str.nil := nameB_ne h.node
  have hz1 : ¬ gx sidesL y.Side = Str.nil := fun e => (side_word s1 s2).1.ne (by rw [e]; rfl)
  have hin : inR sidesL y.Side := ⟨by omega, by show y.Side < 5; omega⟩
  rw [bnd_eq, need_of (fun _ => n0), need_of (fun _ => n1), h3, Bool.false_or, g0, g1, decide_eq_false hz0, decide_eq_false hz1, Bool.or_self, cond_false, need_of n0, bnd_eq, SideWords_eq, Option.bind_some, need_of n1,
    Index_of sidesL_nodup (by decide) hin, Option.bind_some, bnd_eq, need_of n2, g2, Number_of h.at_, Option.bind_some, bnd_eq]
  have : decide ((0 : Int) < y.Side) = true := decide_eq_true (by omega)
  show some ((⟨y.Node, y.Side, y.At⟩ : DEnd), true && decide ((0 : Int) < y.Side)) = _
  rw [this]; rfl
theorem cuts_memL (c : UInt8) : ∀ (k : Nat) (l x : List UInt8), x ∈ cutsN c k l → x.length ≤ l.length
  | 0, l, x, h => by simp [cutsN] at h; rw [h]; exact Nat.le_refl _
  | k + 1, l, x, h => by
    by_cases hc : c ∈ l
    · obtain ⟨a, m, rfl, h2⟩ := mem_cut hc
      rw [cutsN_hit h2] at h
      rcases List.mem_cons.1 h with rfl | h
      · simp
      · have := cuts_memL c k m x h
        simp only [List.length_append, List.length_cons]; omega
    · rw [cutsN_miss hc] at h
      simp at h; rw [h]; exact Nat.le_refl _
theorem mk_b (l : List (List UInt8)) : (l.map Str.mk).map Str.b = l := by
  rw [List.map_map]
  exact List.map_id l
theorem esc_len_le (s : Str) : s.b.length ≤ (quoteS s).b.length := by
  unfold quoteS
  simp only [List.length_cons, List.length_append, escL_len]; omega
theorem Cut_any {s sep : Str} {h r : List UInt8} {q : Bool} (hc : cutS s sep = (⟨h⟩, ⟨r⟩, q)) (hs : s.b.length ≤ 4294967280) (hh : h.length ≤ s.b.length) (hr : r.length ≤ s.b.length) : strings_Cut s sep = some (⟨h⟩, ⟨r⟩, q) := by
  unfold strings_Cut
  rw [hc]
  exact need_of ⟨by omega, by show h.length ≤ _; omega, by show r.length ≤ _; omega⟩
/-- What a line comes to. -/
structure Line (a : List UInt8) (l : List Str) (t : Str) (q : Bool) : Prop where
  ne : l ≠ []
  nil : Str.nil ∉ l
  short : ∀ s ∈ l, s.b.length ≤ a.length
  few : l.length ≤ a.length + 1
  text : t.b.length ≤ a.length
  eq : a = joinC 32 (l.map Str.b) ++ (if q = true then 32 :: (quoteS t).b else [])
  none : q = false → t = Str.nil
theorem Line.eqW {a : List UInt8} {l : List Str} {t : Str} {q : Bool} (h : Line a l t q) (hq : ¬ (q = true ∧ t = Str.nil)) : a = lineW (l.map Str.b) t := by
  rw [h.eq]
  unfold lineW qB
  congr 1
  cases q with
  | true => rw [if_pos rfl, if_neg (fun e => hq ⟨rfl, e⟩)]
  | false => rw [if_neg (by decide), if_pos (h.none rfl)]
theorem split_any (a : List UInt8) (ha : a.length ≤ 100000000) : ∃ l t q ok, desk_split ⟨a⟩ = some (l, t, q, ok) ∧ (ok = true → Line a l t q) := by
  unfold desk_split
  obtain ⟨h, r, q, hc, hc1, hc0⟩ := cut2_any ⟨a⟩
  have hlen : h.length ≤ a.length ∧ r.length ≤ a.length := by
    cases q with
    | true =>
      have h1 : a = h ++ 32 :: 34 :: r := hc1 rfl
      rw [h1]; simp only [List.length_append, List.length_cons]; omega
    | false =>
      obtain ⟨h1, h2⟩ := hc0 rfl
      have h1 : h = a := h1
      rw [h1, h2]; simp
  have rest : ∀ (t : Str) (q : Bool), t.b.length ≤ a.length → a = h ++ (if q = true then 32 :: (quoteS t).b else []) → (q = false → t = Str.nil) → ∃ l t' q' ok, (Option.bind (strings_Split ⟨h⟩ (⟨[32]⟩ : Str)) fun words1 =>
      Option.bind (slices_Contains_string words1 Str.nil) fun r3 => some (words1, t, q, !r3)) = some (l, t', q', ok) ∧ (ok = true → Line a l t' q') := by
    intro t q ht he hq
    have hs : strings_Split ⟨h⟩ ⟨[32]⟩ = some (splitS ⟨h⟩ ⟨[32]⟩) := by
      unfold strings_Split
      exact need_of ⟨by show ((h.length : Nat) : Int) < _; omega, by simp⟩
    have e := splitS_one ⟨h⟩ 32
    rw [show (⟨h⟩ : Str).b = h from rfl] at e
    have hm := cuts_memL 32 (h.count 32) h
    have hj := join_cuts 32 (h.count 32) h
    have hl := cutsN_lenL 32 (h.count 32) h
    have hn := cutsN_ne 32 (h.count 32) h
    rw [hs, Option.bind_some, e]
    generalize cutsN 32 (h.count 32) h = ws at hm hj hl hn
    rw [Contains_string _ _ (by rw [List.length_map]; omega), Option.bind_some]
    refine ⟨_, _, _, _, rfl, fun hok => ?_⟩
    simp only [Bool.not_eq_true', decide_eq_false_iff_not] at hok
    refine ⟨by simpa using hn, hok, fun s hs => ?_, by rw [List.length_map]; omega, ht, by rw [mk_b, hj]; exact he, hq⟩
    obtain ⟨x, hx, rfl⟩ := List.mem_map.1 hs
    have := hm x hx
    show x.length ≤ _; omega
  rw [Cut_any hc (by show a.length ≤ _; omega) hlen.1 hlen.2, Option.bind_some]
  simp only
  cases q with
  | false =>
    rw [cond_false, bindR_nx]
    obtain ⟨h1, h2⟩ := hc0 rfl
    have h1 : h = a := h1
    exact rest Str.nil false (Nat.zero_le _) (by rw [if_neg (by decide), List.append_nil]; exact h1.symm) (fun _ => rfl)
  | true =>
    have h1 : a = h ++ 32 :: 34 :: r := hc1 rfl
    have hr : (34 :: r).length ≤ a.length := by rw [h1]; simp only [List.length_append, List.length_cons]; omega
    rw [cond_true, need_of (by simp only [List.length_cons, List.length_nil]; omega), show (⟨(⟨[34]⟩ : Str).b ++ (⟨r⟩ : Str).b⟩ : Str) = ⟨34 :: r⟩ from rfl, Unquoted_eq ⟨34 :: r⟩ (by show (34 :: r).length ≤ _; omega), Option.bind_some]
    cases hu : (unquoteS ⟨34 :: r⟩).2 with
    | false => exact ⟨_, _, _, _, rfl, fun h => by cases h⟩
    | true =>
      have hq := quote_unquote (s := ⟨34 :: r⟩) (v := (unquoteS ⟨34 :: r⟩).1) (by rw [← hu])
      have hle := esc_len_le (unquoteS ⟨34 :: r⟩).1
      rw [hq] at hle
      rw [Bool.not_true, cond_false, bindR_nx]
      exact rest _ true (Nat.le_trans hle hr) (by rw [if_pos rfl, hq]; exact h1) nofun
theorem split_line {ws : List (List UInt8)} {t : Str} (h0 : ws ≠ []) (h : ∀ w ∈ ws, Word w) (hl : (lineW ws t).length ≤ 100000000) : desk_split ⟨lineW ws t⟩ = some (ws.map Str.mk, t, !decide (t = Str.nil), true) := by
  have hc := lineW_cut (t := t) h
  have hjl : (joinC 32 ws).length + (qB t).length = (lineW ws t).length := by unfold lineW; rw [List.length_append]
  have hql : (if t = Str.nil then [] else escL t.b ++ [34]).length ≤ (qB t).length := by
    unfold qB
    split
    · exact Nat.le_refl _
    · unfold quoteS; simp only [List.length_cons, List.length_append]; omega
  have hs : strings_Split ⟨joinC 32 ws⟩ ⟨[32]⟩ = some (ws.map Str.mk) := by
    unfold strings_Split
    rw [split_join h0 (fun w hw => (h w hw).b32)]
    exact need_of ⟨by show (((joinC 32 ws).length : Nat) : Int) < _; omega, by simp⟩
  have hn : ¬ Str.nil ∈ ws.map Str.mk := fun hm => by
    obtain ⟨w, hw, e⟩ := List.mem_map.1 hm
    exact (h w hw).ne (congrArg Str.b e)
  have hcl := count_join 32 ws h0 (fun w hw => (h w hw).b32)
  have hcc : (joinC 32 ws).count 32 ≤ (joinC 32 ws).length := List.count_le_length
  have hcn : slices_Contains_string (ws.map Str.mk) Str.nil = some false := by
    rw [Contains_string _ _ (by rw [List.length_map]; omega), decide_eq_false hn]
  unfold desk_split
  rw [Cut_any hc (by show (lineW ws t).length ≤ _; omega) (by show _ ≤ (lineW ws t).length; omega) (by show _ ≤ (lineW ws t).length; omega), Option.bind_some]
  simp only
  by_cases ht : t = Str.nil
  · subst ht
    rw [decide_eq_true rfl, Bool.not_true, cond_false, bindR_nx, hs, Option.bind_some, hcn]; rfl
  · have hq : (⟨(⟨[34]⟩ : Str).b ++ (escL t.b ++ [34])⟩ : Str) = quoteS t := rfl
    rw [decide_eq_false ht, Bool.not_false, cond_true, if_neg ht]
    rw [if_neg ht] at hql
    rw [need_of (by show ((([34] : List UInt8).length : Nat) : Int) + (((escL t.b ++ [34]).length : Nat) : Int) ≤ _; rw [List.length_singleton]; omega)]
    rw [hq, Unquoted_eq (quoteS t) (by rw [← hq]; show ([34] ++ (escL t.b ++ [34])).length ≤ _; rw [List.length_append, List.length_singleton]; omega), unquote_quote, Option.bind_some]
    simp only
    rw [Bool.not_true, cond_false, bindR_nx, hs, Option.bind_some, hcn]; rfl
theorem readRule_any (l : List Str) (hn : Str.nil ∉ l) (h0 : gx l 0 = ⟨wStyle⟩) : ∃ r ok, desk_readRule l = some (r, ok) ∧ (ok = true → ruleW r = l.map Str.b ∧ (r.Class = Str.nil ∨ r.Class ∈ l) ∧ r.Prop_ ∈ l ∧ r.Value ∈ l) := by
  unfold desk_readRule
  rw [bnd_eq]
  by_cases hl : l.length = 4
  · match l, hl, hn, h0 with
    | [a, b, c, d], hl, hn, h0 =>
      have h0 : a = ⟨wStyle⟩ := h0
      have hbn : ¬ b = Str.nil := fun e => hn (by simp [e])
      have g1 : gx [a, b, c, d] 1 = b := rfl
      have g2 : gx [a, b, c, d] 2 = c := rfl
      have g3 : gx [a, b, c, d] 3 = d := rfl
      rw [decide_eq_true (show ((([a, b, c, d] : List Str).length : Nat) : Int) = 4 from rfl), Bool.not_true, cond_false, need_of ⟨by decide, by simp⟩, need_of ⟨by decide, by simp⟩, need_of ⟨by decide, by simp⟩, bnd_eq, g1, g2, g3]
      by_cases hs : b = ⟨[42]⟩
      · rw [show decide ((⟨b, c, d⟩ : Rule).Class = (⟨[42]⟩ : Str)) = true from decide_eq_true hs, cond_true, Option.bind_some]
        refine ⟨_, _, rfl, fun _ => ⟨?_, .inl rfl, by simp, by simp⟩⟩
        rw [h0, hs]; rfl
      · rw [show decide ((⟨b, c, d⟩ : Rule).Class = (⟨[42]⟩ : Str)) = false from decide_eq_false hs, cond_false, Option.bind_some]
        refine ⟨_, _, rfl, fun _ => ⟨?_, .inr (by simp), by simp, by simp⟩⟩
        simp only [ruleW, starB, if_neg hbn, List.map_cons, List.map_nil, h0]
  · rw [decide_eq_false (show ¬ ((l.length : Nat) : Int) = 4 by omega), Bool.not_false, cond_true]
    exact ⟨_, _, rfl, fun h => by cases h⟩
theorem readRule_of {r : Rule} (h : RuleT r) : desk_readRule ((ruleW r).map Str.mk) = some (r, true) := by
  unfold desk_readRule
  show bnd _ _ = _
  have e : (ruleW r).map Str.mk = [⟨wStyle⟩, ⟨starB r.Class⟩, r.Prop_, r.Value] := rfl
  have g1 : gx [(⟨wStyle⟩ : Str), ⟨starB r.Class⟩, r.Prop_, r.Value] 1 = ⟨starB r.Class⟩ := rfl
  have g2 : gx [(⟨wStyle⟩ : Str), ⟨starB r.Class⟩, r.Prop_, r.Value] 2 = r.Prop_ := rfl
  have g3 : gx [(⟨wStyle⟩ : Str), ⟨starB r.Class⟩, r.Prop_, r.Value] 3 = r.Value := rfl
  rw [bnd_eq, e, decide_eq_true (show ((([(⟨wStyle⟩ : Str), ⟨starB r.Class⟩, r.Prop_, r.Value] : List Str).length : Nat) : Int) = 4 from rfl), Bool.not_true, cond_false, need_of ⟨by decide, by simp⟩, need_of ⟨by decide, by simp⟩, need_of ⟨by decide, by simp⟩, bnd_eq, g1, g2, g3]
  by_cases hc : r.Class = Str.nil
  · have hs : starB r.Class = [42] := by unfold starB; rw [if_pos hc]
    rw [show decide ((⟨⟨starB r.Class⟩, r.Prop_, r.Value⟩ : Rule).Class = (⟨[42]⟩ : Str)) = true from decide_eq_true (by rw [hs]), cond_true, Option.bind_some]
    cases r
    simp only at hc
    rw [hc]
  · have hs : starB r.Class = r.Class.b := by unfold starB; rw [if_neg hc]
    have hn := h.cls.resolve_left hc
    have hne : ¬ (⟨starB r.Class⟩ : Str) = ⟨[42]⟩ := fun e => by
      rw [hs] at e
      have e : r.Class = ⟨[42]⟩ := e
      rw [e] at hn
      exact absurd hn (by decide)
    rw [show decide ((⟨⟨starB r.Class⟩, r.Prop_, r.Value⟩ : Rule).Class = (⟨[42]⟩ : Str)) = false from decide_eq_false hne, cond_false, Option.bind_some, hs]
theorem fitS {s : Str} (h : s.b.length ≤ 100000000) : fits s := Nat.le_trans h (by decide)
theorem fit0 : fits (0 : Int) := (by decide : InI 0)
theorem nn_of {a : Str} {l : List Str} (h : Str.nil ∉ a :: l) : ¬ a = Str.nil ∧ Str.nil ∉ l := by
  rw [List.mem_cons, not_or] at h
  exact ⟨fun e => h.1 e.symm, h.2⟩
/-- What readNode does behind the place. -/
noncomputable def nodeRest (m : DNode) (w : Desk_words) : Option (DNode × Bool) :=
  Option.bind (desk_words_option w (⟨[99, 108, 97, 115, 115]⟩ : Str)) fun r6 =>
  bnd ({ m with Class := r6.1 }) fun n4 =>
  Option.bind (desk_words_option r6.2 (⟨[105, 110]⟩ : Str)) fun r7 =>
  bnd ({ n4 with Parent := r7.1 }) fun n5 =>
  need ((decide (0 < (r7.2.l.length : Int))) = true → inR r7.2.l 0) <|
  Option.bind (α := (DNode × Desk_words)) (
   bif (decide (0 < (r7.2.l.length : Int))) && (decide ((gx r7.2.l 0) = (⟨[108, 111, 99, 107, 101, 100]⟩ : Str))) then (
    bnd ({ n5 with Locked := true }) fun n6 =>
    Option.bind (desk_words_take r7.2) fun r8 =>
    some (n6, r8.2))
   else (
    some (n5, r7.2))) fun j_24 =>
  some (j_24.1, decide ((j_24.2.l.length : Int) = 0))
theorem nodeRest_any (id : Str) (k : Int) (b : Box) (t : Str) (r : List Str) (hn : Str.nil ∉ r) : ∃ c p lk ok, nodeRest ⟨id, k, b, t, Str.nil, Str.nil, false⟩ ⟨r⟩ = some (⟨id, k, b, t, c, p, lk⟩, ok) ∧
    (ok = true → r.map Str.b = optW wClass c ++ (optW wIn p ++ lockW lk) ∧ (c = Str.nil ∨ c ∈ r) ∧ (p = Str.nil ∨ p ∈ r)) := by
  unfold nodeRest
  rw [option_eq, Option.bind_some, bnd_eq]
  obtain ⟨a1, a2, a3⟩ := opt_any ⟨wClass⟩ r hn
  generalize opt (⟨[99, 108, 97, 115, 115]⟩ : Str) r = c at a1 a2 a3
  simp only
  rw [option_eq, Option.bind_some, bnd_eq]
  have hn2 : Str.nil ∉ c.2 := fun h => hn (a2 _ h)
  obtain ⟨b1, b2, b3⟩ := opt_any ⟨wIn⟩ c.2 hn2
  generalize opt (⟨[105, 110]⟩ : Str) c.2 = p at b1 b2 b3
  simp only
  have hp : p.1 = Str.nil ∨ p.1 ∈ r := b3.imp (fun h => h) (a2 _)
  cases hr : p.2 with
  | nil =>
    rw [need_of (fun h => absurd (of_decide_eq_true h) (by decide))]
    refine ⟨c.1, p.1, false, true, rfl, fun _ => ⟨?_, a3, hp⟩⟩
    rw [a1, b1, hr]; rfl
  | cons x y =>
    have hg : gx (x :: y) 0 = x := rfl
    have hl : (0 : Int) < (((x :: y).length : Nat) : Int) := by rw [List.length_cons]; omega
    rw [need_of (fun _ => ⟨by omega, hl⟩), decide_eq_true hl, Bool.true_and, hg]
    by_cases hx : x = ⟨[108, 111, 99, 107, 101, 100]⟩
    · rw [decide_eq_true hx, cond_true, bnd_eq, take_cons, Option.bind_some, Option.bind_some]
      refine ⟨c.1, p.1, true, _, rfl, fun h => ⟨?_, a3, hp⟩⟩
      have hy : y = [] := by
        have : ((y.length : Nat) : Int) = 0 := of_decide_eq_true h
        exact List.length_eq_zero_iff.1 (by omega)
      rw [a1, b1, hr, hy, hx]; rfl
    · rw [decide_eq_false hx, cond_false, Option.bind_some]
      refine ⟨c.1, p.1, false, _, rfl, fun h => ?_⟩
      have : (((x :: y).length : Nat) : Int) = 0 := of_decide_eq_true h
      omega
theorem nodeRest_of (id : Str) (k : Int) (b : Box) (t c p : Str) (lk : Bool) : nodeRest ⟨id, k, b, t, Str.nil, Str.nil, false⟩ ⟨(optW wClass c ++ (optW wIn p ++ lockW lk)).map Str.mk⟩ = some (⟨id, k, b, t, c, p, lk⟩, true) := by
  unfold nodeRest
  have h2 : ∀ a, ((lockW lk).map Str.mk).head? = some a → a ≠ ⟨wIn⟩ ∧ a ≠ ⟨wClass⟩ := by
    intro a ha
    cases lk with
    | false => cases ha
    | true =>
      have ha : some (⟨wLocked⟩ : Str) = some a := ha
      injection ha with ha
      rw [← ha]
      exact ⟨fun e => absurd (congrArg Str.b e) (by decide), fun e => absurd (congrArg Str.b e) (by decide)⟩
  have h1 : ∀ a, ((optW wIn p ++ lockW lk).map Str.mk).head? = some a → a ≠ ⟨wClass⟩ := by
    intro a ha
    unfold optW at ha
    split at ha
    · exact (h2 a ha).2
    · have ha : some (⟨wIn⟩ : Str) = some a := ha
      injection ha with ha
      rw [← ha]
      exact fun e => absurd (congrArg Str.b e) (by decide)
  have o1 : opt ⟨wClass⟩ ((optW wClass c ++ (optW wIn p ++ lockW lk)).map Str.mk) = (c, (optW wIn p ++ lockW lk).map Str.mk) := by
    rw [List.map_append]
    exact opt_of (w := ⟨wClass⟩) h1
  have o2 : opt ⟨wIn⟩ ((optW wIn p ++ lockW lk).map Str.mk) = (p, (lockW lk).map Str.mk) := by
    rw [List.map_append]
    exact opt_of (w := ⟨wIn⟩) (fun a ha => (h2 a ha).1)
  rw [option_eq, o1, Option.bind_some, bnd_eq]
  simp only
  rw [option_eq, o2, Option.bind_some, bnd_eq]
  cases lk with
  | false =>
    have e : (lockW false).map Str.mk = ([] : List Str) := rfl
    simp only
    rw [e, need_of (fun h => absurd (of_decide_eq_true h) (by decide))]; rfl
  | true =>
    have e : (lockW true).map Str.mk = [(⟨wLocked⟩ : Str)] := rfl
    have hg : gx [(⟨wLocked⟩ : Str)] 0 = ⟨wLocked⟩ := rfl
    have hl : (0 : Int) < ((([(⟨wLocked⟩ : Str)].length : Nat)) : Int) := by rw [List.length_cons]; omega
    simp only
    rw [e, need_of (fun _ => ⟨by omega, hl⟩), decide_eq_true hl, Bool.true_and, hg, decide_eq_true rfl, cond_true, bnd_eq, take_cons, Option.bind_some, Option.bind_some]
    rfl
theorem readNode_any (l : List Str) (t : Str) (h0 : l ≠ []) (hn : Str.nil ∉ l) (hs : ∀ s ∈ l, s.b.length ≤ 100000000) (hl : l.length ≤ 100000000) (ht : t.b.length ≤ 100000000) :
    ∃ n ok, desk_readNode l t = some (n, ok) ∧ (ok = true → nodeW n = l.map Str.b ∧ n.Text = t ∧ fits n) := by
  match l, h0 with
  | a :: l1, _ =>
    obtain ⟨ha, hn1⟩ := nn_of hn
    unfold desk_readNode
    rw [bnd_eq, bnd_eq, KindWords_eq, Option.bind_some, take_cons, Option.bind_some]
    obtain ⟨k, k1, k2⟩ := Index_any kindsL a (by decide)
    simp only
    rw [k1, Option.bind_some, bnd_eq]
    match l1, hn1, hs, hl with
    | [], _, _, _ =>
      rw [take_nil, Option.bind_some, bnd_eq]
      simp only [decide_true, Bool.or_true, cond_true]
      exact ⟨_, _, rfl, fun h => by cases h⟩
    | i :: l2, hn1, hs, hl =>
      obtain ⟨hi, hn2⟩ := nn_of hn1
      rw [take_cons, Option.bind_some, bnd_eq]
      simp only
      rw [decide_eq_false hi, Bool.or_false]
      by_cases hk1 : k < 1
      · rw [decide_eq_true hk1, cond_true]
        exact ⟨_, _, rfl, fun h => by cases h⟩
      · rw [decide_eq_false hk1, cond_false]
        have hka : (gx kindsL k).b = a.b ∧ k < 7 := by
          rcases k2 with ⟨e, _⟩ | ⟨j, hj, e, hb⟩
          · omega
          · rw [e, gx_nat hj, hb]
            have : kindsL.length = 7 := rfl
            exact ⟨rfl, by omega⟩
        have hsi : i.b.length ≤ 100000000 := hs i (by simp)
        have hs2 : ∀ s ∈ l2, s.b.length ≤ 100000000 := fun s h => hs s (by simp [h])
        have hl2 : l2.length ≤ 100000000 := by simp only [List.length_cons] at hl; omega
        have fin : ∀ (b : Box) (r : List Str), (∀ s ∈ r, s ∈ l2) → fits b → (if k = 6 then [] else numsW (boxN b)) ++ r.map Str.b = l2.map Str.b → ∃ n ok, nodeRest ⟨i, k, b, t, Str.nil, Str.nil, false⟩ ⟨r⟩ = some (n, ok) ∧ (ok = true → nodeW n = (a :: i :: l2).map Str.b ∧ n.Text = t ∧ fits n) := by
          intro b r hr hb he
          obtain ⟨c, p, lk, ok, e1, e2⟩ := nodeRest_any i k b t r (fun h => hn2 (hr _ h))
          refine ⟨_, _, e1, fun h => ?_⟩
          obtain ⟨q1, q2, q3⟩ := e2 h
          have fs : ∀ {s : Str}, s = Str.nil ∨ s ∈ r → fits s := fun {s} h => by
            rcases h with rfl | h
            · exact fitS (by decide)
            · exact fitS (hs2 _ (hr _ h))
          refine ⟨?_, rfl, fitS hsi, ?_, hb, fitS ht, fs q2, fs q3, trivial⟩
          · show (gx kindsL k).b :: i.b :: ((if k = 6 then [] else numsW (boxN b)) ++ (optW wClass c ++ (optW wIn p ++ lockW lk))) = _
            rw [← q1, he, hka.1]; rfl
          · show InI k
            unfold InI; omega
        by_cases h6 : k = 6
        · rw [decide_eq_true h6, Bool.not_true, cond_false, bindR_nx]
          exact fin ⟨0, 0, 0, 0⟩ l2 (fun s h => h) ⟨fit0, fit0, fit0, fit0⟩ (by rw [if_pos h6]; rfl)
        · rw [decide_eq_false h6, Bool.not_false, cond_true]
          obtain ⟨ns, b, l', e1, e2⟩ := numbers_any l2 (fun s h => Nat.le_trans (hs2 s h) (by decide)) hl2 4
          rw [show ((4 : Nat) : Int) = 4 from rfl] at e1
          rw [e1, Option.bind_some]
          cases hb : b with
          | false => exact ⟨_, _, rfl, fun h => by cases h⟩
          | true =>
            obtain ⟨q1, q2, q3, q4⟩ := e2 hb
            have hlen : ns.length = 4 := by
              have := congrArg List.length q2
              unfold numsW at this
              rw [List.length_map, List.length_map, List.length_take] at this
              omega
            match ns, hlen, q2, q3 with
            | [x, y, w, h], _, q2, q3 =>
              simp only
              rw [Bool.not_true, cond_false, need_of ⟨by decide, by simp⟩, need_of ⟨by decide, by simp⟩, need_of ⟨by decide, by simp⟩, need_of ⟨by decide, by simp⟩, bnd_eq, bindR_nx, q4]
              refine fin ⟨x, y, w, h⟩ (l2.drop 4) (fun s h => List.mem_of_mem_drop h) ⟨q3 x (by simp), q3 y (by simp), q3 w (by simp), q3 h (by simp)⟩ ?_
              rw [if_neg h6, show boxN ⟨x, y, w, h⟩ = [x, y, w, h] from rfl, q2, ← List.map_append, List.take_append_drop]
theorem readNode_of {n : DNode} (h : NodeT n) : desk_readNode ((nodeW n).map Str.mk) n.Text = some (n, true) := by
  have k1 := h.k1
  have k2 := h.k2
  have hin : inR kindsL n.Kind := ⟨by omega, by show n.Kind < 7; omega⟩
  have e : (nodeW n).map Str.mk = gx kindsL n.Kind :: n.Id :: ((placeW n).map Str.mk ++ (optW wClass n.Class ++ (optW wIn n.Parent ++ lockW n.Locked)).map Str.mk) := by
    unfold nodeW
    rw [List.map_cons, List.map_cons, List.map_append]
  have hi : ¬ n.Id = Str.nil := nameB_ne h.id
  unfold desk_readNode
  rw [e, bnd_eq, bnd_eq, KindWords_eq, Option.bind_some, take_cons, Option.bind_some]
  simp only
  rw [Index_of kindsL_nodup (by decide) hin, Option.bind_some, bnd_eq, take_cons, Option.bind_some, bnd_eq]
  simp only
  rw [decide_eq_false hi, Bool.or_false, decide_eq_false (show ¬ n.Kind < 1 by omega), cond_false]
  have hr := nodeRest_of n.Id n.Kind n.Box n.Text n.Class n.Parent n.Locked
  have hp : placeW n = if n.Kind = 6 then [] else numsW (boxN n.Box) := rfl
  by_cases h6 : n.Kind = 6
  · rw [hp, if_pos h6, decide_eq_true h6, Bool.not_true, cond_false, bindR_nx]
    have hz := h.zero h6
    rw [hz] at hr
    refine Eq.trans hr ?_
    rw [← hz]
  · rw [hp, if_neg h6, decide_eq_false h6, Bool.not_false, cond_true, show (numsW (boxN n.Box)).map Str.mk = (boxN n.Box).map itoaS from List.map_map, numbers_of (k := 4) h.box (by show (4 : Nat) ≤ _; decide) _ rfl, Option.bind_some]
    simp only
    have hb : (boxN n.Box).length = 4 := rfl
    rw [Bool.not_true, cond_false, need_of ⟨by decide, by rw [hb]; decide⟩, need_of ⟨by decide, by rw [hb]; decide⟩, need_of ⟨by decide, by rw [hb]; decide⟩, need_of ⟨by decide, by rw [hb]; decide⟩, bnd_eq, bindR_nx]
    exact hr
/-- What readEdge does at the end. -/
noncomputable def edgeRest (m : DEdge) (w : Desk_words) : Option (DEdge × Bool) :=
  Option.bind (desk_words_option w (⟨[99, 108, 97, 115, 115]⟩ : Str)) fun r7 =>
  bnd ({ m with Class := r7.1 }) fun x5 =>
  some (x5, decide ((r7.2.l.length : Int) = 0))
theorem edgeRest_any (i : Str) (f t : DEnd) (p : List Point) (s : Str) (r : List Str) (hn : Str.nil ∉ r) : ∃ c ok, edgeRest ⟨i, f, t, p, s, Str.nil⟩ ⟨r⟩ = some (⟨i, f, t, p, s, c⟩, ok) ∧ (ok = true → r.map Str.b = optW wClass c ∧ (c = Str.nil ∨ c ∈ r)) := by
  unfold edgeRest
  rw [option_eq, Option.bind_some, bnd_eq]
  obtain ⟨a1, a2, a3⟩ := opt_any ⟨wClass⟩ r hn
  refine ⟨_, _, rfl, fun h => ⟨?_, a3⟩⟩
  have : (((opt (⟨wClass⟩ : Str) r).2.length : Nat) : Int) = 0 := of_decide_eq_true h
  have hz : (opt (⟨wClass⟩ : Str) r).2 = [] := List.length_eq_zero_iff.1 (by omega)
  rw [a1, hz, List.map_nil, List.append_nil]
theorem edgeRest_of (i : Str) (f t : DEnd) (p : List Point) (s c : Str) : edgeRest ⟨i, f, t, p, s, Str.nil⟩ ⟨(optW wClass c).map Str.mk⟩ = some (⟨i, f, t, p, s, c⟩, true) := by
  unfold edgeRest
  have o1 : opt ⟨wClass⟩ ((optW wClass c).map Str.mk) = (c, []) := by
    have := opt_of (w := ⟨wClass⟩) (v := c) (r := []) (fun a ha => by cases ha)
    rw [List.append_nil] at this
    exact this
  rw [option_eq, o1]; rfl
theorem many_loop (s : Str) (l : List Str) (hl : l.length ≤ 100000000) : ∃ m : Nat, m ≤ l.length ∧ loop (desk_readEdge_L1 (s, ⟨l⟩)) 0 = some (m : Int) ∧ (∀ (j : Nat) (hj : j < l.length), j < m → l[j] ≠ ⟨wClass⟩) ∧ (∀ hm : m < l.length, l[m] = ⟨wClass⟩) := by
  obtain ⟨r, h1, h2⟩ := loop_inv (body := desk_readEdge_L1 (s, ⟨l⟩)) (s0 := (0 : Int)) (fun i => 0 ≤ i ∧ i.toNat ≤ l.length ∧ ∀ (j : Nat) (hj : j < l.length), j < i.toNat → l[j] ≠ ⟨wClass⟩) (fun i => l.length - i.toNat)
    (fun r => 0 ≤ r ∧ r.toNat ≤ l.length ∧ (∀ (j : Nat) (hj : j < l.length), j < r.toNat → l[j] ≠ ⟨wClass⟩) ∧ ∀ hm : r.toNat < l.length, l[r.toNat] = ⟨wClass⟩) ⟨Int.le_refl 0, by simp, fun j _ hj => by simp at hj⟩ (fun i hI => by
      obtain ⟨i1, i2, i3⟩ := hI
      unfold desk_readEdge_L1
      have hlw : ((s, (⟨l⟩ : Desk_words)) : Str × Desk_words).2.l = l := rfl
      rw [hlw, need_of (fun h => ⟨i1, of_decide_eq_true h⟩)]
      by_cases c : i < (l.length : Int)
      · have hi : i.toNat < l.length := by omega
        have hg : gx l i = l[i.toNat] := gx_get ⟨i1, c⟩
        rw [decide_eq_true c, Bool.true_and, hg]
        by_cases d : l[i.toNat] = ⟨wClass⟩
        · rw [decide_eq_true d, Bool.not_true, cond_false]
          exact .inr ⟨i, rfl, i1, i2, i3, fun _ => d⟩
        · rw [decide_eq_false d, Bool.not_false, cond_true, bnd_eq, Wk (by omega) (by omega)]
          refine .inl ⟨i + 1, rfl, ⟨by omega, by omega, fun j hj hji => ?_⟩, by omega⟩
          by_cases e : j = i.toNat
          · subst e; exact d
          · exact i3 j hj (by omega)
      · rw [decide_eq_false c, Bool.false_and, cond_false]
        exact .inr ⟨i, rfl, i1, i2, i3, fun hm => by omega⟩)
  refine ⟨r.toNat, h2.2.1, ?_, h2.2.2.1, h2.2.2.2⟩
  rw [h1]; congr 1; have := h2.1; omega
theorem readEdge_any (a : Str) (l1 : List Str) (t : Str) (ha : a = ⟨wEdge⟩) (hn : Str.nil ∉ a :: l1) (hs : ∀ s ∈ l1, s.b.length ≤ 100000000) (hl : l1.length ≤ 100000000) (ht : t.b.length ≤ 100000000) :
    ∃ x ok, desk_readEdge (a :: l1) t = some (x, ok) ∧ (ok = true → edgeW x = (a :: l1).map Str.b ∧ x.Text = t ∧ fits x) := by
  obtain ⟨_, hn1⟩ := nn_of hn
  have hsg : seg (a :: l1) 1 (((a :: l1).length : Nat) : Int) = l1 := seg_drop (a :: l1) 1
  unfold desk_readEdge
  rw [bnd_eq, need_of ⟨by omega, by rw [List.length_cons]; omega, by omega⟩, bnd_eq, hsg]
  match l1, hn1, hs, hl with
  | [], _, _, _ =>
    rw [take_nil, Option.bind_some, bnd_eq]
    simp only [decide_true, Bool.true_or, cond_true]
    exact ⟨_, _, rfl, fun h => by cases h⟩
  | i :: l2, hn1, hs, hl =>
    obtain ⟨hi, hn2⟩ := nn_of hn1
    rw [take_cons, Option.bind_some, bnd_eq]
    simp only
    rw [decide_eq_false hi, Bool.false_or]
    by_cases h6 : l2.length < 6
    · rw [decide_eq_true (show ((l2.length : Nat) : Int) < 6 by omega), cond_true]
      exact ⟨_, _, rfl, fun h => by cases h⟩
    · rw [decide_eq_false (show ¬ ((l2.length : Nat) : Int) < 6 by omega), cond_false]
      obtain ⟨p1, p2, p3, q1, q2, q3, l3, rfl⟩ : ∃ p1 p2 p3 q1 q2 q3 l3, l2 = p1 :: p2 :: p3 :: q1 :: q2 :: q3 :: l3 := by
        match l2, h6 with
        | p1 :: p2 :: p3 :: q1 :: q2 :: q3 :: l3, _ => exact ⟨_, _, _, _, _, _, _, rfl⟩
        | [], h => exact absurd (by simp) h
        | [_], h => exact absurd (by simp) h
        | [_, _], h => exact absurd (by simp) h
        | [_, _, _], h => exact absurd (by simp) h
        | [_, _, _, _], h => exact absurd (by simp) h
        | [_, _, _, _, _], h => exact absurd (by simp) h
      have hl2 : (p1 :: p2 :: p3 :: q1 :: q2 :: q3 :: l3).length = l3.length + 6 := by simp only [List.length_cons]
      have s1 : seg (p1 :: p2 :: p3 :: q1 :: q2 :: q3 :: l3) 0 3 = [p1, p2, p3] := rfl
      have s2 : seg (p1 :: p2 :: p3 :: q1 :: q2 :: q3 :: l3) 3 6 = [q1, q2, q3] := rfl
      have s3 : seg (p1 :: p2 :: p3 :: q1 :: q2 :: q3 :: l3) 6 (((p1 :: p2 :: p3 :: q1 :: q2 :: q3 :: l3).length : Nat) : Int) = l3 := seg_drop _ 6
      have hsm : ∀ s ∈ p1 :: p2 :: p3 :: q1 :: q2 :: q3 :: l3, s.b.length ≤ 100000000 := fun s h => hs s (by simp only [List.mem_cons] at h ⊢; exact .inr h)
      obtain ⟨f, fo, f1, f2⟩ := ReadEnd_any p1 p2 p3 (Nat.le_trans (hsm p3 (by simp)) (by decide)) (fitS (hsm p1 (by simp)))
      obtain ⟨g, go, g1, g2⟩ := ReadEnd_any q1 q2 q3 (Nat.le_trans (hsm q3 (by simp)) (by decide)) (fitS (hsm q1 (by simp)))
      rw [need_of ⟨by omega, by omega, by omega⟩, s1, f1, Option.bind_some, need_of ⟨by omega, by omega, by omega⟩, s2, g1, Option.bind_some, bnd_eq, need_of ⟨by omega, by omega, by omega⟩, s3, bnd_eq, bnd_eq]
      cases hfo : fo with
      | false => exact ⟨_, _, rfl, fun h => by cases h⟩
      | true =>
        cases hgo : go with
        | false => exact ⟨_, _, rfl, fun h => by cases h⟩
        | true =>
          obtain ⟨f3, f4⟩ := f2 hfo
          obtain ⟨g3, g4⟩ := g2 hgo
          have hn3 : Str.nil ∉ l3 := fun h => hn2 (by simp [h])
          have hs3 : ∀ s ∈ l3, s.b.length ≤ 100000000 := fun s h => hsm s (by simp [h])
          have hl3 : l3.length ≤ 100000000 := by simp only [List.length_cons] at hl; omega
          have fin : ∀ (p : List Point) (r : List Str), (∀ s ∈ r, s ∈ l3) → fits p → bendW p ++ r.map Str.b = l3.map Str.b → ∃ x ok, edgeRest ⟨i, f, g, p, t, Str.nil⟩ ⟨r⟩ = some (x, ok) ∧ (ok = true → edgeW x = (a :: i :: p1 :: p2 :: p3 :: q1 :: q2 :: q3 :: l3).map Str.b ∧ x.Text = t ∧ fits x) := by
            intro p r hr hp he
            obtain ⟨c, ok, e1, e2⟩ := edgeRest_any i f g p t r (fun h => hn3 (hr _ h))
            refine ⟨_, _, e1, fun h => ?_⟩
            obtain ⟨c1, c2⟩ := e2 h
            have fc : fits c := by
              rcases c2 with rfl | h
              · exact fitS (by decide)
              · exact fitS (hs3 _ (hr _ h))
            refine ⟨?_, rfl, fitS (hs i (by simp)), f4, g4, hp, fitS ht, fc⟩
            show wEdge :: i.b :: (endW f ++ (endW g ++ (bendW p ++ optW wClass c))) = _
            rw [← c1, he, f3, g3, ha]; rfl
          simp only
          rw [Bool.not_true, Bool.or_self, cond_false]
          cases l3 with
          | nil =>
            rw [need_of (fun h => absurd (of_decide_eq_true h) (by decide))]
            exact fin [] [] (fun s h => h) ⟨by decide, fun x hx => by cases hx⟩ rfl
          | cons b l4 =>
            have hg : gx (b :: l4) 0 = b := rfl
            have hlp : (0 : Int) < (((b :: l4).length : Nat) : Int) := by rw [List.length_cons]; omega
            rw [need_of (fun _ => ⟨by omega, hlp⟩), decide_eq_true hlp, Bool.true_and, hg]
            by_cases hb : b = ⟨[98, 121]⟩
            · rw [decide_eq_true hb, cond_true, take_cons, Option.bind_some]
              have hl4 : l4.length ≤ 100000000 := by simp only [List.length_cons] at hl3; omega
              obtain ⟨m, m1, m2, m3, m4⟩ := many_loop b l4 hl4
              rw [m2, Option.bind_some]
              simp only
              obtain ⟨ns, ok, l', e1, e2⟩ := numbers_any l4 (fun s h => Nat.le_trans (hs3 s (by simp [h])) (by decide)) hl4 m
              rw [e1, Option.bind_some]
              cases hok : ok with
              | false => exact ⟨_, _, rfl, fun h => by cases h⟩
              | true =>
                obtain ⟨w1, w2, w3, w4⟩ := e2 hok
                have hlen : ns.length = m := by
                  have := congrArg List.length w2
                  unfold numsW at this
                  rw [List.length_map, List.length_map, List.length_take] at this
                  omega
                obtain ⟨pp, po, z1, z2⟩ := Points_any ns (by omega)
                simp only
                rw [Bool.not_true, cond_false, z1, Option.bind_some, bnd_eq]
                cases hpo : po with
                | false => exact ⟨_, _, rfl, fun h => by cases h⟩
                | true =>
                  obtain ⟨z3, z4⟩ := z2 hpo
                  simp only
                  rw [Bool.not_true, cond_false, bindR_nx, w4]
                  refine fin pp (l4.drop m) (fun s h => by simp [List.mem_of_mem_drop h]) ⟨?_, fun p hp => ?_⟩ ?_
                  · have := coords_len pp
                    rw [z3] at this
                    omega
                  · have hx : ∀ v ∈ [p.X, p.Y], InI v := fun v hv => w3 v (by rw [← z3]; exact List.mem_flatMap.2 ⟨p, hp, hv⟩)
                    exact ⟨hx _ (by simp), hx _ (by simp)⟩
                  · unfold bendW
                    rw [if_neg z4, z3, w2, hb, List.map_cons, List.cons_append, ← List.map_append, List.take_append_drop]
            · rw [decide_eq_false hb, cond_false, bindR_nx]
              exact fin [] (b :: l4) (fun s h => h) ⟨by decide, fun x hx => by cases hx⟩ rfl
theorem itoaS_ne (n : Int) : itoaS n ≠ ⟨wClass⟩ := fun e => by
  have e : Go.Lib.itoa n = wClass := congrArg Str.b e
  have hm : (99 : UInt8) ∈ Go.Lib.itoa n := by rw [e]; decide
  rcases itoa_mem hm with h | h
  · exact absurd h (by decide)
  · exact absurd h (by decide)
theorem many_of {s : Str} {ns : List Int} {c : Str} (hl : ns.length ≤ 1000000) : loop (desk_readEdge_L1 (s, ⟨ns.map itoaS ++ (optW wClass c).map Str.mk⟩)) 0 = some (ns.length : Int) := by
  have ho : (optW wClass c).length ≤ 2 := opt_len wClass c
  have hlen : (ns.map itoaS ++ (optW wClass c).map Str.mk).length = ns.length + (optW wClass c).length := by rw [List.length_append, List.length_map, List.length_map]
  obtain ⟨m, m1, m2, m3, m4⟩ := many_loop s (ns.map itoaS ++ (optW wClass c).map Str.mk) (by omega)
  rw [m2]
  congr 2
  rcases Nat.lt_trichotomy m ns.length with h | h | h
  · exfalso
    have h4 := m4 (by omega)
    rw [List.getElem_append_left (by rw [List.length_map]; exact h), List.getElem_map] at h4
    exact itoaS_ne _ h4
  · exact h
  · exfalso
    have hlt : ns.length < (ns.map itoaS ++ (optW wClass c).map Str.mk).length := by omega
    refine m3 ns.length hlt h ?_
    rw [List.getElem_append_right (by rw [List.length_map]; exact Nat.le_refl _)]
    have hpos : 0 < (optW wClass c).length := by omega
    by_cases hc : c = Str.nil
    · unfold optW at hpos
      rw [if_pos hc] at hpos
      exact absurd hpos (by decide)
    · have ew : (optW wClass c).map Str.mk = [⟨wClass⟩, ⟨c.b⟩] := by unfold optW; rw [if_neg hc]; rfl
      simp only [ew, List.length_map, Nat.sub_self, List.getElem_cons_zero]
theorem readEdge_of {x : DEdge} (h : EdgeT x) : desk_readEdge ((edgeW x).map Str.mk) x.Text = some (x, true) := by
  have hi : ¬ x.Id = Str.nil := nameB_ne h.id
  have e : (edgeW x).map Str.mk = ⟨wEdge⟩ :: x.Id :: x.From.Node :: gx sidesL x.From.Side :: itoaS x.From.At :: x.To.Node :: gx sidesL x.To.Side :: itoaS x.To.At :: ((bendW x.Bends).map Str.mk ++ (optW wClass x.Class).map Str.mk) := by
    unfold edgeW endW
    simp only [List.map_cons, List.cons_append, List.nil_append, List.map_append]; rfl
  have hfr := edgeRest_of x.Id x.From x.To x.Bends x.Text x.Class
  rw [e]
  generalize hR : (bendW x.Bends).map Str.mk ++ (optW wClass x.Class).map Str.mk = R
  unfold desk_readEdge
  generalize hL : x.From.Node :: gx sidesL x.From.Side :: itoaS x.From.At :: x.To.Node :: gx sidesL x.To.Side :: itoaS x.To.At :: R = L
  have hl2 : L.length = R.length + 6 := by rw [← hL]; simp only [List.length_cons]
  have s1 : seg L 0 3 = (endW x.From).map Str.mk := by rw [← hL]; rfl
  have s2 : seg L 3 6 = (endW x.To).map Str.mk := by rw [← hL]; rfl
  have s3 : seg L 6 ((L.length : Nat) : Int) = R := by rw [← hL]; exact seg_drop _ 6
  have hsg : seg ((⟨wEdge⟩ : Str) :: x.Id :: L) 1 ((((⟨wEdge⟩ : Str) :: x.Id :: L).length : Nat) : Int) = x.Id :: L := seg_drop _ 1
  rw [bnd_eq, need_of ⟨by omega, by rw [List.length_cons]; omega, by omega⟩, bnd_eq, hsg, take_cons, Option.bind_some, bnd_eq]
  simp only
  rw [decide_eq_false hi, Bool.false_or, decide_eq_false (show ¬ ((L.length : Nat) : Int) < 6 by omega), cond_false, need_of ⟨by omega, by omega, by omega⟩, s1, ReadEnd_of h.from_, Option.bind_some,
    need_of ⟨by omega, by omega, by omega⟩, s2, ReadEnd_of h.to_, Option.bind_some, bnd_eq, need_of ⟨by omega, by omega, by omega⟩, s3, bnd_eq, bnd_eq]
  simp only
  rw [Bool.not_true, Bool.or_self, cond_false]
  by_cases hb : x.Bends = []
  · have hR2 : R = (optW wClass x.Class).map Str.mk := by rw [← hR]; unfold bendW; rw [if_pos hb]; rfl
    have hg : (decide (0 < ((R.length : Nat) : Int)) && decide (gx R 0 = (⟨[98, 121]⟩ : Str))) = false := by
      rw [hR2]
      unfold optW
      split
      · rfl
      · rw [Bool.and_eq_false_iff]
        exact .inr (decide_eq_false fun e => by
          have e : (⟨wClass⟩ : Str) = ⟨[98, 121]⟩ := e
          exact absurd (congrArg Str.b e) (by decide))
    rw [need_of (fun h => ⟨by omega, of_decide_eq_true h⟩), hg, cond_false, bindR_nx, hR2]
    rw [hb] at hfr
    refine Eq.trans hfr ?_
    rw [← hb]
  · have hR2 : R = ⟨wBy⟩ :: ((coords x.Bends).map itoaS ++ (optW wClass x.Class).map Str.mk) := by
      rw [← hR]; unfold bendW numsW; rw [if_neg hb, List.map_cons, List.map_map]; rfl
    have hcl := coords_len x.Bends
    have hfew := h.few
    have hlp : (0 : Int) < (((⟨wBy⟩ :: ((coords x.Bends).map itoaS ++ (optW wClass x.Class).map Str.mk) : List Str).length : Nat) : Int) := by rw [List.length_cons]; omega
    have hg : gx (⟨wBy⟩ :: ((coords x.Bends).map itoaS ++ (optW wClass x.Class).map Str.mk)) 0 = ⟨wBy⟩ := rfl
    rw [hR2, need_of (fun _ => ⟨by omega, hlp⟩), decide_eq_true hlp, Bool.true_and, hg, decide_eq_true rfl, cond_true, take_cons, Option.bind_some, many_of (by omega), Option.bind_some]
    simp only
    rw [numbers_of h.bends (by omega) _ rfl, Option.bind_some]
    simp only
    rw [Bool.not_true, cond_false, Points_of hb (by omega), Option.bind_some, bnd_eq]
    simp only
    rw [Bool.not_true, cond_false, bindR_nx]
    exact hfr
/-- Words with a blank ahead of each. -/
def spB : List (List UInt8) → List UInt8
  | [] => []
  | w :: l => 32 :: (w ++ spB l)
theorem sp_append : ∀ (a b : List (List UInt8)), spB (a ++ b) = spB a ++ spB b
  | [], _ => rfl
  | w :: a, b => by rw [List.cons_append, spB, spB, sp_append a b]; simp
theorem join_sp : ∀ (w : List UInt8) (l : List (List UInt8)), joinC 32 (w :: l) = w ++ spB l
  | w, [] => by simp [joinC, spB]
  | w, a :: l => by rw [joinC, join_sp a l, spB]
theorem sp_len : ∀ {ws : List (List UInt8)}, Short ws → (spB ws).length ≤ ws.length * 41
  | [], _ => by simp [spB]
  | w :: l, h => by
    have h1 := (h w (by simp)).2
    have h2 := sp_len (ws := l) (fun x hx => h x (by simp [hx]))
    rw [spB, List.length_cons, List.length_append, List.length_cons]; omega
theorem sp_opt (w : List UInt8) (c : Str) : spB (optW w c) = if c = Str.nil then [] else (32 :: (w ++ [32])) ++ c.b := by
  unfold optW
  split
  · rfl
  · simp [spB]
theorem sp_opt_len {w : List UInt8} {c : Str} (hw : w.length ≤ 40) (hc : c.b.length ≤ 40) : (spB (optW w c)).length ≤ 90 := by
  rw [sp_opt]
  split
  · simp
  · simp only [List.length_append, List.length_cons, List.length_nil]; omega
theorem sp_lock (b : Bool) : spB (lockW b) = if b = true then [32, 108, 111, 99, 107, 101, 100] else [] := by cases b <;> rfl
theorem sp_lock_len (b : Bool) : (spB (lockW b)).length ≤ 7 := by cases b <;> decide
theorem sp_nums : ∀ {l : List Int}, l ≠ [] → spB (numsW l) = 32 :: numsB l
  | [], h => absurd rfl h
  | n :: l, _ => by
    unfold numsW numsB
    rw [List.map_cons, join_sp, spB]

/-! Parts of lines. -/

theorem addOpt {c s l : Str} (h : s.b.length + l.b.length + c.b.length ≤ 1000000000) : (bif !decide (c = Str.nil) then (
    need ((l.b.length : Int) + c.b.length ≤ 9223372036854775807) <|
    need ((s.b.length : Int) + (⟨l.b ++ c.b⟩ : Str).b.length ≤ 9223372036854775807) <|
    bnd ((⟨s.b ++ (⟨l.b ++ c.b⟩ : Str).b⟩ : Str)) fun s1 => some s1)
   else (some s)) = some (⟨s.b ++ (if c = Str.nil then [] else l.b ++ c.b)⟩ : Str) := by
  by_cases hc : c = Str.nil
  · rw [decide_eq_true hc, if_pos hc, List.append_nil]; rfl
  · rw [decide_eq_false hc, if_neg hc, Bool.not_false, cond_true, need_of (by omega), need_of (by simp only [List.length_append]; omega), bnd_eq]
theorem addLock {b : Bool} {s l : Str} (h : s.b.length + l.b.length ≤ 1000000000) : (bif b then (
    need ((s.b.length : Int) + l.b.length ≤ 9223372036854775807) <|
    bnd ((⟨s.b ++ l.b⟩ : Str)) fun s1 => some s1)
   else (some s)) = some (⟨s.b ++ (if b = true then l.b else [])⟩ : Str) := by
  cases b with
  | false => rw [cond_false, if_neg (by decide), List.append_nil]
  | true => rw [cond_true, if_pos rfl, need_of (by omega), bnd_eq]
theorem addText {t s : Str} {q : Str → Option Str} (hq : q t = some (quoteS t)) (h : s.b.length + 2 * t.b.length ≤ 1000000000) : (bif !decide (t = Str.nil) then (
    Option.bind (q t) fun r1 =>
    need (((⟨[32]⟩ : Str).b.length : Int) + r1.b.length ≤ 9223372036854775807) <|
    need ((s.b.length : Int) + (⟨(⟨[32]⟩ : Str).b ++ r1.b⟩ : Str).b.length ≤ 9223372036854775807) <|
    bnd ((⟨s.b ++ (⟨(⟨[32]⟩ : Str).b ++ r1.b⟩ : Str).b⟩ : Str)) fun s4 => some s4)
   else (some s)) = some (⟨s.b ++ qB t⟩ : Str) := by
  have hl := quote_len t
  unfold qB
  by_cases hc : t = Str.nil
  · rw [decide_eq_true hc, if_pos hc, List.append_nil]; rfl
  · rw [decide_eq_false hc, if_neg hc, Bool.not_false, cond_true, hq, Option.bind_some, need_of (by simp only [List.length_cons, List.length_nil]; omega), need_of (by simp only [List.length_append, List.length_cons, List.length_nil]; omega), bnd_eq]
    rfl
theorem Quoted_ok {t : Str} (h : t.b.length ≤ 1000) : edit_Quoted t = some (quoteS t) := by unfold edit_Quoted; exact need_of (by omega)
theorem Quote_ok {t : Str} (h : t.b.length ≤ 1000) : ref_Quote t = some (quoteS t) := by unfold ref_Quote; exact need_of (by omega)
def tailB (c p : Str) (lk : Bool) (t : Str) : List UInt8 := spB (optW wClass c) ++ (spB (optW wIn p) ++ (spB (lockW lk) ++ qB t))
theorem tailB_len {c p t : Str} {lk : Bool} (hc : c.b.length ≤ 40) (hp : p.b.length ≤ 40) (ht : t.b.length ≤ 1000) : (tailB c p lk t).length ≤ 2300 := by
  have h1 := sp_opt_len (w := wClass) (by decide) hc
  have h2 := sp_opt_len (w := wIn) (by decide) hp
  have h3 := sp_lock_len lk
  have h4 := qB_len ht
  unfold tailB
  simp only [List.length_append]; omega
theorem tail_eq {c p t : Str} {lk : Bool} (hc : c.b.length ≤ 40) (hp : p.b.length ≤ 40) (ht : t.b.length ≤ 1000) : desk_tail c p lk t = some ⟨tailB c p lk t⟩ := by
  have h1 := sp_opt_len (w := wClass) (by decide) hc
  have h2 := sp_opt_len (w := wIn) (by decide) hp
  have h3 := sp_lock_len lk
  unfold desk_tail
  rw [addOpt (by show 0 + 7 + _ ≤ _; omega), Option.bind_some]
  rw [show (⟨Str.nil.b ++ (if c = Str.nil then [] else (⟨[32, 99, 108, 97, 115, 115, 32]⟩ : Str).b ++ c.b)⟩ : Str) = ⟨spB (optW wClass c)⟩ by rw [sp_opt]; rfl]
  rw [addOpt (by show (spB (optW wClass c)).length + 4 + _ ≤ _; omega), Option.bind_some]
  rw [show (if p = Str.nil then [] else (⟨[32, 105, 110, 32]⟩ : Str).b ++ p.b) = spB (optW wIn p) by rw [sp_opt]; rfl]
  rw [addLock (by show (spB (optW wClass c) ++ spB (optW wIn p)).length + 7 ≤ _; rw [List.length_append]; omega), Option.bind_some]
  rw [show (if lk = true then (⟨[32, 108, 111, 99, 107, 101, 100]⟩ : Str).b else []) = spB (lockW lk) by rw [sp_lock]]
  rw [addText (q := edit_Quoted) (Quoted_ok ht) (by simp only [List.length_append]; omega), Option.bind_some]
  unfold tailB
  simp only [List.append_assoc]
theorem ltail_eq {c t : Str} (hc : c.b.length ≤ 40) (ht : t.b.length ≤ 1000) : law_tail c t = some ⟨tailB c Str.nil false t⟩ := by
  have h1 := sp_opt_len (w := wClass) (by decide) hc
  unfold law_tail
  rw [addOpt (by show 0 + 7 + _ ≤ _; omega), Option.bind_some]
  rw [show (⟨Str.nil.b ++ (if c = Str.nil then [] else (⟨[32, 99, 108, 97, 115, 115, 32]⟩ : Str).b ++ c.b)⟩ : Str) = ⟨spB (optW wClass c)⟩ by rw [sp_opt]; rfl]
  rw [addText (q := ref_Quote) (Quote_ok ht) (by show (spB (optW wClass c)).length + _ ≤ _; omega), Option.bind_some]
  rfl
theorem nodeB_eq (n : DNode) : nodeB n = (gx kindsL n.Kind).b ++ (32 :: (n.Id.b ++ (spB (placeW n) ++ tailB n.Class n.Parent n.Locked n.Text))) := by
  unfold nodeB lineW nodeW tailB
  rw [join_sp, spB]
  simp only [sp_append, List.append_assoc, List.cons_append]
theorem edgeB_eq (x : DEdge) : edgeB x = wEdge ++ (32 :: (x.Id.b ++ (spB (endW x.From) ++ (spB (endW x.To) ++ (spB (bendW x.Bends) ++ tailB x.Class Str.nil false x.Text))))) := by
  unfold edgeB lineW edgeW tailB
  rw [join_sp, spB]
  simp only [sp_append, List.append_assoc, List.cons_append, optW, lockW, spB, cond_false, if_true, List.nil_append]
theorem place_sp_len {n : DNode} (h : NodeT n) : (spB (placeW n)).length ≤ 200 := by
  have hs : Short (placeW n) := by
    unfold placeW
    split
    · exact short_nil
    · exact short_nums h.box
  have h1 := sp_len hs
  have h2 := place_len n
  omega
theorem cls_len {s : Str} (h : s = Str.nil ∨ nameB s = true) : s.b.length ≤ 40 := by
  rcases h with rfl | h
  · decide
  · exact nameB_len h
theorem kind_in {k : Int} (h1 : 1 ≤ k) (h2 : k ≤ 6) : inR kindsL k := ⟨by omega, by show k < 7; omega⟩
theorem box_InI {n : DNode} (h : NodeT n) : ∀ v ∈ boxN n.Box, InI v := fun v hv => by have := h.box v hv; unfold InI; omega
theorem nodeLine_eq {n : DNode} (h : NodeT n) : desk_nodeLine n = some ⟨nodeB n⟩ := by
  have hk := (kind_word h.k1 h.k2).2
  have hid := nameB_len h.id
  have hp := place_sp_len h
  have hc := cls_len h.cls
  have hpa := cls_len h.par
  have ht := tailB_len (lk := n.Locked) hc hpa h.text
  unfold desk_nodeLine
  rw [show edit_KindWords = some kindsL from rfl, Option.bind_some, need_of (kind_in h.k1 h.k2), need_of (by simp only [List.length_cons, List.length_nil]; omega), need_of (by simp only [List.length_append, List.length_cons, List.length_nil]; omega), bnd_eq, tail_eq hc hpa h.text]
  rw [nodeB_eq]
  unfold placeW at hp ⊢
  by_cases h6 : n.Kind = 6
  · rw [decide_eq_true h6, Bool.not_true, cond_false, Option.bind_some, Option.bind_some, if_pos h6, need_of (by simp only [List.length_append, List.length_cons, List.length_nil]; omega)]
    simp [spB]
  · have hn := Numbers_eq (l := boxN n.Box) (by show (4 : Nat) ≤ _; decide) (box_InI h)
    have hsp := sp_nums (l := boxN n.Box) (by unfold boxN; simp)
    rw [if_neg h6, hsp] at hp ⊢
    rw [List.length_cons] at hp
    rw [decide_eq_false h6, Bool.not_false, cond_true, show edit_Numbers [n.Box.X, n.Box.Y, n.Box.W_, n.Box.H] = _ from hn, Option.bind_some, need_of (by simp only [List.length_cons, List.length_nil]; omega), need_of (by simp only [List.length_append, List.length_cons, List.length_nil]; omega), bnd_eq,
      Option.bind_some, Option.bind_some, need_of (by simp only [List.length_append, List.length_cons, List.length_nil]; omega)]
    simp
theorem KindWord_eq {k : Int} (h1 : 1 ≤ k) (h2 : k ≤ 6) : ref_KindWord k = some (gx kindsL k) := by
  unfold ref_KindWord
  have hf : strings_Fields (⟨[98, 111, 120, 32, 114, 111, 117, 110, 100, 32, 111, 118, 97, 108, 32, 100, 105, 97, 109, 111, 110, 100, 32, 110, 111, 116, 101, 32, 103, 114, 111, 117, 112]⟩ : Str) = some kindsL.tail := by
    unfold strings_Fields
    rw [show fieldsS (⟨[98, 111, 120, 32, 114, 111, 117, 110, 100, 32, 111, 118, 97, 108, 32, 100, 105, 97, 109, 111, 110, 100, 32, 110, 111, 116, 101, 32, 103, 114, 111, 117, 112]⟩ : Str) = kindsL.tail by decide]
    exact need_of (by decide)
  rw [hf, Option.bind_some]
  rw [Wk (by omega) (by omega)]
  rcases kind_cases h1 h2 with rfl | rfl | rfl | rfl | rfl | rfl <;> exact (need_of (c := inR kindsL.tail _) ⟨by decide, by decide⟩).trans rfl
theorem SideWord_eq {k : Int} (h1 : 1 ≤ k) (h2 : k ≤ 4) : ref_SideWord k = some (gx sidesL k) := by
  unfold ref_SideWord
  have hf : strings_Fields (⟨[117, 112, 32, 114, 105, 103, 104, 116, 32, 100, 111, 119, 110, 32, 108, 101, 102, 116]⟩ : Str) = some sidesL.tail := by
    unfold strings_Fields
    rw [show fieldsS (⟨[117, 112, 32, 114, 105, 103, 104, 116, 32, 100, 111, 119, 110, 32, 108, 101, 102, 116]⟩ : Str) = sidesL.tail by decide]
    exact need_of (by decide)
  rw [hf, Option.bind_some]
  rw [Wk (by omega) (by omega)]
  rcases side_cases h1 h2 with rfl | rfl | rfl | rfl <;> exact (need_of (c := inR sidesL.tail _) ⟨by decide, by decide⟩).trans rfl
theorem ints_eq {l : List Int} (h : ∀ v ∈ l, InI v) (hl : l.length ≤ 1000000) : law_ints l = some ⟨spB (numsW l)⟩ := by
  unfold law_ints
  obtain ⟨s, h1, h2⟩ := rfor_inv (n := (l.length : Int)) (step := law_ints_L1 l) (s0 := Str.nil) (fun i s => s = ⟨spB (numsW (l.take i))⟩ ∧ s.b.length ≤ 22 * i) (by omega) ⟨rfl, Nat.le_refl 0⟩ (fun i s hi hI => by
    have hi' : i < l.length := by omega
    have hin := h l[i] (List.getElem_mem hi')
    have hle := itoa_le hin
    obtain ⟨i1, i2⟩ := hI
    refine ⟨_, ?_, rfl, ?_⟩
    · unfold law_ints_L1
      rw [need_of ⟨by omega, by omega⟩, gx_nat hi', Itoa_eq hin, Option.bind_some, need_of (by simp only [itoaS, List.length_cons, List.length_nil]; omega),
        need_of (by simp only [itoaS, List.length_append, List.length_cons, List.length_nil]; omega), bnd_eq, i1, List.take_succ_eq_append_getElem hi']
      unfold numsW
      rw [List.map_append, sp_append]
      simp [spB, itoaS]
    · have : (spB (numsW (l.take (i + 1)))).length = s.b.length + 1 + (Go.Lib.itoa l[i]).length := by
        rw [List.take_succ_eq_append_getElem hi', i1]
        unfold numsW
        rw [List.map_append, sp_append, List.length_append]
        simp [spB]; omega
      show (spB (numsW (l.take (i + 1)))).length ≤ _
      omega)
  rw [h1, h2.1]; simp
theorem lnodeLine_eq {n : DNode} (h : NodeT n) : law_nodeLine n = some ⟨nodeB n⟩ := by
  have hk := (kind_word h.k1 h.k2).2
  have hid := nameB_len h.id
  have hp := place_sp_len h
  have hc := cls_len h.cls
  have hpa := cls_len h.par
  have ht1 := ltail_eq (t := Str.nil) hc (by decide)
  have ht2 := ltail_eq (c := Str.nil) (by decide) h.text
  have e1 : tailB n.Class Str.nil false Str.nil = spB (optW wClass n.Class) := by
    unfold tailB qB
    rw [if_pos rfl]
    simp [optW, lockW, spB]
  have e2 : tailB Str.nil Str.nil false n.Text = qB n.Text := by
    unfold tailB
    simp [optW, lockW, spB]
  rw [e1] at ht1
  rw [e2] at ht2
  have l1 := sp_opt_len (w := wClass) (by decide) hc
  have l2 := sp_opt_len (w := wIn) (by decide) hpa
  have l3 := sp_lock_len n.Locked
  have l4 := qB_len h.text
  -- what is behind the place
  have rest : ∀ s : Str, s.b.length ≤ 1000 → (Option.bind (law_tail n.Class Str.nil) fun r3 =>
     need ((s.b.length : Int) + r3.b.length ≤ 9223372036854775807) <|
     bnd ((⟨s.b ++ r3.b⟩ : Str)) fun s3 =>
     Option.bind (α := Str) (
      bif !decide (n.Parent = Str.nil) then (
       need (((⟨[32, 105, 110, 32]⟩ : Str).b.length : Int) + n.Parent.b.length ≤ 9223372036854775807) <|
       need ((s3.b.length : Int) + (⟨(⟨[32, 105, 110, 32]⟩ : Str).b ++ n.Parent.b⟩ : Str).b.length ≤ 9223372036854775807) <|
       bnd ((⟨s3.b ++ (⟨(⟨[32, 105, 110, 32]⟩ : Str).b ++ n.Parent.b⟩ : Str).b⟩ : Str)) fun s4 =>
       some s4)
      else (
       some s3)) fun j_13 =>
     Option.bind (α := Str) (
      bif n.Locked then (
       need ((j_13.b.length : Int) + (⟨[32, 108, 111, 99, 107, 101, 100]⟩ : Str).b.length ≤ 9223372036854775807) <|
       bnd ((⟨j_13.b ++ (⟨[32, 108, 111, 99, 107, 101, 100]⟩ : Str).b⟩ : Str)) fun s5 =>
       some s5)
      else (
       some j_13)) fun j_18 =>
     Option.bind (law_tail Str.nil n.Text) fun r4 =>
     need ((j_18.b.length : Int) + r4.b.length ≤ 9223372036854775807) <|
     some (⟨j_18.b ++ r4.b⟩ : Str)) = some ⟨s.b ++ tailB n.Class n.Parent n.Locked n.Text⟩ := by
    intro s hs
    rw [ht1, Option.bind_some, need_of (by show ((s.b.length : Nat) : Int) + (((spB (optW wClass n.Class)).length : Nat) : Int) ≤ _; omega), bnd_eq]
    rw [addOpt (by show (s.b ++ spB (optW wClass n.Class)).length + 4 + _ ≤ _; rw [List.length_append]; omega), Option.bind_some]
    rw [show (if n.Parent = Str.nil then [] else (⟨[32, 105, 110, 32]⟩ : Str).b ++ n.Parent.b) = spB (optW wIn n.Parent) by rw [sp_opt]; rfl]
    rw [addLock (by show (s.b ++ spB (optW wClass n.Class) ++ spB (optW wIn n.Parent)).length + 7 ≤ _; rw [List.length_append, List.length_append]; omega), Option.bind_some]
    rw [show (if n.Locked = true then (⟨[32, 108, 111, 99, 107, 101, 100]⟩ : Str).b else []) = spB (lockW n.Locked) by rw [sp_lock]]
    rw [ht2, Option.bind_some, need_of (by simp only [List.length_append]; omega)]
    unfold tailB
    simp only [List.append_assoc]
  unfold law_nodeLine
  rw [KindWord_eq h.k1 h.k2, Option.bind_some, need_of (by simp only [List.length_cons, List.length_nil]; omega), need_of (by simp only [List.length_append, List.length_cons, List.length_nil]; omega), bnd_eq]
  rw [nodeB_eq]
  unfold placeW at hp ⊢
  by_cases h6 : n.Kind = 6
  · rw [decide_eq_true h6, Bool.not_true, cond_false, Option.bind_some, if_pos h6, rest _ (by simp only [List.length_append, List.length_cons, List.length_nil]; omega)]
    simp [spB]
  · have hn := ints_eq (l := boxN n.Box) (box_InI h) (by show (4 : Nat) ≤ _; decide)
    rw [if_neg h6] at hp ⊢
    rw [decide_eq_false h6, Bool.not_false, cond_true, show law_ints [n.Box.X, n.Box.Y, n.Box.W_, n.Box.H] = _ from hn, Option.bind_some, need_of (by simp only [List.length_append, List.length_cons, List.length_nil]; omega), bnd_eq, Option.bind_some, rest _ (by simp only [List.length_append, List.length_cons, List.length_nil]; omega)]
    simp
end Go.DB
