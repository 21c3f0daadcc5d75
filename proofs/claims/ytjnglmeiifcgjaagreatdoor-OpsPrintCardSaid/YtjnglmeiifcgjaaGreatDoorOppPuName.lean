/-
  Names: what they are.
-/
import Derived.Test.YtjnglmeiifcgjaaGreatDoorOppPuRef
import Derived.Test.YtjnglmeiifcgjaaGreatDoorExTrim
set_option linter.unusedSimpArgs false
set_option linter.unusedVariables false
namespace Go.DB
open Go Go.RowKit

/-! Loops. -/

/-- A loop that gathers, however much. -/
theorem rfor_gatherN (N : Nat) (hN : N ≤ 4611686018427387904) {α β : Type} [Inhabited α] {l : List α} {step : Int → List β → Option (List β)} (g : α → List β) (s0 : List β) (hg : ∀ a ∈ l, (g a).length ≤ 1) (hl : s0.length + l.length ≤ N)
    (hf : ∀ i s, inR l i → s.length < N → step i s = some (s ++ g (gx l i))) : rfor (l.length : Int) step s0 = some (s0 ++ l.flatMap g) := by
  obtain ⟨s, h1, h2⟩ := rfor_inv (n := (l.length : Int)) (step := step) (s0 := s0) (fun i s => s = s0 ++ (l.take i).flatMap g ∧ s.length ≤ s0.length + i) (by omega) (by simp) (fun i s hi hI => by
    have hi' : i < l.length := by omega
    refine ⟨_, hf i s ⟨by omega, by omega⟩ (by omega), ?_, ?_⟩
    · rw [gx_nat hi', hI.1, List.take_succ_eq_append_getElem hi', List.flatMap_append, List.append_assoc]; simp
    · rw [gx_nat hi', List.length_append]
      have := hg _ (List.getElem_mem hi')
      omega)
  rw [h1, h2.1]; simp

/-- A loop that gathers. -/
theorem rfor_gather {α β : Type} [Inhabited α] {l : List α} {step : Int → List β → Option (List β)} (g : α → List β) (s0 : List β) (hg : ∀ a ∈ l, (g a).length ≤ 1) (hl : s0.length + l.length ≤ 1073741824)
    (hf : ∀ i s, inR l i → (s.length : Int) < 1073741824 → step i s = some (s ++ g (gx l i))) : rfor (l.length : Int) step s0 = some (s0 ++ l.flatMap g) :=
  rfor_gatherN 1073741824 (by omega) g s0 hg hl (fun i s hi hs => hf i s hi (by omega))

/-- A loop whose state is told by the place; it looks for an error. -/
theorem rforE_errS {σ O : Type} {n : Nat} {step : Int → σ → Option (Res σ O)} {fin : σ → O} (S : Nat → σ) (err : Nat → Int) (mk : Int → O) (hn : (n : Int) ≤ 9223372036854775807)
    (hf : ∀ i : Nat, i < n → (∀ j, j < i → err j = 0) → step i (S i) = some (if err i = 0 then .nx (S (i + 1)) else .ab (mk (err i)))) :
    rforE (n : Int) step fin (S 0) = some (if firstErr ((List.range n).map err) = 0 then fin (S n) else mk (firstErr ((List.range n).map err))) := by
  have hfe : ∀ (k i : Nat), firstErr ((List.range' i k).map err) = 0 ∨ ∃ j, i ≤ j ∧ j < i + k ∧ (∀ q, i ≤ q → q < j → err q = 0) ∧ err j ≠ 0 ∧ firstErr ((List.range' i k).map err) = err j := by
    intro k
    induction k with
    | zero => intro i; left; rfl
    | succ k ih =>
      intro i
      rw [List.range'_succ, List.map_cons, firstErr_cons]
      by_cases h : err i = 0
      · rw [if_pos h]
        rcases ih (i + 1) with h1 | ⟨j, h1, h2, h3, h4, h5⟩
        · exact .inl h1
        · refine .inr ⟨j, by omega, by omega, fun q q1 q2 => ?_, h4, h5⟩
          by_cases hq : q = i
          · rw [hq]; exact h
          · exact h3 q (by omega) q2
      · rw [if_neg h]
        exact .inr ⟨i, Nat.le_refl _, by omega, fun q q1 q2 => by omega, h, rfl⟩
  obtain ⟨e, h1, h2⟩ := rforE_inv (n := (n : Int)) (step := step) (fin := fin) (s0 := S 0) (fun i s => s = S i ∧ ∀ j, j < i → err j = 0)
    (fun e => e = if firstErr ((List.range n).map err) = 0 then fin (S n) else mk (firstErr ((List.range n).map err))) hn ⟨rfl, fun j h => by omega⟩ (fun i s hi hI => by
      obtain ⟨rfl, hz⟩ := hI
      have hi' : i < n := by omega
      rw [hf i hi' hz]
      by_cases he : err i = 0
      · left
        rw [if_pos he]
        refine ⟨_, rfl, rfl, fun j hj => ?_⟩
        by_cases hj' : j = i
        · rw [hj']; exact he
        · exact hz j (by omega)
      · right
        rw [if_neg he]
        refine ⟨_, rfl, ?_⟩
        have := hfe n 0
        rw [List.range_eq_range']
        rcases this with h1 | ⟨j, a1, a2, a3, a4, a5⟩
        · have := firstErr_zero.1 h1 (err i) (List.mem_map.2 ⟨i, by simp; exact hi', rfl⟩)
          exact absurd this he
        · rw [a5, if_neg a4]
          have : j = i := by
            rcases Nat.lt_trichotomy j i with c | c | c
            · exact absurd (hz j c) a4
            · exact c
            · exact absurd (a3 i (by omega) c) he
          rw [this]) (fun s hI => by
      obtain ⟨rfl, hz⟩ := hI
      have : firstErr ((List.range n).map err) = 0 := firstErr_zero.2 (fun e he => by
        obtain ⟨j, hj, rfl⟩ := List.mem_map.1 he
        exact hz j (by simpa using hj))
      rw [if_pos this]; rfl)
  rw [h1, h2]

/-! Names. -/

def lowC (c : UInt8) : Bool := decide (97 ≤ c.toNat) && decide (c.toNat ≤ 122)
def nameC (c : UInt8) : Bool := lowC c || (decide (48 ≤ c.toNat) && decide (c.toNat ≤ 57)) || decide (c.toNat = 45)
/-- What a name is. -/
def nameB (s : Str) : Bool := decide (s.b.length ≤ 40) && (match s.b with | [] => false | c :: l => lowC c && l.all nameC)
theorem nameB_ne {s : Str} (h : nameB s = true) : s ≠ Str.nil := by
  rintro rfl
  simp [nameB, Str.nil] at h

theorem trim_nil (l cs : List UInt8) : Go.Lib.trimS l cs = [] ↔ l.all (cs.contains ·) = true := by
  have hd : ∀ (m : List UInt8), m.dropWhile (cs.contains ·) = [] ↔ m.all (cs.contains ·) = true := by
    intro m
    induction m with
    | nil => simp
    | cons c m ih =>
      rw [List.dropWhile_cons, List.all_cons]
      cases h : cs.contains c with
      | true => simp only [if_true, Bool.true_and]; exact ih
      | false => simp
  unfold Go.Lib.trimS Go.Lib.trimLeftS
  rw [hd]
  unfold Go.Lib.trimRightS
  constructor
  · intro h
    -- what is left ends with a byte that is not in cs
    cases hq : l.reverse.dropWhile (cs.contains ·) with
    | nil =>
      have := (hd l.reverse).1 hq
      simpa using this
    | cons c m =>
      have hc : cs.contains c = false := by
        have := List.head?_dropWhile_not (cs.contains ·) l.reverse
        rw [hq] at this
        simpa using this
      rw [hq] at h
      have : c ∈ (c :: m).reverse := by simp
      have := List.all_eq_true.1 h c this
      rw [hc] at this; cases this
  · intro h
    have : l.reverse.dropWhile (cs.contains ·) = [] := (hd _).2 (by simpa using h)
    rw [this]; rfl

theorem nameC_mem (c : UInt8) : ([97, 98, 99, 100, 101, 102, 103, 104, 105, 106, 107, 108, 109, 110, 111, 112, 113, 114, 115, 116, 117, 118, 119, 120, 121, 122, 48, 49, 50, 51, 52, 53, 54, 55, 56, 57, 45] : List UInt8).contains c = nameC c := by
  have h : ∀ n, n < 256 → ([97, 98, 99, 100, 101, 102, 103, 104, 105, 106, 107, 108, 109, 110, 111, 112, 113, 114, 115, 116, 117, 118, 119, 120, 121, 122, 48, 49, 50, 51, 52, 53, 54, 55, 56, 57, 45] : List UInt8).contains (UInt8.ofNat n) = nameC (UInt8.ofNat n) := by decide +kernel
  have := h c.toNat (UInt8.toNat_lt c)
  simpa using this

theorem low_int (c : UInt8) : (decide ((97 : Int) ≤ (c.toNat : Int)) && decide ((c.toNat : Int) ≤ 122)) = lowC c := by
  unfold lowC
  congr 1 <;> simp only [decide_eq_decide] <;> omega
theorem dig_int (c : UInt8) : (decide ((48 : Int) ≤ (c.toNat : Int)) && decide ((c.toNat : Int) ≤ 57)) = (decide (48 ≤ c.toNat) && decide (c.toNat ≤ 57)) := by
  congr 1 <;> simp only [decide_eq_decide] <;> omega
theorem dash_int (c : UInt8) : decide ((c.toNat : Int) = 45) = decide (c.toNat = 45) := by simp only [decide_eq_decide]; omega

theorem isName_eqE (s : Str) : edit_isName s = some (nameB s) := by
  obtain ⟨b⟩ := s
  unfold edit_isName
  cases b with
  | nil => simp [need, Str.nil, nameB, gd, strings_Trim]
  | cons c l =>
    have hne : (⟨c :: l⟩ : Str) ≠ Str.nil := by simp [Str.nil]
    have hg : gx (c :: l) 0 = c := by simp [gx]
    have hin : inR (c :: l) 0 := ⟨by omega, by simp⟩
    rw [need_of (fun _ => hin), need_of (fun _ => hin)]
    simp only [hg, decide_eq_false hne, Bool.not_false, Bool.true_and]
    have e : ∀ X : Bool, ((X && decide ((97 : Int) ≤ (c.toNat : Int))) && decide ((c.toNat : Int) ≤ 122)) = (X && lowC c) := fun X => by rw [Bool.and_assoc, low_int]
    simp only [e]
    unfold strings_Trim
    rw [need_of ⟨by decide, by decide⟩]
    have ht : decide (trimS ⟨c :: l⟩ (⟨[97, 98, 99, 100, 101, 102, 103, 104, 105, 106, 107, 108, 109, 110, 111, 112, 113, 114, 115, 116, 117, 118, 119, 120, 121, 122, 48, 49, 50, 51, 52, 53, 54, 55, 56, 57, 45]⟩ : Str) = Str.nil) = (c :: l).all nameC := by
      rw [Bool.eq_iff_iff, decide_eq_true_eq]
      unfold trimS Str.nil
      rw [Str.mk.injEq, trim_nil]
      have : (fun x => ([97, 98, 99, 100, 101, 102, 103, 104, 105, 106, 107, 108, 109, 110, 111, 112, 113, 114, 115, 116, 117, 118, 119, 120, 121, 122, 48, 49, 50, 51, 52, 53, 54, 55, 56, 57, 45] : List UInt8).contains x) = nameC := funext nameC_mem
      rw [this]
    have hlen : decide (((c :: l).length : Int) ≤ 40) = decide ((c :: l).length ≤ 40) := by simp only [decide_eq_decide]; omega
    unfold nameB
    simp only [hlen]
    cases hA : decide ((c :: l).length ≤ 40) with
    | false => simp [gd]
    | true =>
      cases hB : lowC c with
      | false => simp [gd]
      | true =>
        simp only [Bool.and_self, gd_true, Option.bind_some, Bool.true_and, ht, List.all_cons]
        have : nameC c = true := by simp [nameC, hB]
        rw [this, Bool.true_and]
theorem NameOf_eq {s : Str} (hs : fits s) : ref_NameOf s = some (nameB s) := by
  have hl : (s.b.length : Int) ≤ 9223372036854775807 := by have : s.b.length ≤ 9223372036854775807 := hs; omega
  obtain ⟨b⟩ := s
  unfold ref_NameOf
  simp only at hl ⊢
  let ok : Nat → Bool := fun i => match i with | 0 => lowC (gx b 0) | i + 1 => nameC (gx b ((i + 1 : Nat) : Int))
  have := rforE_errS (n := b.length) (step := ref_NameOf_L1 ⟨b⟩) (fin := fun s => (Res.nx s : Res Unit Bool)) (fun _ => ()) (fun i => if ok i = true then 0 else 1) (fun _ => Res.ab false) hl (fun i hi _ => by
    unfold ref_NameOf_L1
    have hin : inR b (i : Int) := ⟨by omega, by omega⟩
    rw [need_of hin, bnd_eq]
    simp only
    generalize hc : gx b (i : Int) = c
    rw [low_int, dig_int, dash_int]
    cases i with
    | zero =>
      have : ok 0 = lowC c := by show lowC (gx b 0) = _; rw [← hc]; rfl
      rw [this]
      cases lowC c <;> simp
    | succ i =>
      have : ok (i + 1) = nameC c := by show nameC (gx b ((i + 1 : Nat) : Int)) = _; rw [hc]
      rw [this]
      have h0 : decide (((i + 1 : Nat) : Int) = 0) = false := decide_eq_false (by omega)
      rw [h0]
      unfold nameC
      cases lowC c <;> cases (decide (48 ≤ c.toNat) && decide (c.toNat ≤ 57)) <;> cases decide (c.toNat = 45) <;> simp)
  rw [this]
  have hall : firstErr ((List.range b.length).map (fun i => if ok i = true then (0 : Int) else 1)) = 0 ↔ ∀ i, i < b.length → ok i = true := by
    rw [firstErr_zero]
    constructor
    · intro h i hi
      have := h _ (List.mem_map.2 ⟨i, by simpa using hi, rfl⟩)
      by_cases c : ok i = true
      · exact c
      · rw [if_neg c] at this; cases this
    · intro h e he
      obtain ⟨i, hi, rfl⟩ := List.mem_map.1 he
      rw [if_pos (h i (by simpa using hi))]
  cases b with
  | nil => simp [nameB, Str.nil]
  | cons c l =>
    have hok : (∀ i, i < (c :: l).length → ok i = true) ↔ (lowC c && l.all nameC) = true := by
      rw [Bool.and_eq_true, List.all_eq_true]
      constructor
      · intro h
        refine ⟨h 0 (by simp), fun x hx => ?_⟩
        obtain ⟨j, hj, rfl⟩ := List.mem_iff_getElem.1 hx
        have := h (j + 1) (by simp; exact hj)
        have e : gx (c :: l) ((j + 1 : Nat) : Int) = l[j] := by rw [gx_nat (by simp; exact hj)]; rfl
        rw [← e]; exact this
      · rintro ⟨h1, h2⟩ i hi
        cases i with
        | zero => exact h1
        | succ i =>
          show nameC (gx (c :: l) ((i + 1 : Nat) : Int)) = true
          rw [gx_nat hi]
          exact h2 _ (by simp)
    have hne : (⟨c :: l⟩ : Str) ≠ Str.nil := by simp [Str.nil]
    unfold nameB
    by_cases h : (lowC c && l.all nameC) = true
    · rw [if_pos (hall.2 (hok.2 h))]
      simp only [bindR_nx, decide_eq_false hne, h, Bool.not_false, Bool.true_and, Bool.and_true]
      congr 1
      simp only [decide_eq_decide]; omega
    · have h' : (lowC c && l.all nameC) = false := by simpa using h
      rw [if_neg (fun e => h (hok.1 (hall.1 e)))]
      simp [h']
end Go.DB
