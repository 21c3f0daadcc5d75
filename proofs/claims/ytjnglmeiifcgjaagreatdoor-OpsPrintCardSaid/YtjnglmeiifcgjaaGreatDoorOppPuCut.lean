/-
  Texts that are cut at a byte, and joined again.
-/
import Derived.Test.YtjnglmeiifcgjaaGreatDoorExCut
import Derived.Test.YtjnglmeiifcgjaaGreatDoorExSplitN
set_option linter.unusedSimpArgs false
set_option linter.unusedVariables false
namespace Go.DB
open Go Go.RowKit

theorem indexB_oneC (s : List UInt8) (c : UInt8) : Go.Lib.indexB ⟨s.toArray⟩ ⟨[c].toArray⟩ = Go.Lib.indexByte s c := by
  unfold Go.Lib.indexB
  exact Go.Lib.index_one s c
theorem indexByte_hit {c : UInt8} {m : List UInt8} : ∀ {a : List UInt8}, c ∉ a → Go.Lib.indexByte (a ++ c :: m) c = a.length
  | [], _ => by simp [Go.Lib.indexByte]
  | b :: a, h => by
    have h1 : ¬ b = c := fun e => h (by simp [e])
    have h2 : c ∉ a := fun e => h (by simp [e])
    have ih := indexByte_hit (m := m) h2
    rw [List.cons_append, Go.Lib.indexByte, if_neg (by simpa using h1), ih, if_neg (by simp)]
    simp
theorem indexByte_miss {c : UInt8} : ∀ {a : List UInt8}, c ∉ a → Go.Lib.indexByte a c = -1
  | [], _ => rfl
  | b :: a, h => by
    have h1 : ¬ b = c := fun e => h (by simp [e])
    have h2 : c ∉ a := fun e => h (by simp [e])
    rw [Go.Lib.indexByte, if_neg (by simpa using h1), indexByte_miss h2]; rfl
/-- Where a byte stands first. -/
theorem mem_cut {c : UInt8} : ∀ {l : List UInt8}, c ∈ l → ∃ a m, l = a ++ c :: m ∧ c ∉ a
  | b :: l, h => by
    by_cases e : b = c
    · exact ⟨[], l, by rw [e]; rfl, by simp⟩
    · obtain ⟨a, m, rfl, h2⟩ := mem_cut (l := l) (by simpa [Ne.symm e] using h)
      exact ⟨b :: a, m, rfl, by simp [h2, Ne.symm e]⟩
theorem cutS_hit {c : UInt8} {a m : List UInt8} (h : c ∉ a) : cutS ⟨a ++ c :: m⟩ ⟨[c]⟩ = (⟨a⟩, ⟨m⟩, true) := by
  have hi : Go.Lib.index (a ++ c :: m) [c] = a.length := (Go.Lib.index_one _ c).trans (indexByte_hit h)
  unfold cutS Go.Lib.cut
  simp only [hi, Int.natCast_nonneg, if_true]
  simp
theorem cutS_miss {c : UInt8} {a : List UInt8} (h : c ∉ a) : cutS ⟨a⟩ ⟨[c]⟩ = (⟨a⟩, ⟨[]⟩, false) := by
  have hi : Go.Lib.index a [c] = -1 := (Go.Lib.index_one _ c).trans (indexByte_miss h)
  unfold cutS Go.Lib.cut
  rw [show (⟨a⟩ : Str).b = a from rfl, show (⟨[c]⟩ : Str).b = [c] from rfl, hi]
  rfl

/-- The parts of a text between a byte, at most k + 1. -/
def cutsN (c : UInt8) : Nat → List UInt8 → List (List UInt8)
  | 0, l => [l]
  | k + 1, l => if c ∈ l then l.takeWhile (fun b => decide (b ≠ c)) :: cutsN c k (l.dropWhile (fun b => decide (b ≠ c))).tail else [l]
theorem takeWhile_hit {c : UInt8} {m : List UInt8} : ∀ {a : List UInt8}, c ∉ a → (a ++ c :: m).takeWhile (fun b => decide (b ≠ c)) = a ∧ (a ++ c :: m).dropWhile (fun b => decide (b ≠ c)) = c :: m
  | [], _ => by simp [List.takeWhile, List.dropWhile]
  | b :: a, h => by
    have h1 : ¬ b = c := fun e => h (by simp [e])
    have h2 : c ∉ a := fun e => h (by simp [e])
    obtain ⟨i1, i2⟩ := takeWhile_hit (m := m) h2
    rw [List.cons_append, List.takeWhile_cons, List.dropWhile_cons, if_pos (by simpa using h1), if_pos (by simpa using h1), i1, i2]
    exact ⟨rfl, rfl⟩
theorem cutsN_hit {c : UInt8} {k : Nat} {a m : List UInt8} (h : c ∉ a) : cutsN c (k + 1) (a ++ c :: m) = a :: cutsN c k m := by
  obtain ⟨h1, h2⟩ := takeWhile_hit (m := m) h
  rw [cutsN, if_pos (by simp), h1, h2]; rfl
theorem cutsN_miss {c : UInt8} {k : Nat} {a : List UInt8} (h : c ∉ a) : cutsN c k a = [a] := by
  cases k with
  | zero => rfl
  | succ k => rw [cutsN, if_neg h]
theorem cutsN_ne (c : UInt8) (k : Nat) (l : List UInt8) : cutsN c k l ≠ [] := by
  cases k with
  | zero => simp [cutsN]
  | succ k => rw [cutsN]; split <;> simp
theorem cutsN_len (c : UInt8) : ∀ (k : Nat) (l : List UInt8), (cutsN c k l).length ≤ k + 1
  | 0, l => by simp [cutsN]
  | k + 1, l => by
    rw [cutsN]
    split
    · have := cutsN_len c k (l.dropWhile (fun b => decide (b ≠ c))).tail
      simp only [List.length_cons]; omega
    · simp
theorem cutsN_lenL (c : UInt8) : ∀ (k : Nat) (l : List UInt8), (cutsN c k l).length ≤ l.length + 1
  | 0, l => by simp [cutsN]
  | k + 1, l => by
    by_cases h : c ∈ l
    · obtain ⟨a, m, rfl, h2⟩ := mem_cut h
      rw [cutsN_hit h2]
      have := cutsN_lenL c k m
      simp only [List.length_cons, List.length_append]; omega
    · rw [cutsN_miss h]; simp
/-- Parts with a byte between. -/
def joinC (c : UInt8) : List (List UInt8) → List UInt8
  | [] => []
  | [a] => a
  | a :: b :: r => a ++ c :: joinC c (b :: r)
theorem join_cuts (c : UInt8) : ∀ (k : Nat) (l : List UInt8), joinC c (cutsN c k l) = l
  | 0, l => rfl
  | k + 1, l => by
    by_cases h : c ∈ l
    · obtain ⟨a, m, rfl, h2⟩ := mem_cut h
      rw [cutsN_hit h2]
      have ih := join_cuts c k m
      cases hq : cutsN c k m with
      | nil => exact absurd hq (cutsN_ne _ _ _)
      | cons p r => rw [joinC, ← hq, ih]
    · rw [cutsN_miss h]; rfl
/-- Enough cuts are as good as more. -/
theorem cutsN_more (c : UInt8) : ∀ (k j : Nat) (l : List UInt8), l.count c ≤ k → cutsN c k l = cutsN c (k + j) l
  | 0, j, l, h => by
    have : c ∉ l := List.count_eq_zero.1 (Nat.le_zero.1 h)
    rw [cutsN_miss this, cutsN_miss this]
  | k + 1, j, l, h => by
    by_cases hc : c ∈ l
    · obtain ⟨a, m, rfl, h2⟩ := mem_cut hc
      rw [show k + 1 + j = (k + j) + 1 by omega, cutsN_hit h2, cutsN_hit h2, cutsN_more c k j m]
      simp only [List.count_append, List.count_cons_self] at h; omega
    · rw [cutsN_miss hc, cutsN_miss hc]
theorem splitB_cuts (c : UInt8) : ∀ (k : Nat) (l : List UInt8), (Go.Lib.splitB ⟨[c].toArray⟩ 0 k ⟨l.toArray⟩).map ofBytes = (cutsN c k l).map Str.mk
  | 0, l => by simp [Go.Lib.splitB, ofBytes, cutsN]
  | k + 1, l => by
    by_cases h : c ∈ l
    · obtain ⟨a, m, rfl, h2⟩ := mem_cut h
      have hb : Go.Lib.indexB ⟨(a ++ c :: m).toArray⟩ ⟨[c].toArray⟩ = a.length := (indexB_oneC _ _).trans (indexByte_hit h2)
      rw [Go.Lib.splitB_hit _ _ _ _ _ hb, cutsN_hit h2]
      have ex : ∀ i j, (ByteArray.mk (a ++ c :: m).toArray).extract i j = ⟨(((a ++ c :: m).take j).drop i).toArray⟩ := by
        intro i j
        rw [ByteArray.extract_mk]
        congr 1
        simp [List.drop_take]
      have hsz : (ByteArray.mk (a ++ c :: m).toArray).size = (a ++ c :: m).length := rfl
      have hs1 : (ByteArray.mk [c].toArray).size = 1 := rfl
      have e1 : (ByteArray.mk (a ++ c :: m).toArray).extract 0 (a.length + 0) = ⟨a.toArray⟩ := by
        rw [ex, Nat.add_zero, List.drop_zero, List.take_left]
      have e2 : (ByteArray.mk (a ++ c :: m).toArray).extract (a.length + (ByteArray.mk [c].toArray).size) (ByteArray.mk (a ++ c :: m).toArray).size = ⟨m.toArray⟩ := by
        rw [ex, hsz, hs1, List.take_length, ← List.drop_drop, List.drop_left]; rfl
      rw [e2, e1]
      simp only [List.map_cons, splitB_cuts c k m]
      simp [ofBytes]
    · have hb : Go.Lib.indexB ⟨l.toArray⟩ ⟨[c].toArray⟩ = -1 := (indexB_oneC _ _).trans (indexByte_miss h)
      rw [Go.Lib.splitB_miss _ _ _ _ hb, cutsN_miss h]
      simp [ofBytes]
theorem splitNS_one (s : Str) (c : UInt8) {n : Int} {k : Nat} (hn : n = (k : Int) + 1) : splitNS s ⟨[c]⟩ n = (cutsN c k s.b).map Str.mk := by
  unfold splitNS splitNB
  rw [show (⟨[c]⟩ : Str).b = [c] from rfl, splitB_cuts]
  congr 1
  have hk : n.toNat = k + 1 := by omega
  rw [hk]
  rcases Nat.le_total k s.b.length with h | h
  · rw [Nat.min_eq_left (by omega)]; rfl
  · rw [Nat.min_eq_right (by omega), show k = s.b.length + (k - s.b.length) by omega]
    exact cutsN_more c _ _ _ List.count_le_length
end Go.DB
