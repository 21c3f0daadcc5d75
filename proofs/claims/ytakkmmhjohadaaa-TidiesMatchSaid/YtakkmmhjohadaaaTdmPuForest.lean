/-
  Trees as numbers of kids: levels, in plain words.
-/
import Derived.Test.YtakkmmhjohadaaaPu0
set_option linter.unusedSimpArgs false
set_option linter.unusedVariables false
namespace Go.DB
open Go Go.RowKit

/-- Numbers from 0 to below n without a repeat are no more than n. -/
theorem nodup_le : ∀ (n : Nat) (l : List Int), l.Nodup → (∀ k ∈ l, 0 ≤ k ∧ k < n) → l.length ≤ n
  | 0, [], _, _ => by simp
  | 0, x :: l, _, h => by have := h x (by simp); omega
  | n + 1, l, hn, h => by
    have h1 := nodup_le n (l.erase (n : Int)) (hn.erase _) (fun k hk => by
      have := h k (List.mem_of_mem_erase hk)
      have hne : k ≠ (n : Int) := fun e => by subst e; exact absurd hk (fun hk => by rw [hn.mem_erase_iff] at hk; exact hk.1 rfl)
      omega)
    rw [List.length_erase] at h1
    split at h1 <;> omega
theorem nodup_all {n : Nat} {l : List Int} (hn : l.Nodup) (h : ∀ k ∈ l, 0 ≤ k ∧ k < n) (hl : n ≤ l.length) : ∀ j : Int, 0 ≤ j → j < n → j ∈ l := by
  intro j h0 h1
  by_cases hj : j ∈ l
  · exact hj
  · have := nodup_le n (j :: l) (List.nodup_cons.2 ⟨hj, hn⟩) (fun k hk => by
      rcases List.mem_cons.1 hk with rfl | hk
      · exact ⟨h0, h1⟩
      · exact h k hk)
    simp at this; omega

/-- Kids: each is in range and above 0, and is told once. -/
structure Fo (n : Nat) (kd : Int → List Int) : Prop where
  pos : 0 < n
  rng : ∀ k : Int, 0 ≤ k → k < n → ∀ x ∈ kd k, 1 ≤ x ∧ x < n
  one : ∀ k : Int, 0 ≤ k → k < n → (kd k).Nodup
  two : ∀ k j : Int, 0 ≤ k → k < n → 0 ≤ j → j < n → k ≠ j → ∀ x ∈ kd k, x ∉ kd j

theorem Fo.nd {n : Nat} {kd : Int → List Int} (h : Fo n kd) : ∀ {l : List Int}, l.Nodup → (∀ k ∈ l, 0 ≤ k ∧ k < n) → (l.flatMap kd).Nodup
  | [], _, _ => by simp
  | k :: l, hn, hr => by
    rw [List.flatMap_cons, List.nodup_append]
    have hk := hr k (by simp)
    have hn' := List.nodup_cons.1 hn
    refine ⟨h.one k hk.1 hk.2, h.nd hn'.2 (fun j hj => hr j (by simp [hj])), fun x hx y hy => ?_⟩
    rintro rfl
    obtain ⟨j, hj, hx2⟩ := List.mem_flatMap.1 hy
    have hj2 := hr j (by simp [hj])
    exact h.two k j hk.1 hk.2 hj2.1 hj2.2 (fun e => hn'.1 (e ▸ hj)) x hx hx2

/-- The levels, and what is in those ahead of the i-th. -/
def lev (kd : Int → List Int) : Nat → List Int
  | 0 => [0]
  | i + 1 => (lev kd i).flatMap kd
def sn (kd : Int → List Int) : Nat → List Int
  | 0 => []
  | i + 1 => sn kd i ++ lev kd i
theorem sn_eq (kd : Int → List Int) : ∀ i : Nat, sn kd (i + 1) = 0 :: (sn kd i).flatMap kd
  | 0 => by simp [sn, lev]
  | i + 1 => by
    have e : sn kd (i + 1) = sn kd i ++ lev kd i := rfl
    show sn kd (i + 1) ++ (lev kd i).flatMap kd = _
    rw [sn_eq kd i, ← sn_eq kd i, e, List.flatMap_append, ← List.cons_append, ← sn_eq kd i]; rfl
theorem Fo.sn {n : Nat} {kd : Int → List Int} (h : Fo n kd) : ∀ i : Nat, (sn kd i).Nodup ∧ ∀ k ∈ sn kd i, 0 ≤ k ∧ k < n
  | 0 => by simp [DB.sn]
  | i + 1 => by
    obtain ⟨h1, h2⟩ := h.sn i
    rw [sn_eq]
    have hx : ∀ x ∈ (DB.sn kd i).flatMap kd, 1 ≤ x ∧ x < n := fun x hx => by
      obtain ⟨j, hj, hx2⟩ := List.mem_flatMap.1 hx
      exact h.rng j (h2 j hj).1 (h2 j hj).2 x hx2
    refine ⟨List.nodup_cons.2 ⟨fun h0 => by have := hx 0 h0; omega, h.nd h1 h2⟩, fun k hk => ?_⟩
    rcases List.mem_cons.1 hk with rfl | hk
    · have := h.pos; omega
    · have := hx k hk; omega
theorem Fo.sn_le {n : Nat} {kd : Int → List Int} (h : Fo n kd) (i : Nat) : (DB.sn kd i).length ≤ n := nodup_le n _ (h.sn i).1 (h.sn i).2
theorem Fo.lev_in {n : Nat} {kd : Int → List Int} (h : Fo n kd) {i : Nat} {k : Int} (hk : k ∈ lev kd i) : 0 ≤ k ∧ k < n := (h.sn (i + 1)).2 k (by rw [DB.sn]; exact List.mem_append_right _ hk)
theorem Fo.lev_nd {n : Nat} {kd : Int → List Int} (h : Fo n kd) (i : Nat) : (lev kd i).Nodup := by
  have := (h.sn (i + 1)).1
  rw [DB.sn, List.nodup_append] at this
  exact this.2.1
theorem Fo.lev_le {n : Nat} {kd : Int → List Int} (h : Fo n kd) (i : Nat) : (DB.sn kd i).length + (lev kd i).length ≤ n := by
  have := h.sn_le (i + 1)
  rw [DB.sn, List.length_append] at this
  exact this
/-- A node is in one level. -/
theorem Fo.lev_one {n : Nat} {kd : Int → List Int} (h : Fo n kd) {i j : Nat} {k : Int} (hi : k ∈ lev kd i) (hj : k ∈ lev kd j) : i = j := by
  have key : ∀ {i j : Nat}, i < j → k ∈ lev kd i → k ∈ lev kd j → False := by
    intro i j hij hi hj
    have h1 := (h.sn (j + 1)).1
    rw [DB.sn, List.nodup_append] at h1
    have h2 : ∀ {a b : Nat}, a < b → k ∈ lev kd a → k ∈ DB.sn kd b := by
      intro a b hab ha
      induction b with
      | zero => omega
      | succ b ih =>
        rw [DB.sn]
        rcases Nat.lt_or_eq_of_le (Nat.lt_succ_iff.1 hab) with h | h
        · exact List.mem_append_left _ (ih h)
        · subst h; exact List.mem_append_right _ ha
    exact h1.2.2 k (h2 hij hi) k hj rfl
  rcases Nat.lt_trichotomy i j with h1 | h1 | h1
  · exact (key h1 hi hj).elim
  · exact h1
  · exact (key h1 hj hi).elim
theorem mem_sn {kd : Int → List Int} {k : Int} : ∀ {i : Nat}, k ∈ sn kd i ↔ ∃ j, j < i ∧ k ∈ lev kd j
  | 0 => by simp [sn]
  | i + 1 => by
    rw [sn, List.mem_append, mem_sn]
    constructor
    · rintro (⟨j, h1, h2⟩ | h)
      · exact ⟨j, by omega, h2⟩
      · exact ⟨i, by omega, h⟩
    · rintro ⟨j, h1, h2⟩
      rcases Nat.lt_or_eq_of_le (Nat.lt_succ_iff.1 h1) with h | h
      · exact .inl ⟨j, h, h2⟩
      · subst h; exact .inr h2
theorem lev_kid {kd : Int → List Int} {k x : Int} {i : Nat} (h : k ∈ lev kd i) (hx : x ∈ kd k) : x ∈ lev kd (i + 1) := List.mem_flatMap.2 ⟨k, h, hx⟩

/-- After some levels none is left. -/
theorem Fo.ends {n : Nat} {kd : Int → List Int} (h : Fo n kd) : ∃ m, 1 ≤ m ∧ m ≤ n ∧ lev kd m = [] ∧ ∀ i, i < m → lev kd i ≠ [] := by
  have key : ∀ d i : Nat, i + d = n + 1 → (∀ j, j < i → lev kd j ≠ []) → ∃ m, m ≤ n ∧ lev kd m = [] ∧ ∀ j, j < m → lev kd j ≠ [] := by
    intro d
    induction d with
    | zero =>
      intro i hi ha
      have hlen : ∀ j : Nat, j ≤ i → j ≤ (DB.sn kd j).length := by
        intro j
        induction j with
        | zero => intro _; omega
        | succ j ih =>
          intro hj
          have h1 := ih (by omega)
          have h2 := List.length_pos_iff.2 (ha j (by omega))
          rw [DB.sn, List.length_append]; omega
      have h3 := hlen i (Nat.le_refl _)
      have h4 := h.sn_le i
      omega
    | succ d ih =>
      intro i hi ha
      by_cases hl : lev kd i = []
      · exact ⟨i, by omega, hl, ha⟩
      · exact ih (i + 1) (by omega) (fun j hj => by
          rcases Nat.lt_or_eq_of_le (Nat.lt_succ_iff.1 hj) with h | h
          · exact ha j h
          · subst h; exact hl)
  obtain ⟨m, h1, h2, h3⟩ := key (n + 1) 0 (by omega) (fun j hj => by omega)
  refine ⟨m, ?_, h1, h2, h3⟩
  rcases Nat.eq_zero_or_pos m with h | h
  · subst h; simp [lev] at h2
  · exact h
theorem lev_nil {kd : Int → List Int} {m : Nat} (h : lev kd m = []) : ∀ d : Nat, lev kd (m + d) = []
  | 0 => h
  | d + 1 => by show (lev kd (m + d)).flatMap kd = []; rw [lev_nil h d]; rfl

/-- What holds of a node if it holds of its kids holds of all nodes of levels. -/
theorem Fo.ind {n : Nat} {kd : Int → List Int} (h : Fo n kd) {m : Nat} (hm : lev kd m = []) (p : Nat → Int → Prop)
    (hs : ∀ (d i : Nat) (k : Int), i + d + 1 = m → k ∈ lev kd i → (∀ x ∈ kd k, p d x) → p (d + 1) k) : ∀ (d i : Nat) (k : Int), i + d = m → k ∈ lev kd i → p d k
  | 0, i, k, hi, hk => by
    have : i = m := by omega
    subst this
    rw [hm] at hk; cases hk
  | d + 1, i, k, hi, hk => hs d i k (by omega) hk (fun x hx => h.ind hm p hs d (i + 1) x (by omega) (lev_kid hk hx))

end Go.DB
