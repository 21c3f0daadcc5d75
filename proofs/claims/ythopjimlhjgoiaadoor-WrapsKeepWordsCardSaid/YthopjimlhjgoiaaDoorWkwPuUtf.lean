/-
  Code points of strings, on lists of bytes.
-/
import Derived.Test.YthopjimlhjgoiaaDoorPu0
import Derived.Test.YthopjimlhjgoiaaDoorCoreD
import Derived.Lib.DecodeN
set_option linter.unusedSimpArgs false
set_option linter.unusedVariables false
namespace Go.DB
open Go Go.RowKit

def d4 (b0 b1 b2 b3 : Nat) : Nat × Nat := Go.Lib.decodeN 4 b0 b1 b2 b3
def byteN (l : List UInt8) (i : Nat) : Nat := (l.getD i 0).toNat
/-- The first code point of some bytes, and how many bytes it has. -/
def dec (l : List UInt8) : Nat × Nat := d4 (byteN l 0) (byteN l 1) (byteN l 2) (byteN l 3)

theorem decodeN_all (n b0 b1 b2 b3 : Nat) (h1 : n ≤ 1 → b1 = 0) (h2 : n ≤ 2 → b2 = 0) (h3 : n ≤ 3 → b3 = 0) : Go.Lib.decodeN n b0 b1 b2 b3 = d4 b0 b1 b2 b3 := by
  have c1 : (1 < n ∧ b1 / 64 = 2) = (1 < 4 ∧ b1 / 64 = 2) := propext ⟨fun h => ⟨by decide, h.2⟩, fun h => ⟨by rcases Nat.lt_or_ge 1 n with c | c; exact c; exact absurd h.2 (by rw [h1 c]; decide), h.2⟩⟩
  have c2 : (2 < n ∧ b2 / 64 = 2) = (2 < 4 ∧ b2 / 64 = 2) := propext ⟨fun h => ⟨by decide, h.2⟩, fun h => ⟨by rcases Nat.lt_or_ge 2 n with c | c; exact c; exact absurd h.2 (by rw [h2 c]; decide), h.2⟩⟩
  have c3 : (3 < n ∧ b3 / 64 = 2) = (3 < 4 ∧ b3 / 64 = 2) := propext ⟨fun h => ⟨by decide, h.2⟩, fun h => ⟨by rcases Nat.lt_or_ge 3 n with c | c; exact c; exact absurd h.2 (by rw [h3 c]; decide), h.2⟩⟩
  unfold d4 Go.Lib.decodeN
  simp only [c1, c2, c3]

theorem get_bytes (l : List UInt8) (i : Nat) : (ByteArray.mk l.toArray).get! i = l.getD i 0 := by
  show l.toArray[i]! = _
  by_cases h : i < l.length
  · simp [List.getD, h]
  · simp [List.getD, h]; rfl

theorem byteN_drop (l : List UInt8) (p i : Nat) : byteN (l.drop p) i = byteN l (p + i) := by simp [byteN, List.getD]
theorem byteN_none {l : List UInt8} {i : Nat} (h : l.length ≤ i) : byteN l i = 0 := by simp [byteN, List.getD, h]
theorem byteN_append {l m : List UInt8} {i : Nat} (h : i < l.length) : byteN (l ++ m) i = byteN l i := by simp [byteN, List.getD, List.getElem?_append_left h]
theorem byteN_take {l : List UInt8} {i n : Nat} : byteN (l.take n) i = if i < n then byteN l i else 0 := by
  by_cases h : i < n
  · rw [if_pos h]; simp [byteN, List.getD, h]
  · rw [if_neg h]; exact byteN_none (by simp; omega)
theorem byteN_lt (l : List UInt8) (i : Nat) : byteN l i < 256 := UInt8.toNat_lt _

theorem at_eq (s : Str) (p : Nat) : s.at p = dec (s.b.drop p) := by
  unfold Str.at dec
  rw [Go.Lib.decode_at]
  simp only [get_bytes, byteN_drop, Nat.add_zero]
  have hsz : (ByteArray.mk s.b.toArray).size = s.b.length := rfl
  rw [hsz]
  exact decodeN_all _ _ _ _ _ (fun h => byteN_none (by omega)) (fun h => byteN_none (by omega)) (fun h => byteN_none (by omega))

theorem d4_pos (b0 b1 b2 b3 : Nat) : 1 ≤ (d4 b0 b1 b2 b3).2 ∧ (d4 b0 b1 b2 b3).2 ≤ 4 := by
  unfold d4 Go.Lib.decodeN
  repeat' split
  all_goals simp
theorem d4_cont (b0 b1 b2 b3 : Nat) : (2 ≤ (d4 b0 b1 b2 b3).2 → b1 / 64 = 2) ∧ (3 ≤ (d4 b0 b1 b2 b3).2 → b2 / 64 = 2) ∧ (4 ≤ (d4 b0 b1 b2 b3).2 → b3 / 64 = 2) := by
  unfold d4 Go.Lib.decodeN
  repeat' split
  all_goals (refine ⟨fun h => ?_, fun h => ?_, fun h => ?_⟩ <;> simp_all)
theorem d4_one (b0 b1 b2 b3 : Nat) (h : (d4 b0 b1 b2 b3).2 = 1) : d4 b0 b1 b2 b3 = if b0 < 128 then (b0, 1) else (65533, 1) := by
  generalize hr : d4 b0 b1 b2 b3 = r at h ⊢
  unfold d4 Go.Lib.decodeN at hr
  repeat' split at hr
  all_goals subst hr
  all_goals first | (exfalso; simp at h; done) | (split <;> first | rfl | (exfalso; omega))
set_option maxHeartbeats 1000000 in
theorem d4_agree (b0 b1 b2 b3 c1 c2 c3 : Nat) (h2 : 2 ≤ (d4 b0 b1 b2 b3).2) (e1 : c1 = b1) (e2 : 3 ≤ (d4 b0 b1 b2 b3).2 → c2 = b2) (e3 : 4 ≤ (d4 b0 b1 b2 b3).2 → c3 = b3) : d4 b0 c1 c2 c3 = d4 b0 b1 b2 b3 := by
  subst e1
  unfold d4 Go.Lib.decodeN at *
  by_cases a0 : b0 < 128
  · simp [a0] at h2
  · simp only [a0, if_false] at *
    by_cases a1 : b0 / 32 = 6 ∧ (1 < 4 ∧ c1 / 64 = 2)
    · simp only [a1, and_self, if_true] at *
    · simp only [a1, if_false] at *
      by_cases a2 : b0 / 16 = 14 ∧ (1 < 4 ∧ c1 / 64 = 2) ∧ (2 < 4 ∧ b2 / 64 = 2)
      · rw [if_pos a2] at h2 e2 e3 ⊢
        split at h2
        · rename_i q
          rw [if_pos q] at e2 e3 ⊢
          obtain rfl := e2 (by simp)
          rw [if_pos a2, if_pos q]
        · simp at h2
      · rw [if_neg a2] at h2 e2 e3 ⊢
        by_cases a3 : b0 / 8 = 30 ∧ (1 < 4 ∧ c1 / 64 = 2) ∧ (2 < 4 ∧ b2 / 64 = 2) ∧ (3 < 4 ∧ b3 / 64 = 2)
        · rw [if_pos a3] at h2 e2 e3 ⊢
          split at h2
          · rename_i q
            rw [if_pos q] at e2 e3 ⊢
            obtain rfl := e2 (by simp)
            obtain rfl := e3 (by simp)
            rw [if_neg a2, if_pos a3, if_pos q]
          · simp at h2
        · rw [if_neg a3] at h2
          simp at h2

theorem dec_pos (l : List UInt8) : 1 ≤ (dec l).2 := (d4_pos _ _ _ _).1
theorem dec_le4 (l : List UInt8) : (dec l).2 ≤ 4 := (d4_pos _ _ _ _).2
theorem dec_cont {l : List UInt8} {j : Nat} (h1 : 1 ≤ j) (h2 : j < (dec l).2) : byteN l j / 64 = 2 := by
  obtain ⟨a, b, c⟩ := d4_cont (byteN l 0) (byteN l 1) (byteN l 2) (byteN l 3)
  have h4 := dec_le4 l
  unfold dec at h2 h4
  match j, h1 with
  | 1, _ => exact a (by omega)
  | 2, _ => exact b (by omega)
  | 3, _ => exact c (by omega)
  | j + 4, _ => omega
theorem dec_le {l : List UInt8} (h : l ≠ []) : (dec l).2 ≤ l.length := by
  rcases Nat.lt_or_ge l.length (dec l).2 with c | c
  · have hl := List.length_pos_iff.2 h
    have := dec_cont (l := l) (j := l.length) (by omega) c
    rw [byteN_none (Nat.le_refl _)] at this
    exact absurd this (by decide)
  · exact c
/-- What the first code point's bytes are, and that what follows does not go on with them, tell the first code point. -/
theorem dec_same {l m : List UInt8} (h0 : byteN l 0 = byteN m 0) (h1 : ∀ j, j < (dec l).2 → byteN m j = byteN l j)
    (h2 : ∀ k, k ≤ 4 → (∀ j, 1 ≤ j → j < k → byteN m j / 64 = 2) → ∀ j, j < k → byteN l j = byteN m j) : dec m = dec l := by
  rcases Nat.lt_or_ge 1 (dec l).2 with c | c
  · unfold dec at c h1 ⊢
    rw [← h0]
    exact d4_agree _ _ _ _ _ _ _ c (h1 1 (by omega)) (fun h => h1 2 (by omega)) (fun h => h1 3 (by omega))
  · have cl : (dec l).2 = 1 := Nat.le_antisymm c (dec_pos l)
    have hk := h2 (dec m).2 (dec_le4 m) (fun j a b => dec_cont a b)
    rcases Nat.lt_or_ge 1 (dec m).2 with d | d
    · have : dec l = dec m := by
        unfold dec at d hk ⊢
        rw [h0]
        exact d4_agree _ _ _ _ _ _ _ d (hk 1 (by omega)) (fun h => hk 2 (by omega)) (fun h => hk 3 (by omega))
      exact this.symm
    · have dm : (dec m).2 = 1 := Nat.le_antisymm d (dec_pos m)
      unfold dec at cl dm ⊢
      rw [d4_one _ _ _ _ cl, d4_one _ _ _ _ dm, h0]
theorem dec_take {l : List UInt8} {n : Nat} (hn : (dec l).2 ≤ n) : dec (l.take n) = dec l := by
  have := dec_pos l
  refine dec_same (by rw [byteN_take, if_pos (by omega)]) (fun j hj => by rw [byteN_take, if_pos (by omega)]) (fun k hk hc j hj => ?_)
  rw [byteN_take]
  by_cases h : j < n
  · rw [if_pos h]
  · have := hc n (by omega) (by omega)
    rw [byteN_take, if_neg (by omega)] at this
    exact absurd this (by decide)
theorem dec_space {l m : List UInt8} {b : UInt8} (hl : l ≠ []) (hb : b.toNat < 128) : dec (l ++ b :: m) = dec l := by
  have hp := List.length_pos_iff.2 hl
  have hle := dec_le hl
  refine dec_same (byteN_append hp).symm (fun j hj => byteN_append (by omega)) (fun k hk hc j hj => ?_)
  rcases Nat.lt_or_ge j l.length with c | c
  · exact (byteN_append c).symm
  · have := hc l.length (by omega) (by omega)
    have e : byteN (l ++ b :: m) l.length = b.toNat := by simp [byteN, List.getD]
    rw [e] at this
    omega
theorem dec_ascii {b : UInt8} {m : List UInt8} (hb : b.toNat < 128) : dec (b :: m) = (b.toNat, 1) := by
  unfold dec d4 Go.Lib.decodeN
  have : byteN (b :: m) 0 = b.toNat := by simp [byteN, List.getD]
  rw [this, if_pos hb]
theorem dec_rune (l : List UInt8) : (dec l).1 < 55296 ∨ (57343 < (dec l).1 ∧ (dec l).1 ≤ 1114111) := by
  have h0 := byteN_lt l 0
  unfold dec d4 Go.Lib.decodeN
  repeat' split
  all_goals (simp only; omega)

/-! Pieces: one code point each. -/

def chunks (l : List UInt8) : List (Nat × List UInt8) :=
  if h : l = [] then [] else ((dec l).1, l.take (dec l).2) :: chunks (l.drop (dec l).2)
termination_by l.length
decreasing_by
  have := dec_pos l
  have := List.length_pos_iff.2 h
  simp; omega
theorem chunks_nil : chunks [] = [] := by rw [chunks]; simp
theorem chunks_cons {l : List UInt8} (h : l ≠ []) : chunks l = ((dec l).1, l.take (dec l).2) :: chunks (l.drop (dec l).2) := by rw [chunks, dif_neg h]

def bytesOf (cs : List (Nat × List UInt8)) : List UInt8 := cs.flatMap (·.2)
theorem bytesOf_cons (c : Nat × List UInt8) (cs : List (Nat × List UInt8)) : bytesOf (c :: cs) = c.2 ++ bytesOf cs := by simp [bytesOf]
theorem bytesOf_append (a b : List (Nat × List UInt8)) : bytesOf (a ++ b) = bytesOf a ++ bytesOf b := by simp [bytesOf]

/-- Induction along the pieces. -/
theorem chunks_ind {p : List UInt8 → Prop} (h0 : p []) (h1 : ∀ l, l ≠ [] → p (l.drop (dec l).2) → p l) : ∀ l, p l := by
  intro l
  induction hn : l.length using Nat.strongRecOn generalizing l with
  | _ n ih =>
    by_cases h : l = []
    · subst h; exact h0
    · refine h1 l h (ih (l.drop (dec l).2).length ?_ _ rfl)
      have := dec_pos l
      have := List.length_pos_iff.2 h
      simp; omega

theorem chunks_flat (l : List UInt8) : bytesOf (chunks l) = l := by
  refine chunks_ind (p := fun l => bytesOf (chunks l) = l) ?_ ?_ l
  · rw [chunks_nil]; rfl
  · intro l h ih
    rw [chunks_cons h, bytesOf_cons, ih, List.take_append_drop]
theorem chunks_ne {l : List UInt8} : ∀ c ∈ chunks l, c.2 ≠ [] := by
  refine chunks_ind (p := fun l => ∀ c ∈ chunks l, c.2 ≠ []) ?_ ?_ l
  · rw [chunks_nil]; simp
  · intro l h ih c hc
    rw [chunks_cons h] at hc
    rcases List.mem_cons.1 hc with rfl | hc
    · have := dec_pos l
      have := List.length_pos_iff.2 h
      intro e
      have := congrArg List.length e
      simp only [List.length_take, List.length_nil] at this; omega
    · exact ih c hc
theorem chunks_len (l : List UInt8) : (chunks l).length ≤ l.length := by
  refine chunks_ind (p := fun l => (chunks l).length ≤ l.length) ?_ ?_ l
  · rw [chunks_nil]; simp
  · intro l h ih
    have := dec_pos l
    have := List.length_pos_iff.2 h
    rw [chunks_cons h]
    simp at ih ⊢; omega
theorem chunks_eq_nil {l : List UInt8} : chunks l = [] ↔ l = [] := by
  constructor
  · intro h
    by_cases e : l = []
    · exact e
    · rw [chunks_cons e] at h; cases h
  · rintro rfl; exact chunks_nil
/-- The pieces of a part that ends behind a piece. -/
theorem chunks_take (l : List UInt8) : ∀ k, chunks (bytesOf ((chunks l).take k)) = (chunks l).take k := by
  refine chunks_ind (p := fun l => ∀ k, chunks (bytesOf ((chunks l).take k)) = (chunks l).take k) ?_ ?_ l
  · intro k; rw [chunks_nil]; simp [bytesOf, chunks_nil]
  · intro l h ih k
    cases k with
    | zero => simp [bytesOf, chunks_nil]
    | succ k =>
      have hp := dec_pos l
      have hlp := List.length_pos_iff.2 h
      have hle := dec_le h
      rw [chunks_cons h, List.take_succ_cons, bytesOf_cons]
      -- the part is a beginning of l
      have hpre : bytesOf ((chunks (l.drop (dec l).2)).take k) <+: l.drop (dec l).2 := by
        have := congrArg bytesOf (List.take_append_drop k (chunks (l.drop (dec l).2)))
        rw [bytesOf_append, chunks_flat] at this
        exact ⟨_, this⟩
      obtain ⟨t, ht⟩ := hpre
      generalize hP : bytesOf ((chunks (l.drop (dec l).2)).take k) = P at *
      have hl2 : (l.take (dec l).2).length = (dec l).2 := by rw [List.length_take]; omega
      have hA : l = l.take (dec l).2 ++ (P ++ t) := by rw [ht, List.take_append_drop]
      show chunks (l.take (dec l).2 ++ P) = _
      generalize hAA : l.take (dec l).2 = A at *
      have hd : dec (A ++ P) = dec l := by
        have : A ++ P = l.take (A ++ P).length := by
          have h3 : (A ++ (P ++ t)).take (A ++ P).length = A ++ P := by rw [← List.append_assoc, List.take_left]
          rw [← hA] at h3
          exact h3.symm
        rw [this]
        exact dec_take (by rw [List.length_append]; omega)
      rw [chunks_cons (by intro e; have := congrArg List.length e; rw [List.length_append, List.length_nil] at this; omega), hd]
      have e1 : (A ++ P).take (dec l).2 = A := by rw [← hl2, List.take_left]
      have e2 : (A ++ P).drop (dec l).2 = P := by rw [← hl2, List.drop_left]
      rw [e1, e2]
      congr 1
      rw [← hP]
      exact ih k
theorem chunks_drop (l : List UInt8) : ∀ k, chunks (bytesOf ((chunks l).drop k)) = (chunks l).drop k := by
  refine chunks_ind (p := fun l => ∀ k, chunks (bytesOf ((chunks l).drop k)) = (chunks l).drop k) ?_ ?_ l
  · intro k; rw [chunks_nil]; simp [bytesOf, chunks_nil]
  · intro l h ih k
    cases k with
    | zero => rw [List.drop_zero, chunks_flat]
    | succ k => rw [chunks_cons h, List.drop_succ_cons]; exact ih k
theorem chunks_space {b : UInt8} (hb : b.toNat < 128) (m : List UInt8) (l : List UInt8) : chunks (l ++ b :: m) = chunks l ++ (b.toNat, [b]) :: chunks m := by
  refine chunks_ind (p := fun l => chunks (l ++ b :: m) = chunks l ++ (b.toNat, [b]) :: chunks m) ?_ ?_ l
  · rw [List.nil_append, chunks_nil, List.nil_append, chunks_cons (by simp), dec_ascii hb]; rfl
  · intro l h ih
    have hle := dec_le h
    rw [chunks_cons (l := l ++ b :: m) (by simp), dec_space h hb, chunks_cons h, List.cons_append]
    rw [List.take_append_of_le_length hle, List.drop_append_of_le_length hle, ih]

/-! Loops over a string's code points. -/

theorem next_eq {s : Str} {p : Nat} (h : p < s.b.length) : s.next p = p + (dec (s.b.drop p)).2 := by
  unfold Str.next; rw [if_pos h, at_eq]
theorem next_le {s : Str} {p : Nat} (h : p < s.b.length) : s.next p ≤ s.b.length := by
  rw [next_eq h]
  have := dec_le (l := s.b.drop p) (by intro e; have := congrArg List.length e; simp at this; omega)
  simp at this; omega
theorem drop_next {s : Str} {p : Nat} (h : p < s.b.length) : s.b.drop (s.next p) = (s.b.drop p).drop (dec (s.b.drop p)).2 := by rw [next_eq h, List.drop_drop]

/-- A loop that takes in each code point. -/
theorem iter_fold {σ ρ : Type} {body : σ × Nat → Option (Step (σ × Nat) ρ)} {s : Str} (g : σ → Nat → σ) (fin : σ → ρ) (I : σ → List UInt8 → Prop)
    (h1 : ∀ st p, p < s.b.length → I st (s.b.drop p) → body (st, p) = some (.again (g st (dec (s.b.drop p)).1, s.next p)) ∧ I (g st (dec (s.b.drop p)).1) (s.b.drop (s.next p)))
    (h2 : ∀ st p, ¬ p < s.b.length → body (st, p) = some (.done (fin st))) : ∀ (l : List UInt8) (st : σ) (p : Nat), s.b.drop p = l → I st l → loop body (st, p) = some (fin ((chunks l).foldl (fun st c => g st c.1) st)) := by
  intro l
  refine chunks_ind (p := fun l => ∀ (st : σ) (p : Nat), s.b.drop p = l → I st l → loop body (st, p) = some (fin ((chunks l).foldl (fun st c => g st c.1) st))) ?_ ?_ l
  · intro st p hd _
    rw [chunks_nil]
    exact loop_done (h2 st p (by intro h; have := congrArg List.length hd; simp at this; omega))
  · intro l h ih st p hd hI
    have hp : p < s.b.length := by
      rcases Nat.lt_or_ge p s.b.length with c | c
      · exact c
      · rw [List.drop_of_length_le c] at hd; exact absurd hd.symm h
    obtain ⟨e, hI'⟩ := h1 st p hp (by rw [hd]; exact hI)
    rw [loop_again e, chunks_cons h, List.foldl_cons]
    rw [drop_next hp, hd] at hI'
    have := ih (g st (dec l).1) (s.next p) (by rw [drop_next hp, hd]) hI'
    rw [hd]
    exact this
end Go.DB
