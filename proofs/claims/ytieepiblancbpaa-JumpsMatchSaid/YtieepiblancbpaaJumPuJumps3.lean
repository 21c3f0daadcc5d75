/-
  The jumps of the reference, and the law.
-/
import Derived.Test.YtieepiblancbpaaJumPuJumps2
set_option linter.unusedSimpArgs false
set_option linter.unusedVariables false
namespace Go.DB
open Go Go.RowKit

/-- A stretch as a rail. -/
def rl4 (A B : Point) (n : Int) : Geom_rail :=
  if A.Y = B.Y then ⟨A.Y, min A.X B.X, max A.X B.X, n, decide (B.X < A.X)⟩ else ⟨A.X, min A.Y B.Y, max A.Y B.Y, n, decide (B.Y < A.Y)⟩
theorem rlI_4 (l : List Point) (i : Nat) : rlI l i = rl4 (gx l ((i : Int) - 1)) (gx l (i : Int)) (lenUpto l i) := by
  unfold rlI rl4
  by_cases h : acrB l i
  · rw [if_pos h, if_pos (show _ = _ from h)]
  · rw [if_neg h, if_neg (show ¬ _ = _ from h)]
/-- Two stretches that cross. -/
theorem crossing_pts {A B C D : Point} {la lb : Int} (a1 : okP A) (a2 : okP B) (a3 : (B.X = A.X ∧ B.Y ≠ A.Y) ∨ (B.X ≠ A.X ∧ B.Y = A.Y)) (b1 : okP C) (b2 : okP D) (b3 : (D.X = C.X ∧ D.Y ≠ C.Y) ∨ (D.X ≠ C.X ∧ D.Y = C.Y)) :
    ∃ p c, ref_crossing A B C D = some (p, c) ∧ (c = true ↔ ((A.Y = B.Y ∧ ¬ C.Y = D.Y) ∨ (¬ A.Y = B.Y ∧ C.Y = D.Y)) ∧ hitR (rl4 A B la) (rl4 C D lb)) ∧ (c = true → okP p ∧ la + farI A p = spotR (rl4 A B la) (rl4 C D lb)) := by
  unfold ref_crossing okP farI hitR spotR rl4 at *
  simp only [bnd_eq]
  rcases a3 with ⟨e1, e2⟩ | ⟨e1, e2⟩ <;> rcases b3 with ⟨f1, f2⟩ | ⟨f1, f2⟩
  · have c1 : (decide (A.X = B.X) && decide (C.Y = D.Y)) = false := by simp; intro _ h; exact f2 h.symm
    have c2 : ¬ A.Y = B.Y := fun h => e2 h.symm
    have c3 : ¬ C.Y = D.Y := fun h => f2 h.symm
    simp [c1, c2, c3]
  · have c2 : ¬ A.Y = B.Y := fun h => e2 h.symm
    have c3 : C.Y = D.Y := f2.symm
    have c4 : A.X = B.X := e1.symm
    simp only [c3, c4, decide_true, Bool.and_self, cond_true, bind_sm, Bool.not_true, Bool.or_self, cond_false, c2, if_true, if_false]
    refine ⟨_, _, rfl, ?_, fun h => ?_⟩
    · simp only [Bool.and_eq_true, decide_eq_true_eq]
      constructor
      · intro h; refine ⟨.inr ⟨not_false, trivial⟩, ?_⟩; omega
      · rintro ⟨_, h⟩; omega
    · simp only [Bool.and_eq_true, decide_eq_true_eq] at h ⊢
      refine ⟨by omega, ?_⟩
      split <;> omega
  · have c2 : A.Y = B.Y := e2.symm
    have c3 : ¬ C.Y = D.Y := fun h => f2 h.symm
    have c4 : C.X = D.X := f1.symm
    have c5 : ¬ A.X = B.X := fun h => e1 h.symm
    simp only [c2, c3, c4, c5, decide_true, decide_false, Bool.false_and, cond_false, bind_sm, Bool.not_true, Bool.or_self, if_true, if_false]
    refine ⟨_, _, rfl, ?_, fun h => ?_⟩
    · simp only [Bool.and_eq_true, decide_eq_true_eq]
      constructor
      · intro h; refine ⟨.inl ⟨trivial, not_false⟩, ?_⟩; omega
      · rintro ⟨_, h⟩; omega
    · simp only [Bool.and_eq_true, decide_eq_true_eq] at h ⊢
      refine ⟨by omega, ?_⟩
      split <;> omega
  · have c1 : (decide (A.X = B.X) && decide (C.Y = D.Y)) = false := by simp; intro h; exact absurd h.symm e1
    have c2 : A.Y = B.Y := e2.symm
    have c3 : C.Y = D.Y := f2.symm
    have c4 : ¬ C.X = D.X := fun h => f1 h.symm
    have c5 : ¬ A.X = B.X := fun h => e1 h.symm
    simp only [c2, c3, c4, c5, decide_true, decide_false, Bool.false_and, cond_false, bind_sm, Bool.not_true, Bool.not_false, Bool.false_or, cond_true]
    exact ⟨_, _, rfl, by simp, by simp⟩
theorem crossing_eq {a b : List Point} {i j : Nat} (ha : pathErr a = 0) (hb : pathErr b = 0) (i1 : 1 ≤ i) (i2 : i < a.length) (j1 : 1 ≤ j) (j2 : j < b.length) :
    ∃ p c, ref_crossing (gx a ((i : Int) - 1)) (gx a (i : Int)) (gx b ((j : Int) - 1)) (gx b (j : Int)) = some (p, c) ∧
      (c = true ↔ ((acrB a i ∧ ¬ acrB b j) ∨ (¬ acrB a i ∧ acrB b j)) ∧ hitR (rlI a i) (rlI b j)) ∧ (c = true → okP p ∧ lenUpto a i + farI (gx a ((i : Int) - 1)) p = spotR (rlI a i) (rlI b j)) := by
  obtain ⟨a1, a2, a3⟩ := stretch ha i1 i2
  obtain ⟨b1, b2, b3⟩ := stretch hb j1 j2
  rw [rlI_4, rlI_4]
  exact crossing_pts a1 a2 a3 b1 b2 b3

theorem gx_setL {α : Type} [Inhabited α] {l : List α} {k : Nat} {v : α} (hk : k < l.length) (t : Nat) : gx (l.set k v) (t : Int) = if t = k then v else gx l (t : Int) := by
  unfold gx
  rw [List.getElem?_set]
  by_cases h : t = k
  · subst h; simp [hk]
  · have : ¬ k = t := fun e => h e.symm
    simp [this, h]

/-- The row k grows by what P says. -/
structure Grw (k n : Nat) (P : Int → Prop) (S S' : List (List Int)) : Prop where
  len : S'.length = S.length
  other : ∀ t : Nat, t ≠ k → gx S' (t : Int) = gx S (t : Int)
  room : (gx S' (k : Int)).length ≤ (gx S (k : Int)).length + n
  mem : ∀ x, x ∈ gx S' (k : Int) ↔ x ∈ gx S (k : Int) ∨ P x
theorem Grw.refl {k : Nat} {S : List (List Int)} : Grw k 0 (fun _ => False) S S := ⟨rfl, fun _ _ => rfl, by omega, fun x => by simp⟩
theorem Grw.trans {k n m : Nat} {P Q : Int → Prop} {S S' S'' : List (List Int)} (h : Grw k n P S S') (h' : Grw k m Q S' S'') : Grw k (n + m) (fun x => P x ∨ Q x) S S'' where
  len := h'.len.trans h.len
  other t ht := (h'.other t ht).trans (h.other t ht)
  room := by have := h.room; have := h'.room; omega
  mem x := by rw [h'.mem, h.mem, or_assoc]
theorem Grw.of {k n m : Nat} {P Q : Int → Prop} {S S' : List (List Int)} (h : Grw k n P S S') (hn : n ≤ m) (hP : ∀ x, P x ↔ Q x) : Grw k m Q S S' :=
  ⟨h.len, h.other, by have := h.room; omega, fun x => by rw [h.mem, hP]⟩
theorem Grw.add {k : Nat} {S : List (List Int)} (hk : k < S.length) (y : Int) : Grw k 1 (fun x => x = y) S (S.set k (gx S (k : Int) ++ [y])) where
  len := by simp
  other t ht := by rw [gx_setL hk, if_neg ht]
  room := by rw [gx_setL hk, if_pos rfl]; simp
  mem x := by rw [gx_setL hk, if_pos rfl]; simp

theorem L4_eq {a b : List Point} {i k : Nat} {S : List (List Int)} {p5 : Int × List (List Int)} {s11 : Int × Int × List (List Int)} (ha : pathErr a = 0) (hb : pathErr b = 0) (i1 : 1 ≤ i) (i2 : i < a.length) (hk : k < S.length)
    (hp : p5.1 = k) (hs1 : s11.1 = lenUpto a i) (hs2 : s11.2.1 = i) (hr : (gx S (k : Int)).length + 1000 ≤ 1073741824) :
    ∃ S', loop (ref_JumpsOf_L4 a b p5 s11) (1, S) = some S' ∧ Grw k 1000 (fun x => ∃ j, 1 ≤ j ∧ j < b.length ∧ Hit a b i j x) S S' := by
  have hbl := (ptsErr_zero.1 (pathErr_zero.1 hb).1).1
  have hb2 := (isPath_iff.1 (pathErr_zero.1 hb).2).1
  have hal := (ptsErr_zero.1 (pathErr_zero.1 ha).1).1
  have hlb := lenUpto_bd (pathErr_zero.1 ha).1 i (by omega)
  refine loop_inv (body := ref_JumpsOf_L4 a b p5 s11) (s0 := (1, S)) (fun s => ∃ j : Nat, s.1 = j ∧ 1 ≤ j ∧ j ≤ b.length ∧ Grw k j (fun x => ∃ t, 1 ≤ t ∧ t < j ∧ Hit a b i t x) S s.2)
    (fun s => ((b.length : Int) - s.1).toNat) _ ⟨1, rfl, by omega, by omega, Grw.refl.of (by omega) (fun x => ⟨fun h => h.elim, fun ⟨t, _, _, _⟩ => by omega⟩)⟩ (fun s hs => ?_)
  obtain ⟨j, j1, j2, j3, hE⟩ := hs
  obtain ⟨sj, T⟩ := s
  simp only at j1 hE
  subst j1
  unfold ref_JumpsOf_L4
  simp only [hp, hs1, hs2]
  by_cases c : j < b.length
  · left
    obtain ⟨p, q, g1, g2, g3⟩ := crossing_eq ha hb i1 i2 j2 c
    rw [decide_eq_true (p := (j : Int) < (b.length : Int)) (by omega), cond_true, Wk (n := (i : Int) - 1) (by omega) (by omega), Wk (n := (j : Int) - 1) (by omega) (by omega), need_of ⟨by omega, by omega⟩, need_of ⟨by omega, by omega⟩, need_of ⟨by omega, by omega⟩, need_of ⟨by omega, by omega⟩, g1, Option.bind_some]
    simp only
    have hkT : k < T.length := by rw [hE.len]; exact hk
    cases q with
    | false =>
      rw [cond_false, Option.bind_some, bnd_eq, Wk (by omega) (by omega)]
      refine ⟨_, rfl, ⟨j + 1, by simp, by omega, by omega, hE.of (by omega) (fun x => ⟨fun ⟨t, t1, t2, t3⟩ => ⟨t, t1, by omega, t3⟩, fun ⟨t, t1, t2, t3⟩ => ?_⟩)⟩, by simp only; omega⟩
      by_cases z : t = j
      · subst z; exact absurd (g2.2 ⟨t3.1, t3.2.1⟩) (by simp)
      · exact ⟨t, t1, by omega, t3⟩
    | true =>
      obtain ⟨g4, g5⟩ := g3 rfl
      obtain ⟨g6, g7⟩ := g2.1 rfl
      obtain ⟨a1, _, _⟩ := stretch ha i1 i2
      have hf := farI_bd a1 g4
      have hT := hE.room
      rw [cond_true, need_of ⟨by omega, by omega⟩, need_of ⟨by omega, by omega⟩, need_of ⟨by omega, by omega⟩, Far_eq a1 g4, Option.bind_some, need_of (by rw [room_iff]; simp; omega), need_of ⟨by omega, by omega⟩, Option.bind_some, bnd_eq, Wk (by omega) (by omega), Wk (by omega) (by omega), g5]
      simp only [Int.toNat_natCast]
      refine ⟨_, rfl, ⟨j + 1, by simp, by omega, by omega, (hE.trans (Grw.add hkT _)).of (by omega) (fun x => ⟨?_, fun ⟨t, t1, t2, t3⟩ => ?_⟩)⟩, by simp only; omega⟩
      · rintro (⟨t, t1, t2, t3⟩ | h)
        · exact ⟨t, t1, by omega, t3⟩
        · exact ⟨j, j2, by omega, g6, g7, h⟩
      · by_cases z : t = j
        · subst z; exact .inr t3.2.2
        · exact .inl ⟨t, t1, by omega, t3⟩
  · right
    obtain rfl : j = b.length := by omega
    rw [decide_eq_false (p := ((b.length : Nat) : Int) < (b.length : Int)) (by omega), cond_false]
    exact ⟨_, rfl, hE.of (by omega) (fun x => Iff.rfl)⟩

theorem JumpsOf_eq {l : List (List Point)} (hl : l.length ≤ 100) (h : ∀ p ∈ l, pathErr p = 0) : ∃ o, ref_JumpsOf l = some o ∧ o.length = l.length ∧ ∀ (k : Nat) (hk : k < o.length), JumpsAt l k o[k] := by
  unfold ref_JumpsOf
  rw [bnd_eq, need_of ⟨by omega, by omega, by omega⟩, bnd_eq]
  obtain ⟨o, h1, h2, h3, h4⟩ := rfor_inv (n := (l.length : Int)) (step := ref_JumpsOf_L1 l) (s0 := List.replicate ((l.length : Nat) : Int).toNat ([] : List Int))
    (fun k S => S.length = l.length ∧ (∀ t : Nat, t < k → JumpsAt l t (gx S (t : Int))) ∧ ∀ t : Nat, k ≤ t → gx S (t : Int) = []) (by omega) ⟨by simp, fun t h => by omega, fun t _ => by
      unfold gx; rw [List.getElem?_replicate]; split <;> rfl⟩ (fun k S hk hI => by
      obtain ⟨g1, g2, g3⟩ := hI
      have hk' : k < l.length := by omega
      have ha := h _ (gx_mem (l := l) (k := k) ⟨by omega, by omega⟩)
      have hal := (ptsErr_zero.1 (pathErr_zero.1 ha).1).1
      have ha2 := (isPath_iff.1 (pathErr_zero.1 ha).2).1
      have hlen0 : (gx S (k : Int)).length = 0 := by rw [g3 k (Nat.le_refl _)]; rfl
      unfold ref_JumpsOf_L1
      rw [need_of ⟨by omega, by omega⟩, bnd_eq]
      generalize hA : gx l (k : Int) = a at *
      obtain ⟨T, t1, t2⟩ := loop_inv (body := ref_JumpsOf_L2 a l ((k : Int), S)) (s0 := ((0 : Int), (1 : Int), S))
        (fun s => ∃ i : Nat, s.2.1 = i ∧ 1 ≤ i ∧ i ≤ a.length ∧ s.1 = lenUpto a i ∧ Grw k (i * 100000) (fun x => ∃ t, ∃ ht : t < l.length, t < k ∧ ∃ i' j, 1 ≤ i' ∧ i' < i ∧ 1 ≤ j ∧ j < l[t].length ∧ Hit a l[t] i' j x) S s.2.2)
        (fun s => ((a.length : Int) - s.2.1).toNat) (fun T => Grw k (1000 * 100000) (fun x => ∃ t, ∃ ht : t < l.length, t < k ∧ Hits a l[t] x) S T)
        ⟨1, rfl, by omega, by omega, by simp [lenUpto], Grw.refl.of (by omega) (fun x => ⟨fun h => h.elim, fun ⟨t, _, _, i', j, _, _, _⟩ => by omega⟩)⟩ (fun s hs => by
          obtain ⟨i, i1, i2, i3, i4, hE⟩ := hs
          obtain ⟨sa, si, T⟩ := s
          simp only at i1 i4 hE
          subst i1 i4
          unfold ref_JumpsOf_L2
          simp only
          by_cases c : i < a.length
          · left
            obtain ⟨p1, p2, _⟩ := stretch ha i2 c
            have hb := lenUpto_bd (pathErr_zero.1 ha).1 i (by omega)
            have hf := farI_bd p1 p2
            rw [decide_eq_true (p := (i : Int) < (a.length : Int)) (by omega), cond_true, need_of ⟨by omega, by omega, by omega⟩, bnd_eq]
            have hseg : seg l 0 (k : Int) = l.take k := by simp [seg]
            rw [hseg]
            obtain ⟨T', e1, e2⟩ := rfor_inv (n := ((l.take k).length : Int)) (step := ref_JumpsOf_L3 a (l.take k) ((k : Int), S) (lenUpto a i, (i : Int), T)) (s0 := T)
              (fun t T' => Grw k (t * 1000) (fun x => ∃ t', ∃ ht : t' < l.length, t' < t ∧ ∃ j, 1 ≤ j ∧ j < l[t'].length ∧ Hit a l[t'] i j x) T T') (by simp; omega)
              (Grw.refl.of (by omega) (fun x => ⟨fun h => h.elim, fun ⟨t, _, h, _⟩ => by omega⟩)) (fun t T' ht hI => by
                have ht' : t < k := by simp at ht; omega
                have htl : t < l.length := by omega
                have hin : inR (l.take k) (t : Int) := ⟨by omega, by simp; omega⟩
                have hgt : gx (l.take k) (t : Int) = l[t] := by rw [gx_nat (by simp; omega), List.getElem_take]
                have hbp := h _ (List.getElem_mem htl)
                have hroom := hI.room
                have hroom2 := hE.room
                have hkT : k < T'.length := by rw [hI.len, hE.len, g1]; exact hk'
                unfold ref_JumpsOf_L3
                rw [need_of hin, bnd_eq, hgt]
                obtain ⟨T'', f1, f2⟩ := L4_eq (S := T') (p5 := ((k : Int), S)) (s11 := (lenUpto a i, (i : Int), T)) ha hbp i2 c hkT rfl rfl rfl (by omega)
                refine ⟨T'', f1, (hI.trans f2).of (by omega) (fun x => ⟨?_, ?_⟩)⟩
                · rintro (⟨t', h1, h2, h3⟩ | h)
                  · exact ⟨t', h1, by omega, h3⟩
                  · exact ⟨t, htl, by omega, h⟩
                · rintro ⟨t', h1, h2, h3⟩
                  by_cases z : t' = t
                  · subst z; exact .inr h3
                  · exact .inl ⟨t', h1, by omega, h3⟩)
            have hkl : ((l.take k).length : Int).toNat = k := by simp; omega
            rw [hkl] at e2
            rw [e1, Option.bind_some, Wk (n := (i : Int) - 1) (by omega) (by omega), need_of ⟨by omega, by omega⟩, need_of ⟨by omega, by omega⟩, Far_eq p1 p2, Option.bind_some, bnd_eq, Option.bind_some, bnd_eq, Wk (by omega) (by omega), Wk (by omega) (by omega)]
            refine ⟨_, rfl, ⟨i + 1, by simp, by omega, by omega, (lenUpto_next i2).symm, (hE.trans e2).of (by omega) (fun x => ⟨?_, ?_⟩)⟩, by simp only; omega⟩
            · rintro (⟨t, h1, h2, i', j, h3, h4, h5⟩ | ⟨t, h1, h2, j, h3, h4, h5⟩)
              · exact ⟨t, h1, h2, i', j, h3, by omega, h5⟩
              · exact ⟨t, h1, h2, i, j, i2, by omega, h3, h4, h5⟩
            · rintro ⟨t, h1, h2, i', j, h3, h4, h5, h6, h7⟩
              by_cases z : i' = i
              · subst z; exact .inr ⟨t, h1, h2, j, h5, h6, h7⟩
              · exact .inl ⟨t, h1, h2, i', j, h3, by omega, h5, h6, h7⟩
          · right
            obtain rfl : i = a.length := by omega
            rw [decide_eq_false (p := ((a.length : Nat) : Int) < (a.length : Int)) (by omega), cond_false]
            refine ⟨_, rfl, hE.of (by omega) (fun x => ⟨?_, ?_⟩)⟩
            · rintro ⟨t, h1, h2, i', j, h3, h4, h5, h6, h7⟩
              exact ⟨t, h1, h2, i', j, h3, h4, h5, h6, h7⟩
            · rintro ⟨t, h1, h2, i', j, h3, h4, h5, h6, h7⟩
              exact ⟨t, h1, h2, i', j, h3, h4, h5, h6, h7⟩)
      have hr := t2.room
      have hTk : k < T.length := by rw [t2.len, g1]; exact hk'
      obtain ⟨m1, m2⟩ := Sort_Compact (l := gx T (k : Int)) (by omega)
      rw [t1, Option.bind_some, need_of ⟨by omega, by omega⟩, need_of ⟨by omega, by omega⟩, m1, Option.bind_some, bnd_eq]
      simp only [Int.toNat_natCast]
      have hin2 : inR (T.set k (sortI (gx T (k : Int)))) (k : Int) := ⟨by omega, by simp; omega⟩
      rw [need_of hin2, need_of hin2, gx_setL hTk, if_pos rfl, m2, Option.bind_some, need_of hin2]
      refine ⟨_, rfl, by simp [t2.len, g1], fun t ht => ?_, fun t ht => ?_⟩
      · rw [gx_setL (by simpa using hTk)]
        by_cases z : t = k
        · subst z
          rw [if_pos rfl]
          refine ⟨gx T (t : Int), rfl, by omega, fun x => ?_⟩
          rw [t2.mem, g3 t (Nat.le_refl _), hA]
          simp
        · rw [if_neg z, gx_setL hTk, if_neg z, t2.other t z]
          exact g2 t (by omega)
      · rw [gx_setL (by simpa using hTk), if_neg (by omega), gx_setL hTk, if_neg (by omega), t2.other t (by omega)]
        exact g3 t (by omega))
  rw [h1, Option.bind_some]
  refine ⟨o, rfl, h2, fun k hk => ?_⟩
  have := h3 k (by simp only [Int.toNat_natCast]; omega)
  rwa [gx_nat hk] at this

theorem JumpsMatch_true (l : List (List Point)) (hl : fits l) : law_JumpsMatch l = some true := by
  have hll : (l.length : Int) ≤ 9223372036854775807 := by have := (fits_list.1 hl).1; omega
  have hpl : ∀ p ∈ l, (p.length : Int) ≤ 9223372036854775807 := fun p hp => by have := (fits_list.1 ((fits_list.1 hl).2 p hp)).1; omega
  unfold law_JumpsMatch
  have hw : ∀ w0 : Int, rfor (l.length : Int) (law_JumpsMatch_L1 l) w0 = some (if w0 = 0 then firstErr (l.map pathErr) else w0) := by
    intro w0
    rw [rfor_list (l := l) (fun p s => some (if s = 0 then pathErr p else s)) hll (fun i s hi => by
      unfold law_JumpsMatch_L1
      rw [need_of hi, PathError_eq (hpl _ (gx_mem hi)), Option.bind_some, First_eq (by simp), Option.bind_some]
      by_cases c : s = 0 <;> by_cases d : pathErr (gx l i) = 0 <;> simp [c, d])]
    clear hll hpl hl
    induction l generalizing w0 with
    | nil => by_cases c : w0 = 0 <;> simp [lgo, c]
    | cons p l ih =>
      rw [lgo]
      simp only
      rw [ih]
      by_cases c : w0 = 0
      · by_cases d : pathErr p = 0 <;> simp [c, d]
      · simp [c]
  by_cases c : l.length ≤ 100
  · rw [decide_eq_false (p := (100 : Int) < (l.length : Int)) (by omega)]
    rw [When_eq]
    simp only [bind_sm, hw, Bool.false_eq_true, if_false, if_true]
    by_cases d : firstErr (l.map pathErr) = 0
    · have hp : ∀ p ∈ l, pathErr p = 0 := fun p hp => firstErr_zero.1 d _ (List.mem_map_of_mem hp)
      obtain ⟨o, o1, o2, o3⟩ := Jumps_eq c hp
      obtain ⟨o', p1, p2, p3⟩ := JumpsOf_eq c hp
      have he : o = o' := List.ext_getElem (by omega) (fun k h1 h2 => (o3 k h1).uni (p3 k h2))
      subst he
      have hE : slices_EqualFunc_Lint o o law_JumpsMatch_1 = some true := by
        unfold slices_EqualFunc_Lint
        simp only [decide_true, Bool.not_true, cond_false]
        rw [rforE_list (l := o) (fun _ _ => some (Res.nx ())) (by omega) (fun i s hi => by
          unfold slices_EqualFunc_Lint_L1 law_JumpsMatch_1
          have hlen : ((gx o i).length : Int) ≤ 9223372036854775807 := by
            have hin := hi
            obtain ⟨q0, q1⟩ := hi
            obtain ⟨k, rfl⟩ : ∃ k : Nat, i = k := ⟨i.toNat, by omega⟩
            rw [gx_nat (by omega)]
            obtain ⟨z, z1, z2, _⟩ := o3 k (by omega)
            rw [z1]
            have := normI_len z
            omega
          rw [need_of hi, need_of hi, Equal_int_eq _ _ hlen]
          simp)]
        have : ∀ z : List (List Int), lgoE (fun _ _ => some (Res.nx ())) (fun s => (Res.nx s : Res Unit Bool)) z () = some (Res.nx ()) := by
          intro z; induction z with
          | nil => rfl
          | cons a z ih => rw [lgoE]; exact ih
        rw [this]; rfl
      rw [o1, geoms_eq, p1]
      simp only [bind_sm, d, decide_true, Bool.not_true, Bool.or_self, cond_false, gd_true, hE, Bool.and_self]
    · have hg : geom_Jumps l = some ([], firstErr (l.map pathErr)) := by
        unfold geom_Jumps
        rw [decide_eq_false (p := (100 : Int) < (l.length : Int)) (by omega), cond_false]
        rw [rforE_err pathErr (fun e => Res.ab (([] : List (List Int)), e)) (by omega) (fun i hi => by
          unfold geom_Jumps_L1
          rw [need_of hi, CheckPath_eq, Option.bind_some]
          by_cases c : pathErr (gx l i) = 0 <;> simp [c])]
        rw [if_neg d, bindR_ab]
      rw [hg, geoms_eq]
      simp [d]
  · rw [decide_eq_true (p := (100 : Int) < (l.length : Int)) (by omega)]
    have hg : geom_Jumps l = some ([], 4) := by
      unfold geom_Jumps
      rw [decide_eq_true (p := (100 : Int) < (l.length : Int)) (by omega), cond_true]
    rw [When_eq, hg, geoms_eq]
    simp only [bind_sm, if_true, hw]
    simp
end Go.DB
