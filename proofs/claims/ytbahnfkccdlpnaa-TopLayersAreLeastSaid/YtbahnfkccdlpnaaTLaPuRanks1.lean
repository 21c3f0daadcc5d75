/-
  The pieces of a graph, found in two ways; ranks that are grounded.
-/
import Derived.Test.YtbahnfkccdlpnaaTLaPuTurned
import Derived.Test.YtbahnfkccdlpnaaTLaPuNear0
set_option linter.unusedSimpArgs false
set_option linter.unusedVariables false
namespace Go.DB
open Go Go.RowKit
/- The numbers of pieces, as a plain function. -/
noncomputable def ref_pieces_L1  (i : Int) (s : (List Int)) : Option (List Int) :=
  need (inR s i) <|
  some (s.set i.toNat i)
noncomputable def ref_pieces_L3 (l1 : (List Link)) (i : Int) (s : (Bool × (List Int))) : Option (Bool × (List Int)) :=
  need (inR l1 i) <|
  bnd (gx l1 i) fun v1 =>
  need (inR s.2 v1.From) <|
  need (inR s.2 v1.To) <|
  bnd (min (gx s.2 v1.From) (gx s.2 v1.To)) fun k1 =>
  need (inR s.2 v1.From) <|
  need ((!decide ((gx s.2 v1.From) = k1)) = false → inR s.2 v1.To) <|
  bif (!decide ((gx s.2 v1.From) = k1)) || (!decide ((gx s.2 v1.To) = k1)) then (
    need (inR s.2 v1.From) <|
    need (inR (s.2.set v1.From.toNat k1) v1.To) <|
    some (true, (s.2.set v1.From.toNat k1).set v1.To.toNat k1))
  else (
    some (s.1, s.2))
noncomputable def ref_pieces_L2 (l1 : (List Link)) (s9_ : (Bool × (List Int))) : Option (Step (Bool × (List Int)) (List Int)) :=
  bif s9_.1 then (
    Option.bind (α := (Bool × (List Int))) (
      rfor (l1.length : Int) (ref_pieces_L3 l1) (false, s9_.2)) fun j_11 =>
    some (Step.again (j_11.1, j_11.2)))
  else (
    some (Step.done s9_.2))
/-- drawref1.pieces -/
noncomputable def ref_pieces (n1 : Int) (l1 : (List Link)) : Option (List Int) :=
  need (0 ≤ n1 ∧ n1 ≤ n1 ∧ n1 ≤ 1073741824) <|
  bnd (List.replicate n1.toNat (0 : Int)) fun p1 =>
  Option.bind (α := (List Int)) (
    rfor (p1.length : Int) ref_pieces_L1 p1) fun j_3 =>
  Option.bind (α := (List Int)) (
    loop (ref_pieces_L2 l1) (true, j_3)) fun j_8 =>
  some j_8

theorem sm_lt {f g : Nat → Int} {n : Nat} (h : ∀ i, i < n → f i ≤ g i) {i : Nat} (hi : i < n) (hlt : f i < g i) : sm f n < sm g n := by
  rcases Int.lt_or_le (sm f n) (sm g n) with c | c
  · exact c
  · have := sm_eq h c i hi; omega
theorem sm_bd {f : Nat → Int} {c : Int} : ∀ {n : Nat}, (∀ i, i < n → 0 ≤ f i ∧ f i ≤ c) → 0 ≤ sm f n ∧ sm f n ≤ n * c
  | 0, _ => by simp [sm]
  | n + 1, h => by
    have ih := sm_bd (n := n) (fun i hi => h i (by omega))
    have := h n (by omega)
    have e : sm f (n + 1) = sm f n + f n := rfl
    rw [e]; push_cast
    rw [Int.add_mul]; omega

/-- Constant along links. -/
def Con (l : List Link) (p : Int → Int) : Prop := ∀ j, inR l j → p (gx l j).From = p (gx l j).To
structure Lab (n : Nat) (l : List Link) (s : List Int) : Prop where
  len : s.length = n
  bd : ∀ k : Int, 0 ≤ k → k < n → 0 ≤ gx s k ∧ gx s k ≤ k
  con : ∀ p, Con l p → ∀ k : Int, 0 ≤ k → k < n → p (gx s k) = p k
theorem Lab.low {n : Nat} {l : List Link} {s c : List Int} (h : Lab n l s) (hc : Lab n l c) (hf : Con l (gx c)) (k : Int) (k0 : 0 ≤ k) (k1 : k < n) : gx c k ≤ gx s k := by
  have h1 := h.con _ hf k k0 k1
  have h2 := h.bd k k0 k1
  have h3 := hc.bd (gx s k) h2.1 (by omega)
  omega
theorem Lab.uni {n : Nat} {l : List Link} {s t : List Int} (h : Lab n l s) (hs : Con l (gx s)) (h' : Lab n l t) (ht : Con l (gx t)) : s = t := by
  refine List.ext_getElem (by rw [h.len, h'.len]) fun i h1 h2 => ?_
  have a := h.low h' ht (i : Int) (by omega) (by rw [← h.len]; omega)
  have b := h'.low h hs (i : Int) (by omega) (by rw [← h.len]; omega)
  rw [gx_nat h1, gx_nat h2] at *
  omega
theorem merge_val {n : Nat} {l : List Link} {s : List Int} (hl : OKl n l) (hlen : s.length = n) {j : Int} (hj : inR l j) (k v : Int) (v0 : 0 ≤ v) :
    gx ((s.set (gx l j).From.toNat k).set (gx l j).To.toNat k) v = if v = (gx l j).From ∨ v = (gx l j).To then k else gx s v := by
  obtain ⟨a, b, c⟩ := hl.2 j hj
  rw [gx_setJ ⟨b.1, by rw [List.length_set, hlen]; exact b.2⟩ v0, gx_setJ ⟨a.1, by rw [hlen]; exact a.2⟩ v0]
  by_cases h1 : v = (gx l j).To
  · rw [if_pos h1, if_pos (.inr h1)]
  · rw [if_neg h1]
    by_cases h2 : v = (gx l j).From
    · rw [if_pos h2, if_pos (.inl h2)]
    · rw [if_neg h2, if_neg (by rintro (h | h); exact h2 h; exact h1 h)]
theorem Lab.merge {n : Nat} {l : List Link} {s : List Int} (hl : OKl n l) (h : Lab n l s) {j : Int} (hj : inR l j) {k : Int} (hk : k = min (gx s (gx l j).From) (gx s (gx l j).To)) :
    Lab n l ((s.set (gx l j).From.toNat k).set (gx l j).To.toNat k) := by
  obtain ⟨a, b, c⟩ := hl.2 j hj
  have ba := h.bd _ a.1 a.2
  have bb := h.bd _ b.1 b.2
  refine ⟨by simp [h.len], fun v v0 v1 => ?_, fun p hp v v0 v1 => ?_⟩
  · rw [merge_val hl h.len hj k v v0]
    split
    · rename_i e; rcases e with e | e <;> subst e <;> omega
    · exact h.bd v v0 v1
  · rw [merge_val hl h.len hj k v v0]
    have e1 := h.con p hp _ a.1 a.2
    have e2 := h.con p hp _ b.1 b.2
    have e3 := hp j hj
    have ek : p k = p (gx l j).From := by
      rcases (show k = gx s (gx l j).From ∨ k = gx s (gx l j).To by omega) with e | e <;> rw [e] <;> omega
    split
    · rename_i e; rcases e with e | e <;> subst e <;> omega
    · exact h.con p hp v v0 v1

def idL (n : Nat) : List Int := (List.range n).map (fun i : Nat => (i : Int))
theorem idL_gx {n : Nat} {k : Int} (k0 : 0 ≤ k) (k1 : k < n) : gx (idL n) k = k := by
  obtain ⟨i, rfl⟩ : ∃ i : Nat, k = i := ⟨k.toNat, by omega⟩
  rw [gx_nat (by unfold idL; simp; omega)]
  unfold idL; simp
theorem idL_lab {n : Nat} {l : List Link} : Lab n l (idL n) := ⟨by unfold idL; simp, fun k k0 k1 => by rw [idL_gx k0 k1]; omega, fun p hp k k0 k1 => by rw [idL_gx k0 k1]⟩
theorem id_loop {n : Nat} (hn : n ≤ 60) {step : Int → List Int → Option (List Int)} (hst : ∀ i s, step i s = need (inR s i) (some (s.set i.toNat i))) :
    rfor ((List.replicate (n : Int).toNat (0 : Int)).length : Int) step (List.replicate (n : Int).toNat (0 : Int)) = some (idL n) := by
  obtain ⟨s, e1, e2, e3⟩ := rfor_inv (n := ((List.replicate (n : Int).toNat (0 : Int)).length : Int)) (step := step) (s0 := List.replicate (n : Int).toNat (0 : Int)) (fun i s => s.length = n ∧ ∀ k : Nat, k < i → gx s (k : Int) = k) (by simp; omega) ⟨by simp, fun k hk => by omega⟩ (fun i s hi hI => by
    obtain ⟨i1, i2⟩ := hI
    simp at hi
    have hr : inR s (i : Int) := ⟨by omega, by omega⟩
    rw [hst, need_of hr]
    refine ⟨_, rfl, by simp [i1], fun k hk => ?_⟩
    rw [gx_setJ hr (by omega)]
    by_cases c : k = i
    · subst c; rw [if_pos rfl]
    · rw [if_neg (by omega)]; exact i2 k (by omega))
  rw [e1]
  congr 1
  refine List.ext_getElem (by unfold idL; simp [e2]) fun i h1 h2 => ?_
  have := e3 i (by simp; omega)
  have h3 := idL_gx (n := n) (k := (i : Int)) (by omega) (by omega)
  rw [gx_nat h1] at this
  rw [gx_nat h2] at h3
  omega

def sumS (n : Nat) (s : List Int) : Int := sm (fun i => gx s (i : Int)) n
theorem ref_pieces_eq {n : Nat} {l : List Link} (hn : 1 ≤ n ∧ n ≤ 60) (hl : OKl n l) : ∃ c, ref_pieces (n : Int) l = some c ∧ Lab n l c ∧ Con l (gx c) := by
  have hll := hl.1
  unfold ref_pieces
  rw [need_of ⟨by omega, by omega, by omega⟩, bnd_eq, id_loop hn.2 (step := ref_pieces_L1) (fun i s => rfl), Option.bind_some]
  obtain ⟨e, h1, h2, h3⟩ := loop_inv (body := ref_pieces_L2 l) (s0 := (true, idL n)) (fun st => Lab n l st.2 ∧ (st.1 = false → Con l (gx st.2))) (fun st => (2 * sumS n st.2 + if st.1 = true then 1 else 0).toNat) (fun e => Lab n l e ∧ Con l (gx e)) ⟨idL_lab, fun h => by cases h⟩ (fun st hI => by
    obtain ⟨i1, i2⟩ := hI
    obtain ⟨fl, s⟩ := st
    simp only at i1 i2
    unfold ref_pieces_L2
    simp only
    cases fl with
    | false => exact .inr ⟨_, rfl, i1, i2 rfl⟩
    | true =>
      left
      rw [cond_true]
      obtain ⟨q, g1, g2, g3, g4, g5⟩ := rfor_inv (n := (l.length : Int)) (step := ref_pieces_L3 l) (s0 := (false, s)) (fun i q => Lab n l q.2 ∧ (∀ v : Nat, v < n → gx q.2 (v : Int) ≤ gx s (v : Int)) ∧ (q.1 = true → sumS n q.2 < sumS n s) ∧ (q.1 = false → q.2 = s ∧ ∀ j : Int, inR l j → j < i → gx s (gx l j).From = gx s (gx l j).To)) (by omega)
        ⟨i1, fun v hv => Int.le_refl _, (fun h => nomatch h), fun _ => ⟨rfl, fun j hj hlt => by have := hj.1; omega⟩⟩ (fun i q hi hq => by
          obtain ⟨j1, j2, j3, j4⟩ := hq
          obtain ⟨fl, z⟩ := q
          simp only at j1 j2 j3 j4
          have hj : inR l (i : Int) := ⟨by omega, hi⟩
          obtain ⟨a, b, d⟩ := hl.2 _ hj
          have hlen := j1.len
          unfold ref_pieces_L3
          simp only
          rw [need_of hj, bnd_eq, need_of ⟨a.1, by omega⟩, need_of ⟨b.1, by omega⟩, bnd_eq, need_of ⟨a.1, by omega⟩, need_of (fun _ => ⟨b.1, by omega⟩)]
          by_cases c : gx z (gx l (i : Int)).From = gx z (gx l (i : Int)).To
          · have e1 : min (gx z (gx l (i : Int)).From) (gx z (gx l (i : Int)).To) = gx z (gx l (i : Int)).From := by omega
            rw [e1, decide_eq_true rfl, decide_eq_true c.symm, Bool.not_true, Bool.or_self, cond_false]
            refine ⟨_, rfl, j1, j2, j3, fun h => ?_⟩
            obtain ⟨k1, k2⟩ := j4 h
            refine ⟨k1, fun j hj' hlt => ?_⟩
            by_cases y : j = (i : Int)
            · subst y; rw [← k1]; exact c
            · exact k2 j hj' (by push_cast at hlt; omega)
          · have hcond : (!decide (gx z (gx l (i : Int)).From = min (gx z (gx l (i : Int)).From) (gx z (gx l (i : Int)).To)) || !decide (gx z (gx l (i : Int)).To = min (gx z (gx l (i : Int)).From) (gx z (gx l (i : Int)).To))) = true := by
              by_cases h : gx z (gx l (i : Int)).From = min (gx z (gx l (i : Int)).From) (gx z (gx l (i : Int)).To)
              · have h2 : ¬ gx z (gx l (i : Int)).To = min (gx z (gx l (i : Int)).From) (gx z (gx l (i : Int)).To) := by omega
                simp only [decide_eq_false h2, Bool.not_false, Bool.or_true]
              · simp only [decide_eq_false h, Bool.not_false, Bool.true_or]
            rw [hcond, cond_true, need_of ⟨a.1, by omega⟩, need_of ⟨b.1, by simp; omega⟩]
            have hm := j1.merge hl hj (k := min (gx z (gx l (i : Int)).From) (gx z (gx l (i : Int)).To)) rfl
            have hle : ∀ v : Nat, v < n → gx ((z.set (gx l (i : Int)).From.toNat (min (gx z (gx l (i : Int)).From) (gx z (gx l (i : Int)).To))).set (gx l (i : Int)).To.toNat (min (gx z (gx l (i : Int)).From) (gx z (gx l (i : Int)).To))) (v : Int) ≤ gx z (v : Int) := fun v hv => by
              rw [merge_val hl hlen hj _ _ (by omega)]
              split
              · rename_i e; rcases e with e | e <;> rw [e] <;> omega
              · exact Int.le_refl _
            refine ⟨_, rfl, hm, fun v hv => Int.le_trans (hle v hv) (j2 v hv), fun _ => ?_, fun h => by cases h⟩
            have hstrict : sumS n ((z.set (gx l (i : Int)).From.toNat (min (gx z (gx l (i : Int)).From) (gx z (gx l (i : Int)).To))).set (gx l (i : Int)).To.toNat (min (gx z (gx l (i : Int)).From) (gx z (gx l (i : Int)).To))) < sumS n z := by
              rcases Int.lt_or_le (gx z (gx l (i : Int)).From) (gx z (gx l (i : Int)).To) with y | y
              · refine sm_lt hle (i := (gx l (i : Int)).To.toNat) (by omega) ?_
                rw [merge_val hl hlen hj _ _ (by omega), if_pos (.inr (by omega)), show (((gx l (i : Int)).To.toNat : Nat) : Int) = (gx l (i : Int)).To by omega]; omega
              · refine sm_lt hle (i := (gx l (i : Int)).From.toNat) (by omega) ?_
                rw [merge_val hl hlen hj _ _ (by omega), if_pos (.inl (by omega)), show (((gx l (i : Int)).From.toNat : Nat) : Int) = (gx l (i : Int)).From by omega]; omega
            exact Int.lt_of_lt_of_le hstrict (sm_le j2))
      obtain ⟨fl, z⟩ := q
      simp only [Int.toNat_natCast] at g2 g3 g4 g5
      rw [g1, Option.bind_some]
      have hpos : ∀ s, Lab n l s → 0 ≤ sumS n s := fun s hs => by
        have := sm_le (f := fun _ => 0) (g := fun i : Nat => gx s (i : Int)) (n := n) (fun i hi => (hs.bd i (by omega) (by omega)).1)
        rw [sm_zero] at this; exact this
      have p1 := hpos _ i1
      have p2 := hpos _ g2
      refine ⟨_, rfl, ⟨g2, fun h => ?_⟩, ?_⟩
      · simp only at h
        obtain ⟨k1, k2⟩ := g5 h
        simp only
        rw [k1]
        exact fun j hj => k2 j hj hj.2
      · simp only
        cases fl with
        | true => have := g4 rfl; simp; omega
        | false => have := (g5 rfl).1; subst this; simp; omega)
  rw [h1, Option.bind_some]
  exact ⟨e, rfl, h2, h3⟩

theorem pieces_eq {n : Nat} {l : List Link} (hn : 1 ≤ n ∧ n ≤ 60) (hl : OKl n l) {c : List Int} (hc : Lab n l c) (hf : Con l (gx c)) : layer_pieces (n : Int) l = some c := by
  have hll := hl.1
  unfold layer_pieces
  rw [need_of ⟨by omega, by omega, by omega⟩, bnd_eq, id_loop hn.2 (step := layer_pieces_L1) (fun i s => rfl), Option.bind_some]
  have gd01 : ∀ (s : List Int) (i : Nat), 0 ≤ (if gx s (i : Int) = gx c (i : Int) then (1 : Int) else 0) ∧ (if gx s (i : Int) = gx c (i : Int) then (1 : Int) else 0) ≤ 1 := fun s i => by split <;> omega
  obtain ⟨s, e1, e2, e3⟩ := rfor_inv (n := (n : Int)) (step := layer_pieces_L2 l) (s0 := idL n) (fun t s => Lab n l s ∧ ((∀ k : Nat, k < n → gx s (k : Int) = gx c (k : Int)) ∨ (t : Int) + 1 ≤ sm (fun i : Nat => if gx s (i : Int) = gx c (i : Int) then 1 else 0) n)) (by omega) ⟨idL_lab, .inr (by
    have h0 := hc.bd 0 (by omega) (by omega)
    have h1 : sm (fun _ : Nat => (0 : Int)) n < sm (fun i : Nat => if gx (idL n) (i : Int) = gx c (i : Int) then 1 else 0) n := sm_lt (i := 0) (fun i hi => (gd01 _ i).1) (by omega) (by
      have h00 : gx (idL n) 0 = 0 := idL_gx (by omega) (by omega)
      rw [if_pos (by show gx (idL n) 0 = gx c 0; omega)]; omega)
    rw [sm_zero] at h1; omega)⟩ (fun t s ht hI => by
      obtain ⟨i1, i2⟩ := hI
      unfold layer_pieces_L2
      obtain ⟨z, g1, g2, g3, g4⟩ := rfor_inv (n := (l.length : Int)) (step := layer_pieces_L3 l) (s0 := s) (fun i z => Lab n l z ∧ (∀ k : Int, 0 ≤ k → k < n → gx s k = gx c k → gx z k = gx c k) ∧ ∀ j : Int, inR l j → j < i → (gx s (gx l j).From = gx c (gx l j).From ∨ gx s (gx l j).To = gx c (gx l j).To) → gx z (gx l j).From = gx c (gx l j).From ∧ gx z (gx l j).To = gx c (gx l j).To) (by omega)
        ⟨i1, fun k k0 k1 h => h, fun j hj hlt => by have := hj.1; omega⟩ (fun i z hi hz => by
          obtain ⟨j1, j2, j3⟩ := hz
          have hj : inR l (i : Int) := ⟨by omega, hi⟩
          obtain ⟨a, b, d⟩ := hl.2 _ hj
          have hlen := j1.len
          unfold layer_pieces_L3
          rw [need_of hj, bnd_eq, need_of ⟨a.1, by omega⟩, need_of ⟨b.1, by omega⟩, bnd_eq, need_of ⟨a.1, by omega⟩, need_of ⟨b.1, by simp; omega⟩]
          have hm := j1.merge hl hj (k := min (gx z (gx l (i : Int)).From) (gx z (gx l (i : Int)).To)) rfl
          have la := j1.low hc hf _ a.1 a.2
          have lb := j1.low hc hf _ b.1 b.2
          have hcc := hf _ hj
          have hmono : ∀ k : Int, 0 ≤ k → k < n → gx z k = gx c k → gx ((z.set (gx l (i : Int)).From.toNat (min (gx z (gx l (i : Int)).From) (gx z (gx l (i : Int)).To))).set (gx l (i : Int)).To.toNat (min (gx z (gx l (i : Int)).From) (gx z (gx l (i : Int)).To))) k = gx c k := fun k k0 k1 hk => by
            rw [merge_val hl hlen hj _ _ k0]
            split
            · rename_i e; rcases e with e | e <;> subst e <;> omega
            · exact hk
          refine ⟨_, rfl, hm, fun k k0 k1 hk => hmono k k0 k1 (j2 k k0 k1 hk), fun j hj' hlt hor => ?_⟩
          by_cases y : j = (i : Int)
          · subst y
            have hz : gx z (gx l (i : Int)).From = gx c (gx l (i : Int)).From ∨ gx z (gx l (i : Int)).To = gx c (gx l (i : Int)).To := hor.imp (j2 _ a.1 a.2) (j2 _ b.1 b.2)
            rw [merge_val hl hlen hj _ _ a.1, merge_val hl hlen hj _ _ b.1, if_pos (.inl rfl), if_pos (.inr rfl)]
            rcases hz with h | h <;> omega
          · obtain ⟨a', b', _⟩ := hl.2 _ hj'
            obtain ⟨k1, k2⟩ := j3 j hj' (by push_cast at hlt; omega) hor
            exact ⟨hmono _ a'.1 a'.2 k1, hmono _ b'.1 b'.2 k2⟩)
      simp only [Int.toNat_natCast] at g4
      refine ⟨z, g1, g2, ?_⟩
      rcases i2 with h | h
      · exact .inl fun k hk => g3 k (by omega) (by omega) (h k hk)
      · have hle : ∀ i : Nat, i < n → (if gx s (i : Int) = gx c (i : Int) then (1 : Int) else 0) ≤ (if gx z (i : Int) = gx c (i : Int) then 1 else 0) := fun i hi => by
          by_cases y : gx s (i : Int) = gx c (i : Int)
          · rw [if_pos y, if_pos (g3 i (by omega) (by omega) y)]; exact Int.le_refl _
          · rw [if_neg y]; exact (gd01 z i).1
        rcases Int.lt_or_le (sm (fun i : Nat => if gx s (i : Int) = gx c (i : Int) then (1 : Int) else 0) n) (sm (fun i : Nat => if gx z (i : Int) = gx c (i : Int) then 1 else 0) n) with y | y
        · right; push_cast; omega
        · left
          have heq := sm_eq hle y
          have back : ∀ k : Int, 0 ≤ k → k < n → gx z k = gx c k → gx s k = gx c k := fun k k0 k1 hk => by
            have := heq k.toNat (by omega)
            rw [show ((k.toNat : Nat) : Int) = k by omega, if_pos hk] at this
            by_cases w : gx s k = gx c k
            · exact w
            · rw [if_neg w] at this; omega
          have hp : Con l (fun v => if gx s v = gx c v then 1 else 0) := fun j hj => by
            obtain ⟨a, b, d⟩ := hl.2 _ hj
            simp only
            by_cases u : gx s (gx l j).From = gx c (gx l j).From
            · obtain ⟨k1, k2⟩ := g4 j hj hj.2 (.inl u)
              rw [if_pos u, if_pos (back _ b.1 b.2 k2)]
            · by_cases u' : gx s (gx l j).To = gx c (gx l j).To
              · obtain ⟨k1, k2⟩ := g4 j hj hj.2 (.inr u')
                exact absurd (back _ a.1 a.2 k1) u
              · rw [if_neg u, if_neg u']
          intro k hk
          have hkb := hc.bd k (by omega) (by omega)
          have h1 := hc.con _ hp k (by omega) (by omega)
          have h2 := hc.con _ hf k (by omega) (by omega)
          have h3 := i1.low hc hf (gx c (k : Int)) hkb.1 (by omega)
          have h4 := i1.bd (gx c (k : Int)) hkb.1 (by omega)
          rw [if_pos (show gx s (gx c (k : Int)) = gx c (gx c (k : Int)) by omega)] at h1
          by_cases w : gx s (k : Int) = gx c (k : Int)
          · exact g3 k (by omega) (by omega) w
          · rw [if_neg w] at h1; omega)
  rw [e1, Option.bind_some]
  congr 1
  have hd : ∀ k : Nat, k < n → gx s (k : Int) = gx c (k : Int) := by
    rcases e3 with h | h
    · exact h
    · have := (sm_bd (f := fun i : Nat => if gx s (i : Int) = gx c (i : Int) then (1 : Int) else 0) (c := 1) (n := n) (fun i hi => gd01 s i)).2
      simp only [Int.toNat_natCast] at h
      omega
  refine List.ext_getElem (by rw [e2.len, hc.len]) fun i h1 h2 => ?_
  have := hd i (by rw [← hc.len]; exact h2)
  rw [gx_nat h1, gx_nat h2] at this
  exact this

theorem Clone_int_eqR {l : List Int} (hl : l.length ≤ 1073741824) : slices_Clone_int l = some l := by
  unfold slices_Clone_int
  rw [need_of (by rw [room_iff]; simpa using hl)]
  simp only [bnd_eq, List.nil_append]
  unfold nilc
  by_cases h : l = []
  · simp [h]
  · rw [if_neg h]
/-- Ranks that are grounded: the least one of each piece is 0. -/
theorem grounded_eq {n : Nat} {l : List Link} (hn : 1 ≤ n ∧ n ≤ 60) (hl : OKl n l) {c r : List Int} (hc : Lab n l c) (hf : Con l (gx c)) (hr : r.length = n) (hb : ∀ k : Int, 0 ≤ k → k < n → 0 ≤ gx r k ∧ gx r k ≤ 1000) :
    ∃ (out : List Int) (m : Int → Int), layer_grounded (n : Int) l r = some out ∧ out.length = n ∧ (∀ k : Int, 0 ≤ k → k < n → gx out k = gx r k - m (gx c k) ∧ 0 ≤ m (gx c k) ∧ m (gx c k) ≤ gx r k ∧ ∃ j : Int, 0 ≤ j ∧ j < n ∧ gx c j = gx c k ∧ gx r j = m (gx c k)) := by
  unfold layer_grounded
  rw [pieces_eq hn hl hc hf, Option.bind_some, Clone_int_eqR (by omega), Option.bind_some]
  have hcl := hc.len
  have hcc : ∀ k : Int, 0 ≤ k → k < n → gx c (gx c k) = gx c k := fun k k0 k1 => hc.con _ hf k k0 k1
  obtain ⟨s, e1, e2, e3, e4⟩ := rfor_inv (n := (n : Int)) (step := layer_grounded_L1 r c) (s0 := r) (fun i s => s.length = n ∧ (∀ k : Int, 0 ≤ k → k < i → gx s (gx c k) ≤ gx r k) ∧ ∀ v : Int, 0 ≤ v → v < n → gx c v = v → ∃ j : Int, 0 ≤ j ∧ j < n ∧ gx c j = v ∧ gx r j = gx s v) (by omega) ⟨hr, fun k k0 k1 => by omega, fun v v0 v1 hv => ⟨v, v0, v1, hv, rfl⟩⟩ (fun i s hi hI => by
    obtain ⟨i1, i2, i3⟩ := hI
    have hbi := hc.bd i (by omega) (by omega)
    unfold layer_grounded_L1
    rw [need_of ⟨by omega, by omega⟩, need_of ⟨by omega, by omega⟩, need_of ⟨by omega, by omega⟩, need_of ⟨by omega, by omega⟩, bnd_eq, need_of ⟨by omega, by omega⟩]
    have hir : inR s (gx c (i : Int)) := ⟨by omega, by omega⟩
    refine ⟨_, rfl, by simp [i1], fun k k0 k1 => ?_, fun v v0 v1 hv => ?_⟩
    · have hk : k < n := by push_cast at k1; omega
      have hkb := hc.bd k k0 hk
      rw [gx_setJ hir hkb.1]
      by_cases y : k = (i : Int)
      · subst y; rw [if_pos rfl]; omega
      · have := i2 k k0 (by push_cast at k1; omega)
        split
        · rename_i w; rw [w] at this; omega
        · exact this
    · rw [gx_setJ hir v0]
      by_cases y : v = gx c (i : Int)
      · rw [if_pos y]
        obtain ⟨j, j0, j1, j2, j3⟩ := i3 v v0 v1 hv
        by_cases w : gx r (i : Int) < gx s (gx c (i : Int))
        · exact ⟨i, by omega, by omega, y.symm, by omega⟩
        · exact ⟨j, j0, j1, j2, by rw [← y] at w ⊢; omega⟩
      · rw [if_neg y]; exact i3 v v0 v1 hv)
  rw [e1, Option.bind_some, need_of ⟨by omega, by omega, by omega⟩, bnd_eq]
  simp only [Int.toNat_natCast] at e3
  have hm : ∀ k : Int, 0 ≤ k → k < n → 0 ≤ gx s (gx c k) ∧ gx s (gx c k) ≤ gx r k ∧ ∃ j : Int, 0 ≤ j ∧ j < n ∧ gx c j = gx c k ∧ gx r j = gx s (gx c k) := fun k k0 k1 => by
    have hkb := hc.bd k k0 k1
    obtain ⟨j, j0, j1, j2, j3⟩ := e4 (gx c k) hkb.1 (by omega) (hcc k k0 k1)
    have := hb j j0 j1
    exact ⟨by omega, e3 k k0 k1, j, j0, j1, j2, j3⟩
  obtain ⟨o, o1, o2, o3⟩ := rfor_inv (n := (n : Int)) (step := layer_grounded_L2 r s c) (s0 := List.replicate (n : Int).toNat (0 : Int)) (fun i o => o.length = n ∧ ∀ k : Int, 0 ≤ k → k < i → gx o k = gx r k - gx s (gx c k)) (by omega) ⟨by simp, fun k k0 k1 => by omega⟩ (fun i o hi hI => by
    obtain ⟨i1, i2⟩ := hI
    have hbi := hc.bd i (by omega) (by omega)
    have hmi := hm i (by omega) (by omega)
    have hri := hb i (by omega) (by omega)
    unfold layer_grounded_L2
    have hir : inR o (i : Int) := ⟨by omega, by omega⟩
    rw [need_of ⟨by omega, by omega⟩, need_of ⟨by omega, by omega⟩, need_of ⟨by omega, by omega⟩, bnd_eq, need_of hir, Wk (by omega) (by omega)]
    refine ⟨_, rfl, by simp [i1], fun k k0 k1 => ?_⟩
    rw [gx_setJ hir k0]
    by_cases y : k = (i : Int)
    · subst y; rw [if_pos rfl]
    · rw [if_neg y]; exact i2 k k0 (by push_cast at k1; omega))
  rw [o1, Option.bind_some]
  simp only [Int.toNat_natCast] at o3
  exact ⟨o, gx s, rfl, o2, fun k k0 k1 => ⟨o3 k k0 k1, hm k k0 k1⟩⟩
end Go.DB
