/-
  What Near computes: at each threshold the boxes from the best place on are raised.
-/
import Derived.Test.YtbahnfkccdlpnaaTLaPuNear0
import Derived.Test.YtbahnfkccdlpnaaTLaPuNorm
set_option linter.unusedSimpArgs false
set_option linter.unusedVariables false
namespace Go.DB
open Go Go.RowKit

/-! Tables. -/
def tabI (n : Nat) (f : Nat → Int) : List Int := (List.range n).map f
theorem tabI_len {n : Nat} {f : Nat → Int} : (tabI n f).length = n := by simp [tabI]
theorem gx_tabI {n : Nat} {f : Nat → Int} {i : Nat} (h : i < n) : gx (tabI n f) (i : Int) = f i := by
  rw [gx_nat (by rw [tabI_len]; exact h)]; simp [tabI]
theorem tabI_of {n : Nat} {f : Nat → Int} {l : List Int} (hl : l.length = n) (h : ∀ i : Nat, i < n → gx l (i : Int) = f i) : l = tabI n f := by
  refine List.ext_getElem (by rw [tabI_len, hl]) (fun i h1 h2 => ?_)
  have := h i (by omega)
  rw [gx_nat h1] at this
  rw [this]; simp [tabI]
theorem gx_setN {l : List Int} {k : Nat} {v : Int} (hk : k < l.length) (t : Nat) : gx (l.set k v) (t : Int) = if t = k then v else gx l (t : Int) := by
  unfold gx
  rw [List.getElem?_set]
  by_cases h : t = k
  · subst h; simp [hk]
  · have : ¬ k = t := fun e => h e.symm
    simp [this, h]
theorem rfor_tab {n : Nat} {step : Int → List Int → Option (List Int)} {s0 : List Int} (f : Nat → Int) (h0 : s0.length = n) (hn : (n : Int) ≤ 9223372036854775807) (hs : ∀ (i : Nat) s, i < n → s.length = n → step i s = some (s.set i (f i))) :
    rfor (n : Int) step s0 = some (tabI n f) := by
  obtain ⟨s, h1, h2, h3⟩ := rfor_inv (n := (n : Int)) (step := step) (s0 := s0) (fun i s => s.length = n ∧ ∀ j : Nat, j < i → gx s (j : Int) = f j) hn ⟨h0, fun j hj => by omega⟩ (fun i s hi hI => by
    obtain ⟨a, b⟩ := hI
    refine ⟨_, hs i s (by omega) a, by simp [a], fun j hj => ?_⟩
    rw [gx_setN (by omega)]
    by_cases e : j = i
    · rw [if_pos e, e]
    · rw [if_neg e]; exact b j (by omega))
  rw [h1, tabI_of h2 (fun i hi => h3 i (by simpa using hi))]

/-! Offsets. -/
def offF (size : List Int) (gap : Int) : Nat → Int
  | 0 => 0
  | i + 1 => offF size gap i + gx size (i : Int) + gap
structure NearOK (want size : List Int) (gap : Int) : Prop where
  len : want.length = size.length
  le : want.length ≤ 1000
  wantB : ∀ i : Nat, i < want.length → -1000000 ≤ gx want (i : Int) ∧ gx want (i : Int) ≤ 1000000
  sizeB : ∀ i : Nat, i < want.length → 1 ≤ gx size (i : Int) ∧ gx size (i : Int) ≤ 20000
  gapB : 0 ≤ gap ∧ gap ≤ 1000
theorem offF_bd {want size : List Int} {gap : Int} (h : NearOK want size gap) : ∀ i : Nat, i ≤ want.length → 0 ≤ offF size gap i ∧ offF size gap i ≤ i * 21000
  | 0, _ => by simp [offF]
  | i + 1, hi => by
    have ih := offF_bd h i (by omega)
    have := h.sizeB i (by omega)
    have := h.gapB
    have e : offF size gap (i + 1) = offF size gap i + gx size (i : Int) + gap := rfl
    rw [e]
    push_cast; omega
theorem off_loop {want size : List Int} {gap : Int} (h : NearOK want size gap) {body : Int × List Int → Option (Step (Int × List Int) (List Int))}
    (hb : ∀ s, body s = bif decide (s.1 < (want.length : Int)) then (need (inR s.2 (W (s.1 - 1))) <| need (inR size (W (s.1 - 1))) <| bnd (W ((W ((gx s.2 (W (s.1 - 1))) + (gx size (W (s.1 - 1))))) + gap)) fun v1 => need (inR s.2 s.1) <|
      bnd (s.2.set s.1.toNat v1) fun offset2 => bnd (W (s.1 + 1)) fun i1 => some (Step.again (i1, offset2))) else some (Step.done s.2)) :
    loop body (1, List.replicate ((want.length : Nat) : Int).toNat (0 : Int)) = some (tabI want.length (offF size gap)) := by
  have hle := h.le
  have hln := h.len
  obtain ⟨e, h1, h2, h3⟩ := loop_inv (body := body) (s0 := (1, List.replicate ((want.length : Nat) : Int).toNat (0 : Int)))
    (fun s => ∃ i : Nat, s.1 = i ∧ 1 ≤ i ∧ (i ≤ want.length ∨ i = 1) ∧ s.2.length = want.length ∧ ∀ j : Nat, j < i → j < want.length → gx s.2 (j : Int) = offF size gap j)
    (fun s => ((want.length : Int) - s.1).toNat) (fun e => e.length = want.length ∧ ∀ j : Nat, j < want.length → gx e (j : Int) = offF size gap j)
    ⟨1, rfl, by omega, .inr rfl, by simp, fun j hj hl => by
      have : j = 0 := by omega
      subst this
      unfold gx
      simp [List.getElem?_replicate, hl, offF]⟩ (fun s hs => by
      obtain ⟨i, i1, i2, i3, i4, i5⟩ := hs
      obtain ⟨si, l⟩ := s
      simp only at i1 i4 i5
      subst i1
      rw [hb]
      simp only
      by_cases c : i < want.length
      · left
        have e1 : ((i : Int) - 1) = ((i - 1 : Nat) : Int) := by omega
        have hsz := h.sizeB (i - 1) (by omega)
        have hof := offF_bd h (i - 1) (by omega)
        have hgp := h.gapB
        rw [decide_eq_true (p := (i : Int) < (want.length : Int)) (by omega), cond_true, Wk (n := (i : Int) - 1) (by omega) (by omega), e1, need_of ⟨by omega, by omega⟩, need_of ⟨by omega, by omega⟩, bnd_eq, i5 (i - 1) (by omega) (by omega),
          Wk (n := offF size gap (i - 1) + _) (by omega) (by omega), Wk (n := offF size gap (i - 1) + _ + _) (by omega) (by omega), need_of ⟨by omega, by omega⟩, bnd_eq, bnd_eq, Wk (by omega) (by omega)]
        refine ⟨_, rfl, ⟨i + 1, by simp, by omega, .inl (by omega), by simp [i4], fun j hj hl => ?_⟩, by simp only; omega⟩
        simp only [Int.toNat_natCast]
        rw [gx_setN (by omega)]
        by_cases z : j = i
        · rw [if_pos z, z]
          obtain ⟨q, rfl⟩ : ∃ q, i = q + 1 := ⟨i - 1, by omega⟩
          rfl
        · rw [if_neg z]; exact i5 j (by omega) hl
      · right
        rw [decide_eq_false (p := (i : Int) < (want.length : Int)) (by omega), cond_false]
        exact ⟨_, rfl, i4, fun j hj => i5 j (by omega) hj⟩)
  rw [h1, tabI_of h2 h3]

def lvl (want size : List Int) (gap : Int) (i : Nat) : Int := gx want (i : Int) - offF size gap i
theorem lvl_bd {want size : List Int} {gap : Int} (h : NearOK want size gap) {i : Nat} (hi : i < want.length) : -22000000 ≤ lvl want size gap i ∧ lvl want size gap i ≤ 1000000 := by
  have := h.wantB i hi
  have := offF_bd h i (by omega)
  have := h.le
  unfold lvl; omega

/-- The values that places can have, less the offsets. -/
noncomputable def vals (want size : List Int) (gap : Int) : List Int := normI (tabI want.length (lvl want size gap))
theorem vals_facts {want size : List Int} {gap : Int} (h : NearOK want size gap) : (vals want size gap).length ≤ want.length ∧ (∀ i j : Nat, i < j → j < (vals want size gap).length → gx (vals want size gap) (i : Int) < gx (vals want size gap) (j : Int)) ∧
    (∀ i, i < want.length → ∃ k : Nat, k < (vals want size gap).length ∧ lvl want size gap i = gx (vals want size gap) (k : Int)) ∧ ∀ k : Nat, k < (vals want size gap).length → -22000000 ≤ gx (vals want size gap) (k : Int) ∧ gx (vals want size gap) (k : Int) ≤ 1000000 := by
  obtain ⟨a1, a2⟩ := compactI_strict (sortI_pw (tabI want.length (lvl want size gap)))
  have hm : ∀ x, x ∈ vals want size gap ↔ x ∈ tabI want.length (lvl want size gap) := fun x => (a2 x).trans sortI_mem
  have hl := normI_len (tabI want.length (lvl want size gap))
  rw [tabI_len] at hl
  refine ⟨hl, fun i j hij hj => ?_, fun i hi => ?_, fun k hk => ?_⟩
  · rw [gx_nat (by omega), gx_nat hj]
    exact List.pairwise_iff_getElem.1 a1 i j (Nat.lt_trans hij hj) hj hij
  · have : lvl want size gap i ∈ vals want size gap := (hm _).2 (List.mem_map.2 ⟨i, List.mem_range.2 hi, rfl⟩)
    obtain ⟨k, hk, e⟩ := List.getElem_of_mem this
    exact ⟨k, hk, by rw [gx_nat hk, e]⟩
  · rw [gx_nat hk]
    obtain ⟨i, hi, e⟩ := List.mem_map.1 ((hm _).1 (List.getElem_mem hk))
    rw [← e]; exact lvl_bd h (List.mem_range.1 hi)
theorem vals_eq {want size : List Int} {gap : Int} (h : NearOK want size gap) : (Option.bind (slices_Values_int (tabI want.length (lvl want size gap))) fun r1 => Option.bind (slices_Sorted_int r1) fun r2 => slices_Compact_int r2) = some (vals want size gap) := by
  have hle := h.le
  have hl : (tabI want.length (lvl want size gap)).length ≤ 1073741824 := by rw [tabI_len]; omega
  have e : slices_Sorted_int (⟨tabI want.length (lvl want size gap)⟩ : SeqI) = some (sortI (tabI want.length (lvl want size gap))) := by
    unfold slices_Sorted_int; rw [need_of hl]
  show Option.bind (some (⟨tabI want.length (lvl want size gap)⟩ : SeqI)) _ = _
  rw [Option.bind_some, e, Option.bind_some]
  have h2 : (sortI (tabI want.length (lvl want size gap))).length ≤ 1073741824 := by simp [sortI]; exact hl
  unfold slices_Compact_int
  rw [need_of (by omega)]; rfl

theorem suf_end {n : Nat} {l : Nat → Int} {t : Int} : sufT n l t n = 0 := by
  have : sufT n l t n = sm (fun _ => 0) n := sm_congr fun i hi => by rw [if_neg (by omega)]
  rw [this, sm_zero]
theorem suf_step {n : Nat} {l : Nat → Int} {t : Int} : ∀ {i : Nat}, i < n → sufT n l t i = sufT n l t (i + 1) + sgT (l i) t := by
  induction n with
  | zero => intro i h; omega
  | succ n ih =>
    intro i h
    show sufT n l t i + (if i ≤ n then sgT (l n) t else 0) = sufT n l t (i + 1) + (if i + 1 ≤ n then sgT (l n) t else 0) + sgT (l i) t
    by_cases c : i = n
    · subst c
      have e1 : sufT i l t (i + 1) = 0 := by
        have : sufT i l t (i + 1) = sm (fun _ => 0) i := sm_congr fun j hj => by rw [if_neg (by omega)]
        rw [this, sm_zero]
      rw [suf_end, e1, if_pos (Nat.le_refl _), if_neg (by omega)]; omega
    · rw [ih (by omega), if_pos (by omega), if_pos (by omega)]; omega
theorem suf_bd {n : Nat} {l : Nat → Int} {t : Int} (p : Nat) : -(n : Int) ≤ sufT n l t p ∧ sufT n l t p ≤ n := by
  induction n with
  | zero => simp [sufT, sm]
  | succ n ih =>
    have e : sufT (n + 1) l t p = sufT n l t p + (if p ≤ n then sgT (l n) t else 0) := rfl
    have : -1 ≤ (if p ≤ n then sgT (l n) t else 0) ∧ (if p ≤ n then sgT (l n) t else 0) ≤ 1 := by unfold sgT; split <;> (try split) <;> omega
    rw [e]; push_cast; omega

/-- The inner loop finds from where on it is best. -/
theorem from_loop {n : Nat} {l : Nat → Int} {vs : List Int} {k : Nat} {s37 : Int × List Int} (hn : n ≤ 1000) (hk : k < vs.length) (hs : s37.1 = k) :
    ∃ fr : Nat, loop (layer_near_L5 (tabI n l) s37 vs) ((n : Int), 0, 0, (n : Int) - 1) = some (fr : Int) ∧ Arg n l (gx vs (k : Int)) fr := by
  obtain ⟨e, h1, fr, h2, h3⟩ := loop_inv (body := layer_near_L5 (tabI n l) s37 vs) (s0 := ((n : Int), 0, 0, (n : Int) - 1))
    (fun s => ∃ p fr : Nat, s.2.2.2 = (p : Int) - 1 ∧ p ≤ fr ∧ fr ≤ n ∧ s.1 = fr ∧ s.2.1 = sufT n l (gx vs (k : Int)) fr ∧ s.2.2.1 = sufT n l (gx vs (k : Int)) p ∧
      (∀ q, p ≤ q → q ≤ n → sufT n l (gx vs (k : Int)) fr ≤ sufT n l (gx vs (k : Int)) q) ∧ ∀ q, fr < q → q ≤ n → sufT n l (gx vs (k : Int)) fr < sufT n l (gx vs (k : Int)) q)
    (fun s => (s.2.2.2 + 1).toNat) (fun e => ∃ fr : Nat, e = fr ∧ Arg n l (gx vs (k : Int)) fr)
    ⟨n, n, rfl, Nat.le_refl _, Nat.le_refl _, rfl, suf_end.symm, suf_end.symm, fun q a b => (by have : q = n := (by omega); rw [this]; exact Int.le_refl _), fun q a b => (by omega)⟩ (fun s hI => by
      obtain ⟨p, fr, g1, g2, g3, g4, g5, g6, g7, g8⟩ := hI
      obtain ⟨s1, s2, s3, s4⟩ := s
      simp only at g1 g4 g5 g6
      subst g1 g4 g5 g6
      unfold layer_near_L5
      simp only [hs]
      generalize hv : gx vs (k : Int) = v at *
      by_cases c : p = 0
      · right
        subst c
        rw [decide_eq_false (p := (0 : Int) ≤ ((0 : Nat) : Int) - 1) (by omega), cond_false]
        exact ⟨_, rfl, fr, rfl, g3, fun q hq => g7 q (Nat.zero_le _) hq, g8⟩
      · left
        obtain ⟨i, rfl⟩ : ∃ i, p = i + 1 := ⟨p - 1, by omega⟩
        have e1 : ((i + 1 : Nat) : Int) - 1 = (i : Int) := by omega
        have hst := suf_step (l := l) (t := v) (i := i) (n := n) (by omega)
        have hb := suf_bd (n := n) (l := l) (t := v) (i + 1)
        rw [e1, decide_eq_true (p := (0 : Int) ≤ (i : Int)) (by omega), cond_true, need_of ⟨by omega, by rw [tabI_len]; omega⟩, need_of ⟨by omega, by omega⟩, gx_tabI (by omega)]
        have hin : (Option.bind (α := Int) (bif decide (l i < v) then (bnd (W (sufT n l v (i + 1) + 1)) fun sum1 => some sum1) else (bnd (W (sufT n l v (i + 1) - 1)) fun sum2 => some sum2)) fun j_47 =>
            bif decide (j_47 < sufT n l v fr) then some ((i : Int), j_47, j_47) else some ((fr : Int), sufT n l v fr, j_47)) = (bif decide (sufT n l v i < sufT n l v fr) then some ((i : Int), sufT n l v i, sufT n l v i) else some ((fr : Int), sufT n l v fr, sufT n l v i)) := by
          rw [hst]
          unfold sgT
          by_cases d : l i < v
          · rw [decide_eq_true d, cond_true, if_pos d, bnd_eq, Option.bind_some, Wk (by omega) (by omega)]
          · rw [decide_eq_false d, cond_false, if_neg d, bnd_eq, Option.bind_some, Wk (by omega) (by omega)]; rfl
        rw [hin]
        by_cases d : sufT n l v i < sufT n l v fr
        · rw [decide_eq_true d, cond_true, Option.bind_some, bnd_eq, Wk (by omega) (by omega)]
          refine ⟨_, rfl, ⟨i, i, rfl, Nat.le_refl _, by omega, rfl, rfl, rfl, fun q a b => ?_, fun q a b => ?_⟩, by simp only; omega⟩
          · by_cases z : q = i
            · subst z; exact Int.le_refl _
            · have := g7 q (by omega) b; omega
          · have := g7 q (by omega) b; omega
        · rw [decide_eq_false d, cond_false, Option.bind_some, bnd_eq, Wk (by omega) (by omega)]
          refine ⟨_, rfl, ⟨i, fr, rfl, by omega, g3, rfl, rfl, rfl, fun q a b => ?_, g8⟩, by simp only; omega⟩
          by_cases z : q = i
          · subst z; omega
          · exact g7 q (by omega) b)
  exact ⟨fr, by rw [h1, h2], h3⟩

/-- The last loop raises. -/
theorem raise_loop {n : Nat} {of : Nat → Int} {vs : List Int} {k fr : Nat} {s37 : Int × List Int} {out : List Int} (hn : n ≤ 1000) (hk : k < vs.length) (hs : s37.1 = k) (hfr : fr ≤ n) (hout : out.length = n)
    (hb : ∀ j : Nat, j < n → -1000000000 ≤ gx vs (k : Int) + of j ∧ gx vs (k : Int) + of j ≤ 1000000000) :
    ∃ o, loop (layer_near_L6 (n : Int) (tabI n of) s37 vs) ((fr : Int), out) = some o ∧ o.length = n ∧ ∀ j : Nat, j < n → gx o (j : Int) = if fr ≤ j then gx vs (k : Int) + of j else gx out (j : Int) := by
  refine loop_inv (body := layer_near_L6 (n : Int) (tabI n of) s37 vs) (s0 := ((fr : Int), out))
    (fun s => ∃ p : Nat, s.1 = p ∧ fr ≤ p ∧ p ≤ n ∧ s.2.length = n ∧ ∀ j : Nat, j < n → gx s.2 (j : Int) = if fr ≤ j ∧ j < p then gx vs (k : Int) + of j else gx out (j : Int))
    (fun s => ((n : Int) - s.1).toNat) _ ⟨fr, rfl, Nat.le_refl _, hfr, hout, fun j hj => by rw [if_neg (by omega)]⟩ (fun s hI => ?_)
  obtain ⟨p, g1, g2, g3, g4, g5⟩ := hI
  obtain ⟨s1, o⟩ := s
  simp only at g1 g4 g5
  subst g1
  unfold layer_near_L6
  simp only [hs]
  by_cases c : p < n
  · left
    have := hb p c
    rw [decide_eq_true (p := (p : Int) < (n : Int)) (by omega), cond_true, need_of ⟨by omega, by omega⟩, need_of ⟨by omega, by rw [tabI_len]; omega⟩, gx_tabI c, bnd_eq, Wk (n := gx vs (k : Int) + of p) (by omega) (by omega), need_of ⟨by omega, by omega⟩, bnd_eq, bnd_eq, Wk (by omega) (by omega)]
    refine ⟨_, rfl, ⟨p + 1, by simp, by omega, by omega, by simp [g4], fun j hj => ?_⟩, by simp only; omega⟩
    simp only [Int.toNat_natCast]
    rw [gx_setN (by omega)]
    by_cases z : j = p
    · subst z; rw [if_pos rfl, if_pos (by omega)]
    · rw [if_neg z, g5 j hj]
      by_cases y : fr ≤ j ∧ j < p
      · rw [if_pos y, if_pos (by omega)]
      · rw [if_neg y, if_neg (by omega)]
  · right
    obtain rfl : p = n := by omega
    rw [decide_eq_false (p := (p : Int) < (p : Int)) (by omega), cond_false]
    refine ⟨_, rfl, g4, fun j hj => ?_⟩
    rw [g5 j hj]
    by_cases y : fr ≤ j
    · rw [if_pos ⟨y, hj⟩, if_pos y]
    · rw [if_neg (fun h => y h.1), if_neg y]

/-- The values by number. -/
noncomputable def vl (want size : List Int) (gap : Int) (k : Nat) : Int := gx (vals want size gap) (k : Int)
theorem near_eq {want size : List Int} {gap : Int} (h : NearOK want size gap) (h1 : 1 ≤ want.length) : ∃ (out : List Int) (K : Nat → Nat), layer_near want size gap = some out ∧ out.length = want.length ∧
    (∀ i : Nat, i < want.length → K i < (vals want size gap).length ∧ gx out (i : Int) = vl want size gap (K i) + offF size gap i) ∧ (∀ i j, i ≤ j → j < want.length → K i ≤ K j) ∧ Bst want.length (fun i => vl want size gap (K i)) (lvl want size gap) := by
  have hle := h.le
  have hln := h.len
  obtain ⟨v1, v2, v3, v4⟩ := vals_facts h
  have hm : 0 < (vals want size gap).length := by obtain ⟨k, hk, _⟩ := v3 0 (by omega); omega
  unfold layer_near
  rw [bnd_eq, need_of ⟨by omega, by omega, by omega⟩, bnd_eq, off_loop h (body := layer_near_L1 (want.length : Int) gap size) (fun s => rfl), Option.bind_some, need_of ⟨by omega, by omega, by omega⟩, bnd_eq]
  have e2 : rfor ((List.replicate ((want.length : Nat) : Int).toNat (0 : Int)).length : Int) (layer_near_L2 (tabI want.length (offF size gap)) want) (List.replicate ((want.length : Nat) : Int).toNat (0 : Int)) = some (tabI want.length (lvl want size gap)) := by
    have e : ((List.replicate ((want.length : Nat) : Int).toNat (0 : Int)).length : Int) = ((want.length : Nat) : Int) := by simp
    rw [e]
    refine rfor_tab _ (by simp) (by omega) (fun i s hi hs => ?_)
    unfold layer_near_L2
    have := h.wantB i hi
    have := offF_bd h i (by omega)
    rw [need_of ⟨by omega, by omega⟩, need_of ⟨by omega, by rw [tabI_len]; omega⟩, bnd_eq, gx_tabI hi, Wk (by omega) (by omega), need_of ⟨by omega, by omega⟩]
    rfl
  have e3 := vals_eq h
  rw [e2, Option.bind_some]
  obtain ⟨r1, hr1, e3⟩ := Option.bind_eq_some_iff.1 e3
  obtain ⟨r2, hr2, e3⟩ := Option.bind_eq_some_iff.1 e3
  rw [hr1, Option.bind_some, hr2, Option.bind_some, e3, Option.bind_some, need_of ⟨by omega, by omega, by omega⟩, bnd_eq]
  have e4 : rfor ((List.replicate ((want.length : Nat) : Int).toNat (0 : Int)).length : Int) (layer_near_L3 (tabI want.length (offF size gap)) (vals want size gap)) (List.replicate ((want.length : Nat) : Int).toNat (0 : Int)) = some (tabI want.length (fun i => vl want size gap 0 + offF size gap i)) := by
    have e : ((List.replicate ((want.length : Nat) : Int).toNat (0 : Int)).length : Int) = ((want.length : Nat) : Int) := by simp
    rw [e]
    refine rfor_tab _ (by simp) (by omega) (fun i s hi hs => ?_)
    unfold layer_near_L3
    have := v4 0 hm
    have := offF_bd h i (by omega)
    have e0 : (0 : Int) = ((0 : Nat) : Int) := rfl
    rw [need_of ⟨by omega, by omega⟩, need_of ⟨by omega, by rw [tabI_len]; omega⟩, bnd_eq, gx_tabI hi, e0, Wk (by omega) (by omega), need_of ⟨by omega, by omega⟩]
    rfl
  rw [e4, Option.bind_some]
  obtain ⟨o, f1, f2, fr, K, f3, f4, f5⟩ := loop_inv (body := layer_near_L4 (want.length : Int) (tabI want.length (offF size gap)) (tabI want.length (lvl want size gap)) (vals want size gap)) (s0 := (1, tabI want.length (fun i => vl want size gap 0 + offF size gap i)))
    (fun s => ∃ k : Nat, s.1 = k ∧ 1 ≤ k ∧ k ≤ (vals want size gap).length ∧ s.2.length = want.length ∧ ∃ (fr : Nat → Nat) (K : Nat → Nat), (∀ t, 0 < t → t < k → Arg want.length (lvl want size gap) (vl want size gap t) (fr t)) ∧
      (∀ j, j < want.length → K j < k ∧ (K j = 0 ∨ fr (K j) ≤ j) ∧ ∀ t, K j < t → t < k → ¬ fr t ≤ j) ∧ ∀ j : Nat, j < want.length → gx s.2 (j : Int) = vl want size gap (K j) + offF size gap j)
    (fun s => (((vals want size gap).length : Int) - s.1).toNat)
    (fun o => o.length = want.length ∧ ∃ (fr : Nat → Nat) (K : Nat → Nat), (∀ t, 0 < t → t < (vals want size gap).length → Arg want.length (lvl want size gap) (vl want size gap t) (fr t)) ∧
      (∀ j, j < want.length → K j < (vals want size gap).length ∧ (K j = 0 ∨ fr (K j) ≤ j) ∧ ∀ t, K j < t → t < (vals want size gap).length → ¬ fr t ≤ j) ∧ ∀ j : Nat, j < want.length → gx o (j : Int) = vl want size gap (K j) + offF size gap j)
    ⟨1, rfl, by omega, by omega, tabI_len, fun _ => 0, fun _ => 0, fun t a b => by omega, fun j hj => ⟨Nat.zero_lt_one, .inl rfl, fun t a b => (by omega)⟩, fun j hj => gx_tabI hj⟩ (fun s hI => by
      obtain ⟨k, k1, k2, k3, k4, fr, K, k5, k6, k7⟩ := hI
      obtain ⟨sk, o⟩ := s
      simp only at k1 k4 k7
      subst k1
      unfold layer_near_L4
      simp only
      by_cases c : k < (vals want size gap).length
      · left
        rw [decide_eq_true (p := (k : Int) < ((vals want size gap).length : Int)) (by omega), cond_true, bnd_eq, Wk (n := (want.length : Int) - 1) (by omega) (by omega)]
        obtain ⟨f, q1, q2⟩ := from_loop (l := lvl want size gap) (s37 := ((k : Int), o)) hle c rfl
        rw [q1, Option.bind_some]
        obtain ⟨o', p1, p2, p3⟩ := raise_loop (of := offF size gap) (s37 := ((k : Int), o)) (fr := f) hle c rfl q2.1 k4 (fun j hj => by
          have := v4 k c
          have := offF_bd h j (by omega)
          omega)
        rw [p1, Option.bind_some, bnd_eq, Wk (by omega) (by omega)]
        refine ⟨_, rfl, ⟨k + 1, by simp, by omega, by omega, p2, fun t => if t = k then f else fr t, fun j => if f ≤ j then k else K j, fun t a b => ?_, fun j hj => ?_, fun j hj => ?_⟩, by simp only; omega⟩
        · by_cases z : t = k
          · subst z; simp only [if_pos]; exact q2
          · simp only [if_neg z]; exact k5 t a (by omega)
        · obtain ⟨a1, a2, a3⟩ := k6 j hj
          by_cases z : f ≤ j
          · simp only [if_pos z]
            exact ⟨by omega, .inr (by simp only [if_true]; exact z), fun t a b => by omega⟩
          · simp only [if_neg z]
            refine ⟨by omega, ?_, fun t a b => ?_⟩
            · rcases a2 with e | e
              · exact .inl e
              · exact .inr (by rw [if_neg (by omega)]; exact e)
            · by_cases y : t = k
              · rw [if_pos y]; exact z
              · rw [if_neg y]; exact a3 t a (by omega)
        · simp only
          rw [p3 j hj]
          by_cases z : f ≤ j
          · rw [if_pos z, if_pos z]; rfl
          · rw [if_neg z, if_neg z]; exact k7 j hj
      · right
        obtain rfl : k = (vals want size gap).length := by omega
        rw [decide_eq_false (p := (((vals want size gap).length : Nat) : Int) < ((vals want size gap).length : Int)) (by omega), cond_false]
        exact ⟨_, rfl, k4, fr, K, k5, k6, k7⟩)
  rw [f1, Option.bind_some]
  have hR := Bst.raise (K := K) hm (fun i j a b => v2 i j a b) (fun i hi => v3 i hi) f3 f4
  refine ⟨o, K, rfl, f2, fun i hi => ⟨(f4 i hi).1, f5 i hi⟩, fun i j a b => ?_, hR⟩
  have h3 : vl want size gap (K i) ≤ vl want size gap (K j) := hR.ris i j a b
  rcases Nat.lt_or_ge (K j) (K i) with c | c
  · have := v2 (K j) (K i) c (f4 i (by omega)).1
    unfold vl at h3; omega
  · exact c
end Go.DB
