/-
  The best order of few nodes: what the reference computes; the law.
-/
import Derived.Test.YtbahnfkccdlpnaaOrdPuOrders2
import Derived.Test.YtbahnfkccdlpnaaOrdPuGraph
set_option linter.unusedSimpArgs false
set_option linter.unusedVariables false
namespace Go.DB
open Go Go.RowKit

theorem IndexFunc_Link_eq (s : List Link) (f : Link → Option Bool) (p : Link → Bool) (hl : (s.length : Int) ≤ 9223372036854775807) (hf : ∀ x ∈ s, f x = some (p x)) :
    slices_IndexFunc_Link s f = some (match s.findIdx? p with | some i => (i : Int) | none => -1) := by
  unfold slices_IndexFunc_Link
  rw [rforE_index p hl (fun i h => by unfold slices_IndexFunc_Link_L1; rw [need_of ⟨by omega, by omega⟩, gx_nat h, hf _ (List.getElem_mem h)]; simp only [bind_sm]; cases p s[i] <;> rfl)]
  cases s.findIdx? p <;> rfl
theorem DeleteFunc_Link_eq (s : List Link) (f : Link → Option Bool) (p : Link → Bool) (hl : s.length ≤ 1000000) (hf : ∀ x ∈ s, f x = some (p x)) : slices_DeleteFunc_Link s f = some (s.filter (fun x => !p x)) := by
  unfold slices_DeleteFunc_Link
  rw [IndexFunc_Link_eq s f p (by omega) hf, Option.bind_some]
  cases hfi : s.findIdx? p with
  | none =>
    simp only [decide_true, cond_true]
    congr 1
    rw [List.findIdx?_eq_none_iff] at hfi
    exact (List.filter_eq_self.2 fun x hx => by rw [hfi x hx]; rfl).symm
  | some i0 =>
    obtain ⟨h0, hp0, hbef⟩ := List.findIdx?_eq_some_iff_getElem.1 hfi
    simp only
    rw [decide_eq_false (p := (i0 : Int) = -1) (by omega), cond_false, bnd_eq, Wk (n := (i0 : Int) + 1) (by omega) (by omega)]
    obtain ⟨e, e1, i, e2, e3, e4, e5⟩ := loop_inv (body := slices_DeleteFunc_Link_L1 f) (s0 := ((i0 : Int), (i0 : Int) + 1, s))
      (fun st => ∃ i j : Nat, st.1 = i ∧ st.2.1 = j ∧ i < j ∧ j ≤ s.length ∧ st.2.2.length = s.length ∧ st.2.2.take i = (s.take j).filter (fun x => !p x) ∧ st.2.2.drop j = s.drop j)
      (fun st => ((s.length : Int) - st.2.1).toNat) (fun e => ∃ i : Nat, e.1 = i ∧ i ≤ s.length ∧ e.2.length = s.length ∧ e.2.take i = s.filter (fun x => !p x))
      ⟨i0, i0 + 1, rfl, by simp, by omega, by omega, rfl, by
        rw [List.take_succ_eq_append_getElem h0, List.filter_append]
        have : List.filter (fun x => !p x) [s[i0]] = [] := by simp [hp0]
        rw [this, List.append_nil]
        refine (List.filter_eq_self.2 fun x hx => ?_).symm
        obtain ⟨t, ht, rfl⟩ := List.getElem_of_mem hx
        simp at ht ⊢
        have := hbef t (by omega)
        simpa using this, rfl⟩ (fun st hI => by
        obtain ⟨i, j, i1, i2, i3, i4, i5, i6, i7⟩ := hI
        obtain ⟨a, b, z⟩ := st
        simp only at i1 i2 i5 i6 i7
        subst i1 i2
        unfold slices_DeleteFunc_Link_L1
        simp only
        by_cases c : j < s.length
        · left
          have hz : gx z (j : Int) = s[j] := by
            rw [gx_nat (by omega)]
            have h1 : (z.drop j)[0]'(by simp; omega) = (s.drop j)[0]'(by simp; omega) := by simp only [i7]
            simpa using h1
          rw [decide_eq_true (p := (j : Int) < (z.length : Int)) (by omega), cond_true, need_of ⟨by omega, by omega⟩, bnd_eq, hz, hf _ (List.getElem_mem c), Option.bind_some]
          cases hp : p s[j] with
          | true =>
            simp only [Bool.not_true, cond_false, bind_sm, bnd_eq]
            rw [Wk (by omega) (by omega)]
            refine ⟨_, rfl, ⟨i, j + 1, rfl, by simp, by omega, by omega, i5, ?_, ?_⟩, by simp only; omega⟩
            · simp only
              rw [i6, List.take_succ_eq_append_getElem c, List.filter_append]
              simp [hp]
            · simp only
              have h1 : (z.drop j).drop 1 = (s.drop j).drop 1 := by rw [i7]
              simpa [List.drop_drop] using h1
          | false =>
            simp only [Bool.not_false, cond_true, bnd_eq]
            rw [need_of ⟨by omega, by omega⟩, Wk (n := (i : Int) + 1) (by omega) (by omega), Option.bind_some, Wk (by omega) (by omega)]
            simp only [Int.toNat_natCast]
            refine ⟨_, rfl, ⟨i + 1, j + 1, by simp, by simp, by omega, by omega, by simp [i5], ?_, ?_⟩, by simp only; omega⟩
            · simp only
              rw [List.take_succ_eq_append_getElem (by simp; omega), List.take_set_of_le (Nat.le_refl _), i6, List.take_succ_eq_append_getElem c, List.filter_append]
              simp [hp]
            · simp only
              rw [List.drop_set_of_lt (by omega)]
              have h1 : (z.drop j).drop 1 = (s.drop j).drop 1 := by rw [i7]
              simpa [List.drop_drop] using h1
        · right
          obtain rfl : j = s.length := by omega
          rw [decide_eq_false (p := ((s.length : Nat) : Int) < (z.length : Int)) (by omega), cond_false]
          exact ⟨_, rfl, i, rfl, by omega, i5, by rw [i6, List.take_length]⟩)
    obtain ⟨ea, eb⟩ := e
    simp only at e2 e4 e5
    subst e2
    rw [e1, Option.bind_some]
    simp only
    rw [need_of ⟨by omega, by omega, by omega⟩, bnd_eq, need_of ⟨by omega, by omega, by simp; omega⟩, bnd_eq]
    congr 1
    simp only [Int.toNat_natCast]
    unfold seg
    rw [Int.toNat_natCast, e5]
    have hle : (s.filter (fun x => !p x)).length = i := by rw [← e5]; simp; omega
    simp [hle]

theorem Clone_Link_eq {l : List Link} (hl : l.length ≤ 1073741824) : slices_Clone_Link l = some l := by
  unfold slices_Clone_Link
  rw [need_of (by rw [room_iff]; simpa using hl)]
  simp only [bnd_eq, List.nil_append]
  unfold nilc
  by_cases h : l = []
  · simp [h]
  · rw [if_neg h]
theorem Clone_int_eqO {l : List Int} (hl : l.length ≤ 1073741824) : slices_Clone_int l = some l := by
  unfold slices_Clone_int
  rw [need_of (by rw [room_iff]; simpa using hl)]
  simp only [bnd_eq, List.nil_append]
  unfold nilc
  by_cases h : l = []
  · simp [h]
  · rw [if_neg h]
theorem ls_filter {α : Type} {f : α → Int} {p : α → Bool} : ∀ {l : List α}, (∀ x ∈ l, p x = false → f x = 0) → ls f (l.filter p) = ls f l
  | [], _ => rfl
  | x :: l, h => by
    have ih := ls_filter (f := f) (p := p) (l := l) (fun y hy => h y (by simp [hy]))
    rw [List.filter_cons]
    cases hp : p x with
    | true => simp only [if_true]; show f x + ls f (l.filter p) = f x + ls f l; rw [ih]
    | false =>
      simp only [Bool.false_eq_true, if_false]
      rw [ih]
      have := h x (by simp) hp
      show ls f l = f x + ls f l
      omega

section
variable {upper lower : List Int} {l : List Link}
theorem ahead_eq (h : PairOK upper lower l) {a b : Int} (hab : a ≠ b) : ref_BestOf_1 a b upper l = some (Bv l (qU upper) (·.To) a b) := by
  have hl := h.kl
  unfold ref_BestOf_1
  rw [Clone_Link_eq (by omega), Option.bind_some, DeleteFunc_Link_eq l (fun x0 => ref_BestOf_1_1 x0 a b) (fun x => !decide (x.To = a) && !decide (x.To = b)) (by omega) (fun x _ => rfl), Option.bind_some]
  have hn : ([a, b] : List Int).Nodup := by simp [hab]
  obtain ⟨_, e⟩ := crossings_eq (upper := upper) (O := [a, b]) (l := l.filter (fun x => !(!decide (x.To = a) && !decide (x.To = b)))) h.ul (by simp) h.un hn (Nat.le_trans (List.length_filter_le _ _) hl) (fun x hx => by
    obtain ⟨h1, h2⟩ := List.mem_filter.1 hx
    refine ⟨(h.lk x h1).1, ?_⟩
    simp at h2
    simpa using h2)
  rw [e, Option.bind_some]
  congr 1
  have e1 : crV (Bv (l.filter (fun x => !(!decide (x.To = a) && !decide (x.To = b)))) (qU upper) (·.To)) [a, b] = Bv (l.filter (fun x => !(!decide (x.To = a) && !decide (x.To = b)))) (qU upper) (·.To) a b + 0 + (0 + 0) := rfl
  rw [e1]
  unfold Bv
  have e2 : ls (fun x => ls (fun y => if qU upper x y then (if x.To = a then (if y.To = b then (1 : Int) else 0) else 0) else 0) (l.filter (fun x => !(!decide (x.To = a) && !decide (x.To = b))))) (l.filter (fun x => !(!decide (x.To = a) && !decide (x.To = b)))) =
      ls (fun x => ls (fun y => if qU upper x y then (if x.To = a then (if y.To = b then (1 : Int) else 0) else 0) else 0) l) l := by
    have inner : ∀ x, ls (fun y => if qU upper x y then (if x.To = a then (if y.To = b then (1 : Int) else 0) else 0) else 0) (l.filter (fun x => !(!decide (x.To = a) && !decide (x.To = b)))) = ls (fun y => if qU upper x y then (if x.To = a then (if y.To = b then (1 : Int) else 0) else 0) else 0) l := fun x =>
      ls_filter fun y _ hy => by
        simp at hy
        simp [hy.2]
    rw [ls_congr (fun x _ => inner x)]
    refine ls_filter fun x _ hx => ?_
    simp at hx
    refine (ls_congr (g := fun _ => 0) fun y _ => ?_).trans (ls_zero l)
    simp [hx.1]
  rw [e2]
  simp only [Int.add_zero]

/-- The reference's table of pairs. -/
structure Cst (m : Nat) (B : Nat → Nat → Int) (c : Arr 9 (Arr 9 Int)) : Prop where
  val : ∀ a b : Nat, a < m → b < m → a ≠ b → gx (gx c.l (a : Int)).l (b : Int) = B a b
theorem gx_setA {α : Type} [Inhabited α] {l : List α} {k : Nat} {v : α} (hk : k < l.length) (t : Nat) : gx (l.set k v) (t : Int) = if t = k then v else gx l (t : Int) := by
  unfold gx
  rw [List.getElem?_set]
  by_cases h : t = k
  · subst h; simp [hk]
  · have : ¬ k = t := fun e => h e.symm
    simp [this, h]
theorem costs_eq (h : PairOK upper lower l) (hm : lower.length ≤ 10) : ∃ c, rfor ((nodesN lower).length : Int) (ref_BestOf_L1 l (nodesN lower) upper) (⟨List.replicate 10 (⟨List.replicate 10 (0 : Int)⟩ : (Arr 9 Int))⟩ : (Arr 9 (Arr 9 Int))) = some c ∧ Cst lower.length (BB upper lower l) c := by
  obtain ⟨n1, n2, n3⟩ := h.nodes
  obtain ⟨c, e1, e2, e3, e4⟩ := rfor_inv (n := ((nodesN lower).length : Int)) (step := ref_BestOf_L1 l (nodesN lower) upper) (s0 := (⟨List.replicate 10 (⟨List.replicate 10 (0 : Int)⟩ : (Arr 9 Int))⟩ : (Arr 9 (Arr 9 Int))))
    (fun i s => s.l.length = 10 ∧ (∀ a : Nat, a < 10 → (gx s.l (a : Int)).l.length = 10) ∧ ∀ a b : Nat, a < i → b < lower.length → a ≠ b → gx (gx s.l (a : Int)).l (b : Int) = BB upper lower l a b) (by omega)
    ⟨by simp, fun a ha => by
      show (gx (List.replicate 10 (⟨List.replicate 10 (0 : Int)⟩ : (Arr 9 Int))) (a : Int)).l.length = 10
      have e : gx (List.replicate 10 (⟨List.replicate 10 (0 : Int)⟩ : (Arr 9 Int))) (a : Int) = ⟨List.replicate 10 (0 : Int)⟩ := by rw [gx_nat (by simpa using ha), List.getElem_replicate]
      rw [e]; exact List.length_replicate, fun a b ha => by omega⟩ (fun i s hi hI => by
      obtain ⟨i1, i2, i3⟩ := hI
      have hi' : i < lower.length := by omega
      unfold ref_BestOf_L1
      rw [need_of ⟨by omega, by omega⟩]
      obtain ⟨s', f1, f2, f3, f4, f5⟩ := rfor_inv (n := ((nodesN lower).length : Int)) (step := ref_BestOf_L2 l (nodesN lower) ((i : Int), s) upper) (s0 := s)
        (fun j s' => s'.l.length = 10 ∧ (∀ a : Nat, a < 10 → (gx s'.l (a : Int)).l.length = 10) ∧ (∀ a : Nat, a ≠ i → gx s'.l (a : Int) = gx s.l (a : Int)) ∧ ∀ b : Nat, b < j → i ≠ b → gx (gx s'.l (i : Int)).l (b : Int) = BB upper lower l i b) (by omega)
        ⟨i1, i2, fun _ _ => rfl, fun b hb => by omega⟩ (fun j s' hj hJ => by
          obtain ⟨j1, j2, j3, j4⟩ := hJ
          have hj' : j < lower.length := by omega
          unfold ref_BestOf_L2
          simp only
          rw [need_of ⟨by omega, by omega⟩]
          by_cases c : i = j
          · subst c
            rw [decide_eq_true (p := (i : Int) = (i : Int)) rfl, Bool.not_true, cond_false]
            exact ⟨_, rfl, j1, j2, j3, fun b hb hib => j4 b (by omega) hib⟩
          · have hne : gx (nodesN lower) (i : Int) ≠ gx (nodesN lower) (j : Int) := fun e => by
              rw [gx_nat (by omega), gx_nat (by omega)] at e
              have h1 := ps_at n2 (show i < (nodesN lower).length by omega)
              have h2 := ps_at n2 (show j < (nodesN lower).length by omega)
              rw [e] at h1; omega
            have hr := j2 i (by omega)
            rw [decide_eq_false (p := (i : Int) = (j : Int)) (by omega), Bool.not_false, cond_true, ahead_eq h hne, Option.bind_some, need_of ⟨by omega, by omega⟩, need_of ⟨by omega, by omega⟩]
            simp only [Int.toNat_natCast]
            refine ⟨_, rfl, by simp [j1], fun a ha => ?_, fun a ha => ?_, fun b hb hib => ?_⟩
            · simp only
              rw [gx_setA (by omega)]
              by_cases z : a = i
              · rw [if_pos z]; simp [hr]
              · rw [if_neg z]; exact j2 a ha
            · simp only
              rw [gx_setA (by omega), if_neg ha]; exact j3 a ha
            · simp only
              rw [gx_setA (by omega), if_pos rfl]
              simp only
              rw [gx_setA (by omega)]
              by_cases z : b = j
              · subst z; rw [if_pos rfl]; rfl
              · rw [if_neg z]; exact j4 b (by omega) hib)
      refine ⟨s', f1, f2, f3, fun a b ha hb hab => ?_⟩
      by_cases z : a = i
      · subst z
        exact f5 b (by simp only [Int.toNat_natCast]; omega) hab
      · rw [f4 a z]; exact i3 a b (by omega) hb hab)
  exact ⟨c, e1, ⟨fun a b ha hb hab => e4 a b (by simp only [Int.toNat_natCast]; omega) hb hab⟩⟩
end

section
variable {m : Nat} {B : Nat → Nat → Int} {ct : Arr 9 (Arr 9 Int)}
/-- What goes ahead of the rest. -/
theorem ahead_sum (hB : ∀ k j, k < m → j < m → 0 ≤ B k j ∧ B k j ≤ 40000) (hm : m ≤ 10) (hc : Cst m B ct) {s k : Nat} (hs : s < 2 ^ m) (hk : s.testBit k = true) {step : Int → Int → Option Int}
    (hst : ∀ (j : Nat) c, j < m → step j c = bif (!decide ((j : Int) = (k : Int))) && (decide ((iand (ishr ((2 ^ m - 1 - s : Nat) : Int) (j : Int)) 1) = 0)) then some (W (c + (gx (gx ct.l (k : Int)).l (j : Int)))) else some c) : rfor (m : Int) step 0 = some (inS m B s k) := by
  have hp := pow_le hm
  have hkm := bit_lt hs hk
  obtain ⟨n, e1, e2, _⟩ := rfor_inv (n := (m : Int)) (step := step) (s0 := 0) (fun j n => n = sm (fun j => if (rem s k).testBit j = true then B k j else 0) j ∧ 0 ≤ n ∧ n ≤ j * 40000) (by omega) ⟨by simp [sm], by omega, by simp⟩ (fun j n hj hI => by
    obtain ⟨i1, i2, i3⟩ := hI
    have hj' : j < m := by omega
    have hb := hB k j hkm hj'
    have e : sm (fun j => if (rem s k).testBit j = true then B k j else 0) (j + 1) = sm (fun j => if (rem s k).testBit j = true then B k j else 0) j + (if (rem s k).testBit j = true then B k j else 0) := rfl
    rw [hst j n hj', bit_zero (by omega) (by omega), co_bit hs]
    have hcond : ((!decide ((j : Int) = (k : Int))) && !(decide (j < m) && !s.testBit j)) = (rem s k).testBit j := by
      rw [rem_bit]
      by_cases z : j = k
      · subst z; simp
      · have z1 : ¬ (j : Int) = (k : Int) := by omega
        have z2 : ¬ k = j := fun e => z e.symm
        simp [z1, z2, hj']
    rw [hcond]
    by_cases c : (rem s k).testBit j = true
    · have hne : k ≠ j := fun e => by rw [rem_bit] at c; simp [e] at c
      rw [c, cond_true, hc.val k j hkm hj' hne, Wk (by omega) (by omega)]
      refine ⟨_, rfl, ?_, by omega, by push_cast; omega⟩
      rw [e, if_pos c, i1]
    · have c' : (rem s k).testBit j = false := by simpa using c
      rw [c', cond_false]
      refine ⟨_, rfl, ?_, i2, by push_cast; omega⟩
      rw [e, if_neg c, i1]; omega)
  rw [e1, e2]; rfl
theorem co_rem {s k : Nat} (hs : s < 2 ^ m) (hk : s.testBit k = true) : (2 ^ m - 1 - s) ||| 2 ^ k = 2 ^ m - 1 - rem s k := by
  have hr := rem_lt hk
  have hkm := bit_lt hs hk
  refine Nat.eq_of_testBit_eq fun j => ?_
  rw [Nat.testBit_or, co_bit hs, co_bit (by omega), rem_bit, Nat.testBit_two_pow]
  by_cases z : k = j
  · subst z; simp [hkm]
  · simp [z]
theorem first_eq (hB : ∀ k j, k < m → j < m → 0 ≤ B k j ∧ B k j ≤ 40000) (hm : m ≤ 10) (hc : Cst m B ct) {N : List Int} (hN : N.length = m) {s k : Nat} (hs : s < 2 ^ m) (hk : s.testBit k = true) {least : List Int} (hlen : least.length = 2 ^ m)
    (hT : ∀ t : Nat, t < s → gx least ((2 ^ m - 1 - t : Nat) : Int) = (TF m B t).1) :
    ref_BestOf_2 ((2 ^ m - 1 - s : Nat) : Int) (k : Int) N ct least = some ((TF m B (rem s k)).1 + inS m B s k, least) ∧ ref_BestOf_2r ((2 ^ m - 1 - s : Nat) : Int) (k : Int) N ct least = some ((TF m B (rem s k)).1 + inS m B s k) := by
  have hp := pow_le hm
  have hkm := bit_lt hs hk
  have hr := rem_lt hk
  have hTb := TF_bd hB hm (rem s k) (by omega)
  have hIb := inS_bd hB hm (s := s) hkm m (Nat.le_refl _)
  have hIb' : 0 ≤ inS m B s k ∧ inS m B s k ≤ 400000 := by unfold inS; omega
  have hior : ior ((2 ^ m - 1 - s : Nat) : Int) (ishl 1 (k : Int)) = ((2 ^ m - 1 - rem s k : Nat) : Int) := by
    have : 2 ^ k ≤ 2 ^ 10 := Nat.pow_le_pow_right (by omega) (by omega)
    rw [ishl_nat (by omega), ior_nat (by omega) (by omega), co_rem hs hk]
  constructor
  · unfold ref_BestOf_2
    rw [hN, ahead_sum hB hm hc hs hk (step := ref_BestOf_2_L1 (k : Int) ((2 ^ m - 1 - s : Nat) : Int) ct) (fun j c hj => by
      unfold ref_BestOf_2_L1
      rw [need_of (fun _ => by omega)]
      cases hb : (!decide ((j : Int) = (k : Int))) && (decide ((iand (ishr ((2 ^ m - 1 - s : Nat) : Int) (j : Int)) 1) = 0)) with
      | true => simp only [cond_true]; rw [need_of ⟨by omega, by omega⟩, need_of ⟨by omega, by omega⟩, bnd_eq]
      | false => rfl), Option.bind_some, need_of (by omega), hior, need_of ⟨by omega, by omega⟩, hT _ hr, Wk (by omega) (by omega), Int.add_comm]
  · unfold ref_BestOf_2r
    rw [hN, ahead_sum hB hm hc hs hk (step := ref_BestOf_2r_L1 (k : Int) ((2 ^ m - 1 - s : Nat) : Int) ct) (fun j c hj => by
      unfold ref_BestOf_2r_L1
      rw [need_of (fun _ => by omega)]
      cases hb : (!decide ((j : Int) = (k : Int))) && (decide ((iand (ishr ((2 ^ m - 1 - s : Nat) : Int) (j : Int)) 1) = 0)) with
      | true => simp only [cond_true]; rw [need_of ⟨by omega, by omega⟩, need_of ⟨by omega, by omega⟩, bnd_eq]
      | false => rfl), Option.bind_some, need_of (by omega), hior, need_of ⟨by omega, by omega⟩, hT _ hr, Wk (by omega) (by omega), Int.add_comm]

theorem table_eq (hB : ∀ k j, k < m → j < m → 0 ≤ B k j ∧ B k j ≤ 40000) (hm : m ≤ 10) (hc : Cst m B ct) {N : List Int} (hN : N.length = m) :
    ∃ least, loop (ref_BestOf_L3 N ct) (((2 ^ m : Nat) : Int) - 2, List.replicate (2 ^ m) (0 : Int)) = some least ∧ least.length = 2 ^ m ∧ ∀ t : Nat, t < 2 ^ m → gx least ((2 ^ m - 1 - t : Nat) : Int) = (TF m B t).1 := by
  have hp := pow_le hm
  have hp1 : 1 ≤ 2 ^ m := Nat.one_le_two_pow
  refine loop_inv (body := ref_BestOf_L3 N ct) (s0 := (((2 ^ m : Nat) : Int) - 2, List.replicate (2 ^ m) (0 : Int)))
    (fun st => ∃ s : Nat, st.1 = ((2 ^ m : Nat) : Int) - 1 - s ∧ 1 ≤ s ∧ s ≤ 2 ^ m ∧ st.2.length = 2 ^ m ∧ ∀ t : Nat, t < s → gx st.2 ((2 ^ m - 1 - t : Nat) : Int) = (TF m B t).1) (fun st => (st.1 + 1).toNat) _
    ⟨1, by simp only; omega, Nat.le_refl _, hp1, by simp, fun t ht => by
      have : t = 0 := by omega
      subst this
      rw [TF_zero, gx_nat (by simp; omega)]; simp⟩ (fun st hI => ?_)
  obtain ⟨s, i1, i2, i3, i4, i5⟩ := hI
  obtain ⟨a, lst⟩ := st
  simp only at i1 i4 i5
  subst i1
  unfold ref_BestOf_L3
  simp only
  by_cases c : s < 2 ^ m
  · left
    have em : ((2 ^ m : Nat) : Int) - 1 - s = ((2 ^ m - 1 - s : Nat) : Int) := by omega
    rw [em, decide_eq_true (p := (0 : Int) ≤ ((2 ^ m - 1 - s : Nat) : Int)) (by omega), cond_true]
    obtain ⟨q, g1, g2, g3⟩ := rfor_inv (n := (N.length : Int)) (step := ref_BestOf_L4 N ct (((2 ^ m - 1 - s : Nat) : Int), lst)) (s0 := ((-1 : Int), lst))
      (fun k q => q.2 = lst ∧ q.1 = (foldB s (fun k => (TF m B (rem s k)).1 + inS m B s k) k).1) (by omega) ⟨rfl, rfl⟩ (fun k q hk hq => by
        obtain ⟨j1, j2⟩ := hq
        obtain ⟨q1, q2⟩ := q
        simp only at j1 j2
        subst j1 j2
        have hk' : k < m := by omega
        have ef : foldB s (fun k => (TF m B (rem s k)).1 + inS m B s k) (k + 1) = stepB s (fun k => (TF m B (rem s k)).1 + inS m B s k) k (foldB s (fun k => (TF m B (rem s k)).1 + inS m B s k) k) := rfl
        unfold ref_BestOf_L4
        simp only
        have hbz : (!(decide (k < m) && !s.testBit k)) = s.testBit k := by simp [hk']
        rw [need_of (by omega), bit_zero (by omega) (by omega), co_bit c, hbz]
        by_cases hb : s.testBit k = true
        · rw [hb, cond_true, (first_eq hB hm hc hN c hb i4 i5).1, Option.bind_some]
          simp only
          by_cases d : (foldB s (fun k => (TF m B (rem s k)).1 + inS m B s k) k).1 < 0 ∨ (TF m B (rem s k)).1 + inS m B s k < (foldB s (fun k => (TF m B (rem s k)).1 + inS m B s k) k).1
          · have hd : (decide ((foldB s (fun k => (TF m B (rem s k)).1 + inS m B s k) k).1 < 0) || decide ((TF m B (rem s k)).1 + inS m B s k < (foldB s (fun k => (TF m B (rem s k)).1 + inS m B s k) k).1)) = true := by simpa using d
            have es : stepB s (fun k => (TF m B (rem s k)).1 + inS m B s k) k (foldB s (fun k => (TF m B (rem s k)).1 + inS m B s k) k) = ((TF m B (rem s k)).1 + inS m B s k, k) := by unfold stepB; rw [if_pos hb, if_pos d]
            rw [hd, cond_true]
            exact ⟨_, rfl, rfl, by rw [ef, es]⟩
          · have hd : (decide ((foldB s (fun k => (TF m B (rem s k)).1 + inS m B s k) k).1 < 0) || decide ((TF m B (rem s k)).1 + inS m B s k < (foldB s (fun k => (TF m B (rem s k)).1 + inS m B s k) k).1)) = false := by
              cases hh : (decide ((foldB s (fun k => (TF m B (rem s k)).1 + inS m B s k) k).1 < 0) || decide ((TF m B (rem s k)).1 + inS m B s k < (foldB s (fun k => (TF m B (rem s k)).1 + inS m B s k) k).1)) with
              | false => rfl
              | true => exact absurd (by simpa using hh) d
            have es : stepB s (fun k => (TF m B (rem s k)).1 + inS m B s k) k (foldB s (fun k => (TF m B (rem s k)).1 + inS m B s k) k) = foldB s (fun k => (TF m B (rem s k)).1 + inS m B s k) k := by unfold stepB; rw [if_pos hb, if_neg d]
            rw [hd, cond_false]
            exact ⟨_, rfl, rfl, by rw [ef, es]⟩
        · have hb' : s.testBit k = false := by simpa using hb
          have es : stepB s (fun k => (TF m B (rem s k)).1 + inS m B s k) k (foldB s (fun k => (TF m B (rem s k)).1 + inS m B s k) k) = foldB s (fun k => (TF m B (rem s k)).1 + inS m B s k) k := by unfold stepB; rw [if_neg hb]
          rw [hb', cond_false]
          exact ⟨_, rfl, rfl, by rw [ef, es]⟩)
    obtain ⟨q1, q2⟩ := q
    simp only [Int.toNat_natCast, hN] at g2 g3
    subst g2 g3
    rw [g1, Option.bind_some]
    simp only
    rw [need_of ⟨by omega, by omega⟩, Option.bind_some, bnd_eq, Wk (by omega) (by omega)]
    simp only [Int.toNat_natCast]
    have eT := TF_eq (m := m) (B := B) (s := s) (by omega)
    refine ⟨_, rfl, ⟨s + 1, by simp only; omega, by omega, by omega, by simp [i4], fun t ht => ?_⟩, by simp only; omega⟩
    simp only
    rw [gx_setN (by omega)]
    by_cases z : t = s
    · subst z; rw [if_pos rfl, eT]
    · rw [if_neg (by omega)]; exact i5 t (by omega)
  · right
    obtain rfl : s = 2 ^ m := by omega
    rw [decide_eq_false (p := (0 : Int) ≤ ((2 ^ m : Nat) : Int) - 1 - ((2 ^ m : Nat) : Int)) (by omega), cond_false]
    exact ⟨_, rfl, i4, i5⟩

theorem order_eq (hB : ∀ k j, k < m → j < m → 0 ≤ B k j ∧ B k j ≤ 40000) (hm : m ≤ 10) (hc : Cst m B ct) {N least : List Int} (hN : N.length = m) (hlen : least.length = 2 ^ m) (hT : ∀ t : Nat, t < 2 ^ m → gx least ((2 ^ m - 1 - t : Nat) : Int) = (TF m B t).1) :
    ∃ o : List Nat, loop (ref_BestOf_L5 N ct least ((2 ^ m - 1 : Nat) : Int)) (([] : List Int), 0) = some (o.map (fun i : Nat => gx N (i : Int))) ∧ Lst (fun s => (TF m B s).2) (2 ^ m - 1) o := by
  have hp := pow_le hm
  have hp1 : 1 ≤ 2 ^ m := Nat.one_le_two_pow
  have hD := TF_dp hB hm
  obtain ⟨e, h1, o, h2, h3⟩ := loop_inv (body := ref_BestOf_L5 N ct least ((2 ^ m - 1 : Nat) : Int)) (s0 := (([] : List Int), 0))
    (fun st => ∃ s : Nat, ∃ o1 : List Nat, st.2 = ((2 ^ m - 1 - s : Nat) : Int) ∧ s < 2 ^ m ∧ st.1 = o1.map (fun i : Nat => gx N (i : Int)) ∧ o1.length + s ≤ 2 ^ m ∧ ∀ o2, Lst (fun s => (TF m B s).2) s o2 → Lst (fun s => (TF m B s).2) (2 ^ m - 1) (o1 ++ o2))
    (fun st => (((2 ^ m : Nat) : Int) - st.2).toNat) (fun e => ∃ o : List Nat, e = o.map (fun i : Nat => gx N (i : Int)) ∧ Lst (fun s => (TF m B s).2) (2 ^ m - 1) o)
    ⟨2 ^ m - 1, [], by simp, by omega, rfl, by simp, fun o2 h => h⟩ (fun st hI => by
      obtain ⟨s, o1, i1, i2, i3, i4, i5⟩ := hI
      obtain ⟨out, st2⟩ := st
      simp only at i1 i3
      subst i1 i3
      unfold ref_BestOf_L5
      simp only
      by_cases c : 0 < s
      · left
        have hb : s.testBit (TF m B s).2 = true := hD.mem s c i2
        have hr := rem_lt hb
        have hkm := bit_lt i2 hb
        rw [decide_eq_false (p := ((2 ^ m - 1 - s : Nat) : Int) = ((2 ^ m - 1 : Nat) : Int)) (by omega), Bool.not_false, cond_true]
        obtain ⟨e, f1, f2⟩ := rforE_inv (n := (N.length : Int)) (step := ref_BestOf_L6 N ct least) (fin := fun s => s) (s0 := (o1.map (fun i : Nat => gx N (i : Int)), ((2 ^ m - 1 - s : Nat) : Int)))
          (fun k q => q = (o1.map (fun i : Nat => gx N (i : Int)), ((2 ^ m - 1 - s : Nat) : Int)) ∧ k ≤ (TF m B s).2) (fun e => e = (o1.map (fun i : Nat => gx N (i : Int)) ++ [gx N ((TF m B s).2 : Int)], ((2 ^ m - 1 - rem s (TF m B s).2 : Nat) : Int))) (by omega) ⟨rfl, Nat.zero_le _⟩ (fun k q hk hq => by
            obtain ⟨rfl, j2⟩ := hq
            have hk' : k < m := by omega
            have hbz : (!(decide (k < m) && !s.testBit k)) = s.testBit k := by simp [hk']
            unfold ref_BestOf_L6
            simp only
            rw [need_of (by omega), bit_zero (by omega) (by omega), co_bit i2, hbz]
            have hTs := hT s i2
            by_cases hbk : s.testBit k = true
            · rw [hbk, gd_true, (first_eq hB hm hc hN i2 hbk hlen (fun t ht => hT t (by omega))).2, Option.bind_some, need_of (fun _ => ⟨by omega, by omega⟩), hTs, Bool.true_and]
              by_cases z : k = (TF m B s).2
              · right
                have he : (TF m B (rem s k)).1 + inS m B s k = (TF m B s).1 := by rw [z]; exact (hD.eq s c i2).symm
                have hior : ior ((2 ^ m - 1 - s : Nat) : Int) (ishl 1 (k : Int)) = ((2 ^ m - 1 - rem s k : Nat) : Int) := by
                  have : 2 ^ k ≤ 2 ^ 10 := Nat.pow_le_pow_right (by omega) (by omega)
                  rw [ishl_nat (by omega), ior_nat (by omega) (by omega), co_rem i2 hbk]
                rw [decide_eq_true he, cond_true, need_of ⟨by omega, by omega⟩, need_of (by rw [room_iff]; simp; omega), bnd_eq, need_of (by omega), bnd_eq, hior]
                exact ⟨_, rfl, by rw [z]⟩
              · left
                have hlt : (TF m B s).1 < (TF m B (rem s k)).1 + inS m B s k := hD.first s k i2 hbk (show k < (TF m B s).2 by omega)
                rw [decide_eq_false (by omega), cond_false]
                exact ⟨_, rfl, rfl, by omega⟩
            · have hb' : s.testBit k = false := by simpa using hbk
              rw [hb', gd_false, Option.bind_some, need_of (fun h => by cases h), Bool.false_and, cond_false]
              left
              refine ⟨_, rfl, rfl, ?_⟩
              have : k ≠ (TF m B s).2 := fun e => by rw [e, hb] at hb'; cases hb'
              omega) (fun q hq => by
            obtain ⟨_, hq⟩ := hq
            simp only [Int.toNat_natCast] at hq
            omega)
        subst f2
        rw [f1, Option.bind_some]
        refine ⟨_, rfl, ⟨rem s (TF m B s).2, o1 ++ [(TF m B s).2], rfl, by omega, by simp, by simp; omega, fun o2 h => ?_⟩, by simp only; omega⟩
        rw [List.append_assoc]
        exact i5 _ (Lst.cons c h)
      · right
        obtain rfl : s = 0 := by omega
        rw [decide_eq_true (p := ((2 ^ m - 1 - 0 : Nat) : Int) = ((2 ^ m - 1 : Nat) : Int)) (by omega), Bool.not_true, cond_false]
        exact ⟨_, rfl, o1, rfl, by have := i5 [] Lst.nil; simpa using this⟩)
  exact ⟨o, by rw [h1, h2], h3⟩
end
end Go.DB
