/-
  OrdersMatch: the best order is what the reference tells, and no other order crosses less.
-/
import Derived.Test.YtbahnfkccdlpnaaOrdPuOrders3
set_option linter.unusedSimpArgs false
set_option linter.unusedVariables false
namespace Go.DB
open Go Go.RowKit

section
variable {upper lower : List Int} {l : List Link}
theorem BB_ok (h : PairOK upper lower l) : ∀ k j, k < lower.length → j < lower.length → 0 ≤ BB upper lower l k j ∧ BB upper lower l k j ≤ 40000 := fun k j _ _ => BB_bd h.kl k j
theorem BestOf_eq (h : PairOK upper lower l) (hm : lower.length ≤ 10) :
    ∃ o : List Nat, ref_BestOf upper lower l = some (o.map (fun i : Nat => gx (nodesN lower) (i : Int)), (TF lower.length (BB upper lower l) (2 ^ lower.length - 1)).1) ∧ Lst (fun s => (TF lower.length (BB upper lower l) s).2) (2 ^ lower.length - 1) o := by
  obtain ⟨n1, n2, n3⟩ := h.nodes
  have hp := pow_le hm
  have hp1 : 1 ≤ 2 ^ lower.length := Nat.one_le_two_pow
  have hB := BB_ok h
  unfold ref_BestOf
  have hv : slices_Values_int lower = some (⟨lower⟩ : SeqI) := rfl
  rw [hv, Option.bind_some, sorted_nodes h, Option.bind_some, bnd_eq]
  obtain ⟨ct, c1, c2⟩ := costs_eq h hm
  have e2 : W (((2 ^ lower.length : Nat) : Int) - 1) = ((2 ^ lower.length - 1 : Nat) : Int) := by rw [Wk (by omega) (by omega)]; omega
  have e3 : W (((2 ^ lower.length - 1 : Nat) : Int) + 1) = ((2 ^ lower.length : Nat) : Int) := by rw [Wk (by omega) (by omega)]; omega
  have e4 : W (((2 ^ lower.length - 1 : Nat) : Int) - 1) = ((2 ^ lower.length : Nat) : Int) - 2 := by rw [Wk (by omega) (by omega)]; omega
  rw [c1, Option.bind_some, n1, need_of (by omega), ishl_nat (by omega), e2, bnd_eq, e3, bnd_eq, need_of ⟨by omega, by omega, by omega⟩, bnd_eq, e4, bnd_eq]
  simp only [Int.toNat_natCast]
  obtain ⟨least, t1, t2, t3⟩ := table_eq hB hm c2 (N := nodesN lower) n1
  rw [t1, Option.bind_some]
  obtain ⟨o, o1, o2⟩ := order_eq hB hm c2 n1 t2 t3
  rw [o1, Option.bind_some, need_of ⟨by omega, by omega⟩]
  refine ⟨o, ?_, o2⟩
  have := t3 (2 ^ lower.length - 1) (by omega)
  rw [Nat.sub_self] at this
  rw [← this]; rfl

theorem cov_perm {m : Nat} {o : List Nat} (h : Cov (2 ^ m - 1) o) : o.Perm (List.range m) := by
  rw [List.perm_ext_iff_of_nodup h.1 List.nodup_range]
  intro i
  rw [h.2, full_bit, List.mem_range]; simp
theorem nodes_self (N : List Int) : (List.range N.length).map (fun i : Nat => gx N (i : Int)) = N := by
  refine List.ext_getElem (by simp) fun i h1 h2 => ?_
  simp only [List.getElem_map, List.getElem_range]
  exact gx_nat h2
theorem order_perm (h : PairOK upper lower l) {o : List Nat} (hc : Cov (2 ^ lower.length - 1) o) : (o.map (fun i : Nat => gx (nodesN lower) (i : Int))).Perm lower := by
  have h1 := (cov_perm hc).map (fun i : Nat => gx (nodesN lower) (i : Int))
  have h2 := h.nodes.1
  rw [← h2, nodes_self] at h1
  exact h1.trans (nodes_perm lower)
/-- What any order of the row crosses. -/
theorem perm_cross (h : PairOK upper lower l) {O : List Int} (hO : O.Perm lower) : layer_crossings upper O l = some (crV (Bv l (qU upper) (·.To)) O) ∧ ref_CrossingsOf upper O l = some (crV (Bv l (qU upper) (·.To)) O) :=
  crossings_eq h.ul (by rw [hO.length_eq]; exact h.ll) h.un (hO.nodup_iff.2 h.ln) h.kl fun x hx => ⟨(h.lk x hx).1, hO.mem_iff.2 (h.lk x hx).2⟩
theorem perm_low (h : PairOK upper lower l) (hm : lower.length ≤ 10) {O : List Int} (hO : O.Perm lower) : (TF lower.length (BB upper lower l) (2 ^ lower.length - 1)).1 ≤ crV (Bv l (qU upper) (·.To)) O := by
  obtain ⟨n1, n2, n3⟩ := h.nodes
  have hp1 : 1 ≤ 2 ^ lower.length := Nat.one_le_two_pow
  have hmem : ∀ x ∈ O, ps (nodesN lower) x < lower.length ∧ gx (nodesN lower) (ps (nodesN lower) x : Int) = x := fun x hx => by
    have h1 := ps_lt ((n3 x).2 (hO.mem_iff.1 hx))
    exact ⟨by omega, by rw [gx_nat h1]; exact ps_get h1⟩
  have hback : (O.map (ps (nodesN lower))).map (fun i : Nat => gx (nodesN lower) (i : Int)) = O := by
    rw [List.map_map]
    have : O.map ((fun i : Nat => gx (nodesN lower) (i : Int)) ∘ ps (nodesN lower)) = O.map id := List.map_congr_left fun x hx => (hmem x hx).2
    rw [this, List.map_id]
  have hc : Cov (2 ^ lower.length - 1) (O.map (ps (nodesN lower))) := by
    refine ⟨?_, fun i => ?_⟩
    · have hn : O.Nodup := hO.nodup_iff.2 h.ln
      refine List.pairwise_map.2 (hn.imp_of_mem fun {a b} ha hb hab e => hab ?_)
      rw [← (hmem a ha).2, ← (hmem b hb).2, e]
    · rw [full_bit, List.mem_map]
      constructor
      · rintro ⟨x, hx, rfl⟩; exact decide_eq_true (hmem x hx).1
      · intro hi
        have hi' : i < lower.length := by simpa using hi
        have hi2 : i < (nodesN lower).length := by omega
        exact ⟨(nodesN lower)[i], hO.mem_iff.2 ((n3 _).1 (List.getElem_mem hi2)), ps_at n2 hi2⟩
  have h1 := (TF_dp (BB_ok h) hm).low (show 2 ^ lower.length - 1 < 2 ^ lower.length by omega) hc
  rw [← hback, crV_map]
  exact h1
theorem best_cross (h : PairOK upper lower l) (hm : lower.length ≤ 10) {o : List Nat} (ho : Lst (fun s => (TF lower.length (BB upper lower l) s).2) (2 ^ lower.length - 1) o) :
    Cov (2 ^ lower.length - 1) o ∧ crV (Bv l (qU upper) (·.To)) (o.map (fun i : Nat => gx (nodesN lower) (i : Int))) = (TF lower.length (BB upper lower l) (2 ^ lower.length - 1)).1 := by
  have hp1 : 1 ≤ 2 ^ lower.length := Nat.one_le_two_pow
  obtain ⟨c1, c2⟩ := (TF_dp (BB_ok h) hm).lst ho (show 2 ^ lower.length - 1 < 2 ^ lower.length by omega)
  refine ⟨c1, ?_⟩
  rw [crV_map]
  exact c2

theorem u32_bd (n : Int) : 0 ≤ IntKind.wrap .u32 n ∧ IntKind.wrap .u32 n < 4294967296 := by
  have e : IntKind.wrap .u32 n = n % 4294967296 := rfl
  omega
/-- The nodes are mixed. -/
theorem mix_eq {O : List Int} {seed : KI .u32} (hO : O.length ≤ 60) : ∃ Q, loop law_OrdersMatch_L1 (seed, (O.length : Int) - 1, O) = some Q ∧ Q.Perm O := by
  refine loop_inv (body := law_OrdersMatch_L1) (s0 := (seed, (O.length : Int) - 1, O)) (fun st => st.2.1 < st.2.2.length ∧ st.2.2.Perm O) (fun st => (st.2.1 + 1).toNat) _ ⟨by simp only; omega, .refl _⟩ (fun st hI => ?_)
  obtain ⟨i1, i2⟩ := hI
  obtain ⟨sd, i, z⟩ := st
  simp only at i1 i2
  have hz := i2.length_eq
  unfold law_OrdersMatch_L1
  simp only
  by_cases c : 0 < i
  · left
    rw [decide_eq_true c, cond_true, bnd_eq, Wk (n := i + 1) (by omega) (by omega), need_of (by omega), bnd_eq]
    have hq : ∃ q : Int, W (KI.shr ((sd.mul (⟨1664525⟩ : KI .u32)).add (⟨1013904223⟩ : KI .u32)) 8).n = q ∧ 0 ≤ q := by
      refine ⟨_, rfl, ?_⟩
      have hb := u32_bd ((sd.mul (⟨1664525⟩ : KI .u32)).n + 1013904223)
      have e : (KI.shr ((sd.mul (⟨1664525⟩ : KI .u32)).add (⟨1013904223⟩ : KI .u32)) 8).n = (IntKind.wrap .u32 ((sd.mul (⟨1664525⟩ : KI .u32)).n + 1013904223)).fdiv 256 := rfl
      rw [e, Int.fdiv_eq_ediv_of_nonneg _ (by omega), Wk (by omega) (by omega)]
      omega
    obtain ⟨q, hq1, hq2⟩ := hq
    rw [hq1, Int.tmod_eq_emod_of_nonneg hq2]
    have k0 := Int.emod_nonneg q (show i + 1 ≠ 0 by omega)
    have k1 := Int.emod_lt_of_pos q (show 0 < i + 1 by omega)
    obtain ⟨k, hk⟩ : ∃ k : Nat, q % (i + 1) = (k : Int) := ⟨(q % (i + 1)).toNat, by omega⟩
    obtain ⟨j, rfl⟩ : ∃ j : Nat, i = (j : Int) := ⟨i.toNat, by omega⟩
    rw [hk] at k0 k1 ⊢
    rw [need_of ⟨by omega, by omega⟩, bnd_eq, need_of ⟨by omega, by omega⟩, bnd_eq, need_of ⟨by omega, by omega⟩, need_of ⟨by omega, by simp; omega⟩, bnd_eq, Wk (n := (j : Int) - 1) (by omega) (by omega), bnd_eq]
    simp only [Int.toNat_natCast]
    have hp : ((z.set j (gx z (k : Int))).set k (gx z (j : Int))).Perm z := by
      rw [gx_nat (show k < z.length by omega), gx_nat (show j < z.length by omega)]
      exact List.set_set_perm (by omega) (by omega)
    exact ⟨_, rfl, ⟨by simp; omega, hp.trans i2⟩, by simp only; omega⟩
  · right
    rw [decide_eq_false c, cond_false]
    exact ⟨_, rfl, i2⟩
end

theorem OrdersMatch_true (upper lower : List Int) (l : List Link) (seed : KI .u32) (hu : fits upper) (hlo : fits lower) (hl : fits l) : law_OrdersMatch upper lower l seed = some true := by
  have hul : (upper.length : Int) ≤ 9223372036854775807 := by have := (fits_list.1 hu).1; omega
  have hlol : (lower.length : Int) ≤ 9223372036854775807 := by have := (fits_list.1 hlo).1; omega
  have hll : (l.length : Int) ≤ 9223372036854775807 := by have := (fits_list.1 hl).1; omega
  have hck := checkPair_eq upper lower l hll
  unfold law_OrdersMatch
  rw [CrossError_eq upper lower l hul hlol hll, Option.bind_some]
  by_cases h0 : pairErr upper lower l = 0
  · have h := pairErr_zero h0
    obtain ⟨p1, p2⟩ := perm_cross h (List.Perm.refl lower)
    have hX : layer_Crossings upper lower l = some (crV (Bv l (qU upper) (·.To)) lower, 0) := by
      unfold layer_Crossings
      rw [hck, h0, Option.bind_some, p1]; rfl
    have hI : law_is_int (crV (Bv l (qU upper) (·.To)) lower) 0 0 (law_OrdersMatch_1 upper lower l) = some true := by
      unfold law_is_int law_OrdersMatch_1
      rw [p2]
      simp
    rw [hX, Option.bind_some, layers_eq, Option.bind_some, h0]
    simp only [Bool.not_true, Bool.not_false, gd_true, hI, bind_sm, Bool.or_self, cond_false]
    by_cases hm : lower.length ≤ 10
    · obtain ⟨o, b1, b2⟩ := Best_eq h (by rw [hck, h0]) hm
      obtain ⟨b3, b4⟩ := best_cross h hm b2
      have hP := order_perm h b3
      obtain ⟨q1, q2⟩ := perm_cross h hP
      rw [b4] at q2
      have hlow := perm_low h hm (List.Perm.refl lower)
      rw [b1, Option.bind_some, When_eq, Option.bind_some, decide_eq_false (p := (10 : Int) < (lower.length : Int)) (by omega), First_eq (by simp), Option.bind_some]
      simp only [firstErr_cons, firstErr_nil, if_true, Bool.false_eq_true, if_false, decide_true, Bool.not_true, cond_false]
      by_cases big : (decide (8 < (lower.length : Int)) || decide (40 < (l.length : Int))) = true
      · rw [big, cond_true, gd_true, q2, Option.bind_some]
        simp [hlow]
      · have big' : (decide (8 < (lower.length : Int)) || decide (40 < (l.length : Int))) = false := by simpa using big
        obtain ⟨o', r1, r2⟩ := BestOf_eq h hm
        have ho : o = o' := Lst.uni (m := lower.length) (fun s _ _ => rfl) b2 (by have : 1 ≤ 2 ^ lower.length := Nat.one_le_two_pow; omega) r2
        subst ho
        rw [big', cond_false, r1, Option.bind_some, Bool.not_false, gd_true, Equal_int_eq _ _ (by rw [hP.length_eq]; omega), Option.bind_some]
        simp only [decide_true, Bool.not_true, Bool.or_self, Bool.not_false, gd_true, q2, Option.bind_some, cond_false]
        have hlen := h.ll
        rw [Clone_int_eqO (by omega), Option.bind_some, Wk (by omega) (by omega), bnd_eq]
        obtain ⟨Q, m1, m2⟩ := mix_eq (O := lower) (seed := seed) hlen
        rw [m1, Option.bind_some, (perm_cross h m2).2, Option.bind_some, decide_eq_true (perm_low h hm m2)]
    · have hB : layer_Best upper lower l = some ([], 0, 4) := by
        unfold layer_Best
        rw [hck, h0, Option.bind_some]
        simp only [decide_true, Bool.not_true, cond_false]
        rw [decide_eq_true (p := (10 : Int) < (lower.length : Int)) (by omega), cond_true]
      rw [hB, Option.bind_some, When_eq, Option.bind_some, decide_eq_true (p := (10 : Int) < (lower.length : Int)) (by omega), First_eq (by simp), Option.bind_some]
      simp
  · have hX : layer_Crossings upper lower l = some (0, pairErr upper lower l) := by
      unfold layer_Crossings
      rw [hck, Option.bind_some, decide_eq_false h0]; rfl
    have hI : law_is_int 0 (pairErr upper lower l) (pairErr upper lower l) (law_OrdersMatch_1 upper lower l) = some true := by
      unfold law_is_int; simp [h0]
    have hB : layer_Best upper lower l = some ([], 0, pairErr upper lower l) := by
      unfold layer_Best
      rw [hck, Option.bind_some, decide_eq_false h0]; rfl
    rw [hX, Option.bind_some, layers_eq, Option.bind_some]
    simp only [Bool.not_true, Bool.not_false, gd_true, hI, bind_sm, Bool.or_self, cond_false]
    rw [hB, Option.bind_some, When_eq, Option.bind_some, First_eq (by simp), Option.bind_some]
    simp [h0]
end Go.DB
