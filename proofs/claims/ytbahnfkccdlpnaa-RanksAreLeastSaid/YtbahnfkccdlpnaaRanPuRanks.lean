/-
  RanksAreLeast: ranks whose total is the least.
-/
import Derived.Test.YtbahnfkccdlpnaaRanPuRanks4
import Derived.Test.YtbahnfkccdlpnaaRanPuTotals
set_option linter.unusedSimpArgs false
set_option linter.unusedVariables false
namespace Go.DB
open Go Go.RowKit

theorem IndexFunc_Link_eqR (s : List Link) (f : Link → Option Bool) (p : Link → Bool) (hl : (s.length : Int) ≤ 9223372036854775807) (hf : ∀ x ∈ s, f x = some (p x)) :
    slices_IndexFunc_Link s f = some (match s.findIdx? p with | some i => (i : Int) | none => -1) := by
  unfold slices_IndexFunc_Link
  rw [rforE_index p hl (fun i h => by unfold slices_IndexFunc_Link_L1; rw [need_of ⟨by omega, by omega⟩, gx_nat h, hf _ (List.getElem_mem h)]; simp only [bind_sm]; cases p s[i] <;> rfl)]
  cases s.findIdx? p <;> rfl
theorem ContainsFunc_Link_eqR (s : List Link) (f : Link → Option Bool) (p : Link → Bool) (hl : (s.length : Int) ≤ 9223372036854775807) (hf : ∀ x ∈ s, f x = some (p x)) : slices_ContainsFunc_Link s f = some (s.any p) := by
  unfold slices_ContainsFunc_Link
  rw [IndexFunc_Link_eqR s f p hl hf, Option.bind_some]
  exact congrArg some idx_any
theorem Min_pos {x : List Int} (hl : x.length ≤ 60) (h1 : 1 ≤ x.length) (h : ∀ k : Int, 0 ≤ k → k < x.length → 0 ≤ gx x k) : ∃ m, slices_Min_int x = some m ∧ 0 ≤ m := by
  unfold slices_Min_int
  rw [decide_eq_false (p := (x.length : Int) < 1) (by omega), cond_false, need_of ⟨by omega, by omega⟩, bnd_eq]
  obtain ⟨m, e1, e2⟩ := loop_inv (body := slices_Min_int_L1 x) (s0 := (gx x 0, 1)) (fun st => 0 ≤ st.1 ∧ 1 ≤ st.2 ∧ st.2 ≤ x.length) (fun st => ((x.length : Int) - st.2).toNat) (fun m => 0 ≤ m) ⟨h 0 (by omega) (by omega), by simp, by simp only; omega⟩ (fun st hI => by
    obtain ⟨i1, i2, i3⟩ := hI
    obtain ⟨m, i⟩ := st
    simp only at i1 i2 i3
    unfold slices_Min_int_L1
    simp only
    by_cases c : i < x.length
    · left
      have := h i (by omega) c
      rw [decide_eq_true c, cond_true, need_of ⟨by omega, c⟩, bnd_eq, Wk (by omega) (by omega), bnd_eq]
      exact ⟨_, rfl, ⟨by simp only; omega, by simp only; omega, by simp only; omega⟩, by simp only; omega⟩
    · right
      rw [decide_eq_false c, cond_false]
      exact ⟨_, rfl, i1⟩)
  rw [e1, Option.bind_some]
  exact ⟨m, rfl, e2⟩
theorem baS_cons {x : Link} {l : List Link} {p : Int → Int} : baS (x :: l) p = (p x.To - p x.From) + baS l p := by
  unfold baS
  rw [List.length_cons, Nat.add_comm, sm_split]
  have e1 : sm (fun i : Nat => p (gx (x :: l) (i : Int)).To - p (gx (x :: l) (i : Int)).From) 1 = 0 + (p x.To - p x.From) := rfl
  rw [e1, Int.zero_add]
  congr 1
  refine sm_congr fun i hi => ?_
  have : gx (x :: l) ((1 + i : Nat) : Int) = gx l (i : Int) := by
    rw [gx_nat (by simp; omega), gx_nat hi]
    simp [Nat.add_comm]
  rw [this]
theorem sumD_eq {ranks : List Int} : ∀ (l : List Link) (s : Int), (∀ x ∈ l, 0 ≤ stepD ranks x ∧ stepD ranks x ≤ 1000) → 0 ≤ s → s + 1000 * l.length ≤ 1000000000 → sumD ranks l s = s + baS l (gx ranks)
  | [], s, _, _, _ => by
    show s = s + 0
    omega
  | x :: l, s, h, h0, h1 => by
    have hx := h x (by simp)
    rw [List.length_cons] at h1
    push_cast at h1
    have e : sumD ranks (x :: l) s = sumD ranks l (W (s + stepD ranks x)) := rfl
    rw [e, Wk (by omega) (by omega), sumD_eq l _ (fun y hy => h y (by simp [hy])) (by omega) (by omega), baS_cons]
    unfold stepD; omega

section
variable {n : Nat} {l : List Link} {c r fs : List Int}
theorem AreRanks_eq (hn : 1 ≤ n ∧ n ≤ 60) (hl : OKl n l) (hp : ref_pieces (n : Int) l = some c) (hc : Lab n l c) (hr : RanksOK n l c r fs) : ref_AreRanks (n : Int) l r = some true := by
  have hll := hl.1
  have hrl := hr.len
  have hcl := hc.len
  unfold ref_AreRanks
  rw [decide_eq_true (p := (r.length : Int) = (n : Int)) (by omega), Bool.not_true, Bool.not_false, gd_true, ContainsFunc_Link_eqR l (fun x0 => ref_AreRanks_1 x0 r) (fun x => decide (gx r x.To ≤ gx r x.From)) (by omega) (fun x hx => by
    obtain ⟨j, hj, rfl⟩ := mem_gx hx
    obtain ⟨a, b, d⟩ := hl.2 _ hj
    unfold ref_AreRanks_1
    rw [need_of ⟨b.1, by omega⟩, need_of ⟨a.1, by omega⟩]), Option.bind_some]
  have hany : l.any (fun x => decide (gx r x.To ≤ gx r x.From)) = false := by
    rw [List.any_eq_false]
    intro x hx
    obtain ⟨j, hj, rfl⟩ := mem_gx hx
    have := hr.kept j hj
    simp; omega
  rw [hany, Bool.or_self, cond_false, hp, Option.bind_some]
  obtain ⟨e, e1, e2⟩ := rforE_inv (n := (n : Int)) (step := ref_AreRanks_L1 (n : Int) c r) (fin := fun s => (Res.nx s : Res Unit Bool)) (s0 := ()) (fun _ _ => True) (fun e => e = Res.nx ()) (by omega) trivial (fun i u hi _ => by
    left
    unfold ref_AreRanks_L1
    rw [need_of ⟨by omega, by omega⟩, bnd_eq]
    obtain ⟨s, f1, f2, f3⟩ := rfor_inv (n := (n : Int)) (step := ref_AreRanks_L2 c ((i : Int), u) r) (s0 := gx r (i : Int)) (fun j s => 0 ≤ s ∧ ∀ k : Int, 0 ≤ k → k < j → gx c k = gx c (i : Int) → s ≤ gx r k) (by omega) ⟨(hr.bd i (by omega) (by omega)).1, fun k k0 k1 => by omega⟩ (fun j s hj hI => by
      obtain ⟨i1, i2⟩ := hI
      unfold ref_AreRanks_L2
      simp only
      rw [need_of ⟨by omega, by omega⟩, need_of ⟨by omega, by omega⟩]
      have hb := hr.bd (j : Int) (by omega) (by omega)
      by_cases y : gx c (j : Int) = gx c (i : Int)
      · rw [decide_eq_true y, cond_true, need_of ⟨by omega, by omega⟩, bnd_eq]
        refine ⟨_, rfl, by omega, fun k k0 k1 hk => ?_⟩
        by_cases w : k = (j : Int)
        · subst w; omega
        · have := i2 k k0 (by push_cast at k1; omega) hk; omega
      · rw [decide_eq_false y, cond_false]
        refine ⟨_, rfl, i1, fun k k0 k1 hk => ?_⟩
        by_cases w : k = (j : Int)
        · subst w; exact absurd hk y
        · exact i2 k k0 (by push_cast at k1; omega) hk)
    obtain ⟨j, j0, j1, j2, j3⟩ := hr.zero i (by omega) (by omega)
    have := f3 j j0 (by simpa using j1) j2
    rw [f1, Option.bind_some, decide_eq_true (p := s = 0) (by omega), Bool.not_true, cond_false]
    exact ⟨_, rfl, trivial⟩) (fun _ _ => rfl)
  rw [e1, e2, bindR_nx]
end

theorem RanksAreLeast_true (n : Int) (l : List Link) (other : List Int) : law_RanksAreLeast n l other = some true := by
  unfold law_RanksAreLeast
  rw [GraphError_eq, Option.bind_some, TurnedOf_eq]
  by_cases hg : graphErr n l = 0
  · obtain ⟨n1, n2, hll, hall⟩ := graphErr_zero hg
    obtain ⟨N, rfl⟩ : ∃ N : Nat, n = N := ⟨n.toNat, by omega⟩
    have hn : 1 ≤ N ∧ N ≤ 60 := by omega
    have hl : OKl N l := ⟨hll, fun j hj => by
      have := hall _ (gx_mem hj)
      exact ⟨⟨this.1, this.2.1⟩, ⟨this.2.2.1, this.2.2.2.1⟩, this.2.2.2.2⟩⟩
    obtain ⟨out, T, h1, h2, h3, h4, h5⟩ := turned_eq hn hl
    rw [hg, h1]
    simp only [decide_true, gd_true, Option.bind_some, Bool.true_and]
    have hR : layer_Ranks (N : Int) l = bif decide (0 < ((sortI out).length : Int)) then some ([], 13) else Option.bind (layer_ranks (N : Int) l) fun r2 => some (r2, 0) := by
      unfold layer_Ranks
      rw [layer_Check_eq, hg, h1]; rfl
    rw [hR]
    by_cases c : 0 < ((sortI out).length : Int)
    · rw [decide_eq_true c]
      simp [layers_eq]
    · rw [decide_eq_false c]
      simp only [cond_false, Option.bind_some]
      have ho : out = [] := by
        have : (sortI out).length = out.length := by unfold sortI; simp
        exact List.eq_nil_of_length_eq_zero (by omega)
      subst ho
      obtain ⟨c, c1, c2, c3⟩ := ref_pieces_eq hn hl
      obtain ⟨r, fs, k1, hr⟩ := ranks_eq hn hl (fun j hj => (h4 j hj).1 (by simp)) c2 c3
      have hrl := hr.len
      obtain ⟨m, m1, m2⟩ := Min_pos (x := r) (by omega) (by omega) (fun k k0 k1 => (hr.bd k k0 (by omega)).1)
      have t1 := AreRanks_eq hn hl c1 c2 hr
      have t2 := AreLeast_eq hn hl hr
      have hT : totalOf (N : Int) l r = (baS l (gx r), 0) := by
        unfold totalOf
        have e1 : r.any rankOut = false := by
          rw [List.any_eq_false]
          intro x hx
          obtain ⟨j, hj, rfl⟩ := mem_gx hx
          have := hr.bd j hj.1 (by have := hj.2; omega)
          simp [rankOut]; omega
        have e2 : l.any (fun x => decide (gx r x.To ≤ gx r x.From)) = false := by
          rw [List.any_eq_false]
          intro x hx
          obtain ⟨j, hj, rfl⟩ := mem_gx hx
          have := hr.kept j hj
          simp; omega
        rw [if_neg (by simp [hg]), if_neg (by omega), e1, e2]
        simp only [Bool.false_eq_true, if_false]
        rw [sumD_eq l 0 (fun x hx => by
          obtain ⟨j, hj, rfl⟩ := mem_gx hx
          obtain ⟨a, b, d⟩ := hl.2 _ hj
          have := hr.bd _ a.1 a.2
          have := hr.bd _ b.1 b.2
          have := hr.kept j hj
          unfold stepD; omega) (by omega) (by omega), Int.zero_add]
      rw [k1]
      simp only [Option.bind_some, layers_eq, Bool.not_true, decide_true, Bool.or_self, cond_false]
      rw [decide_eq_true (p := (r.length : Int) = (N : Int)) (by omega), m1, t1, t2]
      simp only [Bool.not_true, Bool.or_self, Bool.not_false, gd_true, Option.bind_some]
      rw [decide_eq_false (p := m < 0) (by omega)]
      simp only [Bool.not_true, Bool.or_self, Bool.or_false, Bool.not_false, gd_true, Option.bind_some, cond_false, Total_eq, hT, decide_true, Bool.true_and]
      congr 1
      -- other ranks
      have hco := hr.flow.con
      have hsum : baS l (gx r) = sF l fs := by
        rw [← hco]
        refine sm_congr fun k hk => ?_
        have hk' : inR l (k : Int) := ⟨by omega, by omega⟩
        have hp := hr.flow.pos _ hk'
        rcases Int.lt_or_le 0 (gx fs (k : Int)) with y | y
        · rw [hr.tight _ hk' y, show gx r (gx l (k : Int)).From + 1 - gx r (gx l (k : Int)).From = 1 by omega, Int.mul_one]
        · rw [show gx fs (k : Int) = 0 by omega, Int.zero_mul]
      unfold totalOf
      rw [if_neg (by simp [hg])]
      by_cases q1 : (other.length : Int) ≠ N
      · rw [if_pos q1]; simp
      · rw [if_neg q1]
        by_cases q2 : other.any rankOut = true
        · rw [if_pos q2]; simp
        · rw [if_neg q2]
          by_cases q3 : l.any (fun x => decide (gx other x.To ≤ gx other x.From)) = true
          · rw [if_pos q3]; simp
          · rw [if_neg q3]
            have q2' : other.any rankOut = false := by simpa using q2
            have q3' : l.any (fun x => decide (gx other x.To ≤ gx other x.From)) = false := by
              cases hh : l.any (fun x => decide (gx other x.To ≤ gx other x.From)) with
              | false => rfl
              | true => exact absurd hh q3
            rw [List.any_eq_false] at q2' q3'
            have hok : ∀ j, inR l j → 1 ≤ gx other (gx l j).To - gx other (gx l j).From ∧ gx other (gx l j).To - gx other (gx l j).From ≤ 1000 := fun j hj => by
              obtain ⟨a, b, d⟩ := hl.2 _ hj
              have b1 := q2' _ (gx_mem (l := other) (k := (gx l j).To) ⟨b.1, by omega⟩)
              have b2 := q2' _ (gx_mem (l := other) (k := (gx l j).From) ⟨a.1, by omega⟩)
              have b3 := q3' _ (gx_mem hj)
              simp [rankOut] at b1 b2 b3
              omega
            rw [sumD_eq l 0 (fun x hx => by
              obtain ⟨j, hj, rfl⟩ := mem_gx hx
              have := hok j hj
              unfold stepD; omega) (by omega) (by omega), Int.zero_add]
            have hle : sF l fs ≤ baS l (gx other) := by
              rw [← hco]
              refine sm_le fun k hk => ?_
              have hk' : inR l (k : Int) := ⟨by omega, by omega⟩
              have := Int.mul_le_mul_of_nonneg_left (hok _ hk').1 (hr.flow.pos _ hk')
              simpa using this
            have : decide (baS l (gx r) ≤ baS l (gx other)) = true := decide_eq_true (by omega)
            simp [this]
  · have hR : layer_Ranks n l = some ([], graphErr n l) := by
      unfold layer_Ranks
      rw [layer_Check_eq, Option.bind_some, decide_eq_false hg]; rfl
    rw [hR, decide_eq_false hg]
    simp [layers_eq, hg]
end Go.DB
