/-
  Operations that are merged, as the program merges them and as the reference does.
-/
import Derived.Test.YtlkebjlooppdlaaGreatDoorTEMPuMerges1
set_option linter.unusedSimpArgs false
set_option linter.unusedVariables false
namespace Go.DB
open Go Go.RowKit

theorem Clash_loop {r : List DOp} (hl : r.length ≤ 1000000) (hs : srt (fun x y => decide (cmpOp x y < 0)) r) :
    (clash r ∧ loop (edit_Merge_L1 r) 1 = some (.ab (([] : List DOp), (11 : Int)))) ∨
    (¬ clash r ∧ loop (edit_Merge_L1 r) 1 = some (.nx ()) ∧ ∀ j : Nat, (hj : j < r.length) → 0 < j → cmpOp (r[j - 1]'(by omega)) r[j] = 0 → r[j - 1]'(by omega) = r[j]) := by
  classical
  have hloop := loop_all (body := edit_Merge_L1 r) 1 r.length (fun i => cmpOp (gx r ((i : Int) - 1)) (gx r (i : Int)) = 0 ∧ gx r ((i : Int) - 1) ≠ gx r (i : Int)) (([] : List DOp), (11 : Int)) (fun i h1 h2 => by
    unfold edit_Merge_L1
    have a1 : inR r ((i : Int) - 1) := ⟨by omega, by omega⟩
    have a2 : inR r (i : Int) := ⟨by omega, by omega⟩
    rw [decide_eq_true (p := (i : Int) < (r.length : Int)) (by omega), cond_true, Wk (by omega) (by omega), need_of a1, need_of a2, order_eq, Option.bind_some, need_of (fun _ => a1), need_of (fun _ => a2)]
    by_cases c : cmpOp (gx r ((i : Int) - 1)) (gx r (i : Int)) = 0
    · by_cases d : gx r ((i : Int) - 1) = gx r (i : Int)
      · rw [decide_eq_true c, decide_eq_true d, if_neg (fun e => e.2 d), Bool.not_true, Bool.and_false, cond_false, bnd_eq, Wk (by omega) (by omega)]
      · rw [decide_eq_true c, decide_eq_false d, if_pos ⟨c, d⟩]; rfl
    · rw [decide_eq_false c, if_neg (fun e => c e.1), Bool.false_and, cond_false, bnd_eq, Wk (by omega) (by omega)]) (fun i h => by
    unfold edit_Merge_L1
    rw [decide_eq_false (p := (i : Int) < (r.length : Int)) (by omega), cond_false])
  by_cases hb : ∃ i, 1 ≤ i ∧ i < r.length ∧ cmpOp (gx r ((i : Int) - 1)) (gx r (i : Int)) = 0 ∧ gx r ((i : Int) - 1) ≠ gx r (i : Int)
  · left
    obtain ⟨i, h1, h2, h3, h4⟩ := id hb
    refine ⟨⟨_, gx_mem ⟨by omega, by omega⟩, _, gx_mem ⟨by omega, by omega⟩, h3, h4⟩, ?_⟩
    rw [if_pos hb] at hloop
    exact hloop
  · right
    have hadj : ∀ j : Nat, (hj : j < r.length) → 0 < j → cmpOp (r[j - 1]'(by omega)) r[j] = 0 → r[j - 1]'(by omega) = r[j] := fun j hj h0 h1 => by
      refine Decidable.byContradiction fun h2 => hb ⟨j, by omega, hj, ?_, ?_⟩
      · rw [show (j : Int) - 1 = ((j - 1 : Nat) : Int) by omega, gx_nat hj, gx_nat (by omega)]; exact h1
      · rw [show (j : Int) - 1 = ((j - 1 : Nat) : Int) by omega, gx_nat hj, gx_nat (by omega)]; exact h2
    rw [if_neg hb] at hloop
    refine ⟨fun ⟨x, hx, y, hy, h1, h2⟩ => ?_, hloop, hadj⟩
    have key : ∀ (d i j : Nat) (hij : j = i + d) (hj : j < r.length), cmpOp (r[i]'(by omega)) r[j] = 0 → r[i]'(by omega) = r[j] := by
      intro d
      induction d with
      | zero => intro i j hij hj _; obtain rfl : j = i := by omega
                rfl
      | succ d ih =>
        intro i j hij hj he
        have h3 := sorted_near hs (i := i) (j := j) (by omega) hj he
        have h4 := hadj j hj (by omega) h3
        rw [ih i (j - 1) (by omega) (by omega) (by rw [h4]; exact he), h4]
    obtain ⟨i, hi, rfl⟩ := List.getElem_of_mem hx
    obtain ⟨j, hj, rfl⟩ := List.getElem_of_mem hy
    rcases Nat.le_total i j with h | h
    · exact h2 (key (j - i) i j (by omega) hj h1)
    · exact h2 (key (i - j) j i (by omega) hi (by have := cmpOp_swap r[i] r[j]; omega)).symm

/-- What the program merges. -/
theorem Merge_list {a b : List DOp} (ha : a.length ≤ 2000) (hb : b.length ≤ 2000) (e2 : List DOp → Int) (hC : ∀ l : List DOp, edit_Check l = some (e2 l)) :
    ∃ r : List DOp, slices_SortStableFunc_Op (a ++ b) edit_order = some r ∧
      ((clash (a ++ b) ∧ loop (edit_Merge_L1 r) 1 = some (.ab (([] : List DOp), (11 : Int)))) ∨
       (¬ clash (a ++ b) ∧ loop (edit_Merge_L1 r) 1 = some (.nx ()) ∧ slices_Compact_Op r = some (keepC r r.length) ∧ (keepC r r.length).Pairwise ltOp ∧ ∀ x, x ∈ keepC r r.length ↔ x ∈ a ++ b)) := by
  obtain ⟨r, h1, h2⟩ := StbOp.stable_eq swo_order (D := a ++ b) (fun _ _ => trivial) (by simp; omega)
  have hlen : r.length ≤ 1000000 := by rw [h1.len]; simp; omega
  have hcl : clash r ↔ clash (a ++ b) := by
    unfold clash
    constructor
    · rintro ⟨x, hx, y, hy, h⟩; exact ⟨x, h1.mem.1 hx, y, h1.mem.1 hy, h⟩
    · rintro ⟨x, hx, y, hy, h⟩; exact ⟨x, h1.mem.2 hx, y, h1.mem.2 hy, h⟩
  refine ⟨r, h2, ?_⟩
  rcases Clash_loop hlen h1.srtd with ⟨c, hl⟩ | ⟨c, hl, hadj⟩
  · exact .inl ⟨hcl.1 c, hl⟩
  · refine .inr ⟨fun h => c (hcl.2 h), hl, Compact_eq hlen, keepC_lt h1.srtd hadj (Nat.le_refl _), fun x => ?_⟩
    rw [keepC_mem (Nat.le_refl _), List.take_length, h1.mem]

end Go.DB
