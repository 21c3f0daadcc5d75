/-
  Ranks: the reference agrees.
-/
import Derived.Test.YtbahnfkccdlpnaaDraPuRanks4
set_option linter.unusedSimpArgs false
set_option linter.unusedVariables false
namespace Go.DB
open Go Go.RowKit

theorem IndexFunc_Link_eqR (s : List Link) (f : Link → Option Bool) (p : Link → Bool) (hl : (s.length : Int) ≤ 9223372036854775807) (hf : ∀ x ∈ s, f x = some (p x)) :
    slices_IndexFunc_Link s f = some (match s.findIdx? p with | some i => (i : Int) | none => -1) := by
  unfold slices_IndexFunc_Link
  rw [rforE_index p hl (fun i h => by unfold slices_IndexFunc_Link_L1; rw [need_of ⟨by omega, by omega⟩, gx_nat h, hf _ (List.getElem_mem h)]; simp only [bind_sm]; cases p s[i] <;> rfl)]
  cases s.findIdx? p <;> rfl
theorem ContainsFunc_Link_eqR (s : List Link) (f : Link → Option Bool) (p : Link → Bool) (hl : (s.length : Int) ≤ 9223372036854775807) (hf : ∀ x ∈ s, f x = some (p x)) : slices_ContainsFunc_Link s f = some (s.any p) := by
  unfold slices_ContainsFunc_Link
  rw [IndexFunc_Link_eqR s f p hl hf, Option.bind_some]
  exact congrArg some idx_any
section
variable {n : Nat} {l : List Link} {c r fs : List Int}
theorem AreRanks_eq (hn : 1 ≤ n ∧ n ≤ 60) (hl : OKl n l) (hp : ref_pieces (n : Int) l = some c) (hc : Lab n l c) (hr : RanksOK n l c r fs) : ref_AreRanks (n : Int) l r = some true := by
  have hll := hl.1
  have hrl := hr.len
  have hcl := hc.len
  unfold ref_AreRanks
  rw [decide_eq_true (p := (r.length : Int) = (n : Int)) (by omega), Bool.not_true, Bool.not_false, gd_true, ContainsFunc_Link_eqR l (fun x0 => ref_AreRanks_1 x0 r) (fun x => decide (gx r x.To ≤ gx r x.From)) (by omega) (fun x hx => by
    obtain ⟨j, hj, rfl⟩ := mem_gx hx
    obtain ⟨a, b, d⟩ := hl.2 _ hj
    unfold ref_AreRanks_1
    rw [need_of ⟨b.1, by omega⟩, need_of ⟨a.1, by omega⟩]), Option.bind_some]
  have hany : l.any (fun x => decide (gx r x.To ≤ gx r x.From)) = false := by
    rw [List.any_eq_false]
    intro x hx
    obtain ⟨j, hj, rfl⟩ := mem_gx hx
    have := hr.kept j hj
    simp; omega
  rw [hany, Bool.or_self, cond_false, hp, Option.bind_some]
  obtain ⟨e, e1, e2⟩ := rforE_inv (n := (n : Int)) (step := ref_AreRanks_L1 (n : Int) c r) (fin := fun s => (Res.nx s : Res Unit Bool)) (s0 := ()) (fun _ _ => True) (fun e => e = Res.nx ()) (by omega) trivial (fun i u hi _ => by
    left
    unfold ref_AreRanks_L1
    rw [need_of ⟨by omega, by omega⟩, bnd_eq]
    obtain ⟨s, f1, f2, f3⟩ := rfor_inv (n := (n : Int)) (step := ref_AreRanks_L2 c ((i : Int), u) r) (s0 := gx r (i : Int)) (fun j s => 0 ≤ s ∧ ∀ k : Int, 0 ≤ k → k < j → gx c k = gx c (i : Int) → s ≤ gx r k) (by omega) ⟨(hr.bd i (by omega) (by omega)).1, fun k k0 k1 => by omega⟩ (fun j s hj hI => by
      obtain ⟨i1, i2⟩ := hI
      unfold ref_AreRanks_L2
      simp only
      rw [need_of ⟨by omega, by omega⟩, need_of ⟨by omega, by omega⟩]
      have hb := hr.bd (j : Int) (by omega) (by omega)
      by_cases y : gx c (j : Int) = gx c (i : Int)
      · rw [decide_eq_true y, cond_true, need_of ⟨by omega, by omega⟩, bnd_eq]
        refine ⟨_, rfl, by omega, fun k k0 k1 hk => ?_⟩
        by_cases w : k = (j : Int)
        · subst w; omega
        · have := i2 k k0 (by push_cast at k1; omega) hk; omega
      · rw [decide_eq_false y, cond_false]
        refine ⟨_, rfl, i1, fun k k0 k1 hk => ?_⟩
        by_cases w : k = (j : Int)
        · subst w; exact absurd hk y
        · exact i2 k k0 (by push_cast at k1; omega) hk)
    obtain ⟨j, j0, j1, j2, j3⟩ := hr.zero i (by omega) (by omega)
    have := f3 j j0 (by simpa using j1) j2
    rw [f1, Option.bind_some, decide_eq_true (p := s = 0) (by omega), Bool.not_true, cond_false]
    exact ⟨_, rfl, trivial⟩) (fun _ _ => rfl)
  rw [e1, e2, bindR_nx]
end
end Go.DB
