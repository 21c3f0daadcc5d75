/-
  SweepsMatch: a row that is sorted by means, as the program sorts it and as the reference does.
-/
import Derived.Test.YtbahnfkccdlpnaaSwePuMeans
import Derived.Test.YtbahnfkccdlpnaaSwePuSortMean
set_option linter.unusedSimpArgs false
set_option linter.unusedVariables false
namespace Go.DB
open Go Go.RowKit

/-- Which end of a link is sorted, and which one is looked for. -/
structure Dir where
  key : Link → Int
  far : Link → Int
def Dir.down : Dir := ⟨(·.To), (·.From)⟩
def Dir.up : Dir := ⟨(·.From), (·.To)⟩
variable {dr : Dir}
def lstep (dr : Dir) (other : List Int) (n : Int) (s : Int × Int) (x : Link) : Int × Int := if dr.key x = n ∧ dr.far x ∈ other then (s.1 + (ps other (dr.far x) : Int), s.2 + 1) else s
/-- The sum of places, and how many there are. -/
def msum (dr : Dir) (other : List Int) (l : List Link) (n : Int) : Int × Int := l.foldl (lstep dr other n) (0, 0)
theorem msum_snoc (dr : Dir) (other : List Int) (l : List Link) (x : Link) (n : Int) : msum dr other (l ++ [x]) n = lstep dr other n (msum dr other l n) x := by
  unfold msum; rw [List.foldl_append]; rfl
theorem msum_bd {other : List Int} (ho : other.length ≤ 60) (n : Int) (l : List Link) : 0 ≤ (msum dr other l n).1 ∧ (msum dr other l n).1 ≤ (l.length : Int) * 60 ∧ 0 ≤ (msum dr other l n).2 ∧ (msum dr other l n).2 ≤ l.length := by
  have key : ∀ (k : Nat) (l : List Link), l.length = k → 0 ≤ (msum dr other l n).1 ∧ (msum dr other l n).1 ≤ (l.length : Int) * 60 ∧ 0 ≤ (msum dr other l n).2 ∧ (msum dr other l n).2 ≤ l.length := by
    intro k
    induction k with
    | zero => intro l h; rw [List.length_eq_zero_iff.1 h]; exact ⟨Int.le_refl _, Int.le_refl _, Int.le_refl _, Int.le_refl _⟩
    | succ k ih =>
      intro l h
      have hne : l ≠ [] := by intro e; rw [e] at h; simp at h
      obtain ⟨m, x, rfl⟩ : ∃ m x, l = m ++ [x] := ⟨l.dropLast, l.getLast hne, (List.dropLast_concat_getLast hne).symm⟩
      have hm := ih m (by simpa using h)
      rw [msum_snoc]
      unfold lstep
      rw [List.length_append]
      by_cases c : dr.key x = n ∧ dr.far x ∈ other
      · have hp := ps_lt c.2
        rw [if_pos c]
        simp only [List.length_cons, List.length_nil]
        omega
      · rw [if_neg c]
        simp only [List.length_cons, List.length_nil]
        omega
  exact key l.length l rfl
/-- The mean of a node. -/
def meanOf (dr : Dir) (row other : List Int) (l : List Link) (n : Int) : Layer_mean := if (msum dr other l n).2 = 0 then ⟨(ps row n : Int), 1⟩ else ⟨(msum dr other l n).1, (msum dr other l n).2⟩
theorem meanOf_bd {row other : List Int} {l : List Link} (hr : row.length ≤ 60) (ho : other.length ≤ 60) (hl : l.length ≤ 200) {n : Int} (hn : n ∈ row) :
    0 ≤ (meanOf dr row other l n).sum ∧ (meanOf dr row other l n).sum ≤ 12000 ∧ 1 ≤ (meanOf dr row other l n).many ∧ (meanOf dr row other l n).many ≤ 200 := by
  have h1 := msum_bd (dr := dr) ho n l
  have h2 := ps_lt hn
  unfold meanOf
  by_cases c : (msum dr other l n).2 = 0
  · rw [if_pos c]; simp only; omega
  · rw [if_neg c]; simp only; omega
def mltO (mean : Int → Layer_mean) (a b : Int) : Bool := decide ((mean a).sum * (mean b).many < (mean b).sum * (mean a).many)

/-- What the program sorts. -/
theorem sorted_is {row other : List Int} {l : List Link} {ends : Link → Option (Int × Int)} (hr : row.length ≤ 60) (hrn : row.Nodup) (ho : other.length ≤ 60) (hon : other.Nodup) (hl : l.length ≤ 200) (he : ∀ x, ends x = some (dr.key x, dr.far x)) :
    ∃ out, layer_sorted row other l ends = some out ∧ Sd (mltO (meanOf dr row other l)) row out := by
  unfold layer_sorted
  obtain ⟨A, a1, a2, a3⟩ := places_eq (row := other) (by omega)
  rw [a1, Option.bind_some, bnd_eq]
  obtain ⟨M, m1, m2⟩ := rfor_inv (n := (l.length : Int)) (step := layer_sorted_L1 l A ends) (s0 := (GMap.nil : GMap Int Layer_mean)) (fun i M => ∀ n, M.getD n z0 = ⟨(msum dr other (l.take i) n).1, (msum dr other (l.take i) n).2⟩) (by omega) (fun n => by
    rw [List.take_zero]; rfl) (fun i M hi hM => by
    have hil : i < l.length := by omega
    unfold layer_sorted_L1
    rw [need_of ⟨by omega, hi⟩, bnd_eq, gx_nat hil, he, Option.bind_some, a2]
    have hs : ∀ n, msum dr other (l.take (i + 1)) n = lstep dr other n (msum dr other (l.take i) n) l[i] := fun n => by rw [List.take_succ_eq_append_getElem hil, msum_snoc]
    by_cases c : dr.far l[i] ∈ other
    · have hp := ps_lt c
      have hb := msum_bd (dr := dr) ho (dr.key l[i]) (l.take i)
      have hlt : (l.take i).length ≤ 200 := by simp; omega
      rw [show decide ((dr.key l[i], dr.far l[i]).2 ∈ other) = true from decide_eq_true c, cond_true, bnd_eq]
      refine ⟨_, rfl, fun n => ?_⟩
      rw [set_getDM, hs]
      unfold lstep
      by_cases d : n = dr.key l[i]
      · rw [if_pos d, if_pos ⟨d.symm, c⟩]
        show (⟨W ((M.getD (dr.key l[i]) z0).sum + A.getD (dr.far l[i]) 0), W ((M.getD (dr.key l[i]) z0).many + 1)⟩ : Layer_mean) = _
        rw [hM, a3 hon _ c, d]
        simp only
        rw [Wk (by omega) (by omega), Wk (by omega) (by omega)]
      · rw [if_neg d, if_neg (fun e => d e.1.symm)]; exact hM n
    · rw [show decide ((dr.key l[i], dr.far l[i]).2 ∈ other) = false from decide_eq_false c, cond_false]
      refine ⟨_, rfl, fun n => ?_⟩
      rw [hs]
      unfold lstep
      rw [if_neg (fun e => c e.2)]; exact hM n)
  rw [m1, Option.bind_some]
  rw [Int.toNat_natCast, List.take_length] at m2
  obtain ⟨M2, n1, n2⟩ := rfor_inv (n := (row.length : Int)) (step := layer_sorted_L2 row) (s0 := M) (fun i M => ∀ n, M.getD n z0 = if n ∈ row.take i then meanOf dr row other l n else ⟨(msum dr other l n).1, (msum dr other l n).2⟩) (by omega) (fun n => by
    rw [List.take_zero, if_neg (by simp)]; exact m2 n) (fun i M hi hI => by
    have hir : i < row.length := by omega
    unfold layer_sorted_L2
    rw [need_of ⟨by omega, hi⟩, bnd_eq, gx_nat hir]
    have hnot : row[i] ∉ row.take i := fun e => by
      obtain ⟨j, hj, e⟩ := List.mem_take_iff_getElem.1 e
      exact (List.pairwise_iff_getElem.1 hrn j i (by omega) hir (by omega)) e
    have hMi := hI row[i]
    rw [if_neg hnot] at hMi
    have hmem : ∀ n, n ∈ row.take (i + 1) ↔ n ∈ row.take i ∨ n = row[i] := fun n => by rw [List.take_succ_eq_append_getElem hir, List.mem_append, List.mem_singleton]
    have hz : M.getD row[i] (⟨(0 : Int), (0 : Int)⟩ : Layer_mean) = ⟨(msum dr other l row[i]).1, (msum dr other l row[i]).2⟩ := hMi
    by_cases c : (msum dr other l row[i]).2 = 0
    · rw [show decide ((M.getD row[i] (⟨(0 : Int), (0 : Int)⟩ : Layer_mean)).many = 0) = true from decide_eq_true (by rw [hz]; exact c), cond_true]
      refine ⟨_, rfl, fun n => ?_⟩
      rw [set_getDM]
      by_cases d : n = row[i]
      · rw [if_pos d, if_pos ((hmem n).2 (.inr d)), d]
        unfold meanOf
        rw [if_pos c, ps_at hrn hir]
      · rw [if_neg d, hI n]
        by_cases e : n ∈ row.take i
        · rw [if_pos e, if_pos ((hmem n).2 (.inl e))]
        · rw [if_neg e, if_neg (fun h => ((hmem n).1 h).elim e d)]
    · rw [show decide ((M.getD row[i] (⟨(0 : Int), (0 : Int)⟩ : Layer_mean)).many = 0) = false from decide_eq_false (by rw [hz]; exact c), cond_false]
      refine ⟨_, rfl, fun n => ?_⟩
      rw [hI n]
      by_cases e : n ∈ row.take i
      · rw [if_pos e, if_pos ((hmem n).2 (.inl e))]
      · rw [if_neg e]
        by_cases d : n = row[i]
        · rw [if_pos ((hmem n).2 (.inr d)), d]
          unfold meanOf
          rw [if_neg c]
        · rw [if_neg (fun h => ((hmem n).1 h).elim e d)])
  rw [n1, Option.bind_some, Clone_int_eqR (by omega), Option.bind_some]
  rw [Int.toNat_natCast, List.take_length] at n2
  have hB : MeanB 300 M2 := fun n => by
    rw [n2]
    have h1 := msum_bd (dr := dr) ho n l
    by_cases e : n ∈ row
    · have h2 := meanOf_bd (dr := dr) hr ho hl e
      rw [if_pos e]; omega
    · rw [if_neg e]; simp only; omega
  have hmean : ∀ n ∈ row, M2.getD n z0 = meanOf dr row other l n := fun n hn => by rw [n2, if_pos hn]
  have hw : Swo (· ∈ row) (mltO (meanOf dr row other l)) (fun x0 x1 => layer_sorted_1 x0 x1 M2) := by
    have h0 := mean_swo hB
    have hS : ∀ x ∈ row, 1 ≤ (M2.getD x z0).many := fun x hx => by rw [hmean x hx]; exact (meanOf_bd (dr := dr) hr ho hl hx).2.2.1
    have hlt : ∀ x y, x ∈ row → y ∈ row → mltO (meanOf dr row other l) x y = meanLt M2 x y := fun x y hx hy => by unfold mltO meanLt; rw [hmean x hx, hmean y hy]
    refine ⟨fun x y hx hy => ?_, fun x y hx hy h => ?_, fun x y z hx hy hz h1 h2 => ?_⟩
    · rw [hlt x y hx hy]; exact h0.cmp x y (hS x hx) (hS y hy)
    · rw [hlt _ _ hx hy] at h; rw [hlt _ _ hy hx]; exact h0.asym x y (hS x hx) (hS y hy) h
    · rw [hlt _ _ hx hy] at h1; rw [hlt _ _ hy hz] at h2; rw [hlt _ _ hx hz]; exact h0.ntr x y z (hS x hx) (hS y hy) (hS z hz) h1 h2
  obtain ⟨out, o1, o2⟩ := Stbint.stable_eq hw (D := row) (fun x hx => hx) (by omega)
  rw [o2, Option.bind_some]
  exact ⟨out, rfl, o1⟩
end Go.DB
