/-
  Right operations as sets, and what two lists make together.
-/
import Derived.Test.YtlkebjlooppdlaaGreatDoorTEMPuMerges2
import Derived.Test.YtlkebjlooppdlaaGreatDoorTEMPuAdds1
set_option linter.unusedSimpArgs false
set_option linter.unusedVariables false
namespace Go.DB
open Go Go.RowKit

theorem op_numC {x y : DOp} (hs : x.Stamp.Site = y.Stamp.Site) : cmpOp x y < 0 ↔ x.Stamp.No < y.Stamp.No := by
  rw [op_same hs]
  have := numC_cases x.Stamp.No y.Stamp.No
  omega
structure Right1 (x : DOp) : Prop where
  site : nameB x.Stamp.Site = true
  no : 1 ≤ x.Stamp.No
  tm : 1 ≤ x.Stamp.Time ∧ x.Stamp.Time ≤ 1000000000
  body : bodyErr x = 0
def Good (S : DOp → Prop) : Prop := ∀ x, S x → Right1 x ∧ (1 < x.Stamp.No → ∃ y, S y ∧ y.Stamp.Site = x.Stamp.Site ∧ y.Stamp.No = x.Stamp.No - 1 ∧ y.Stamp.Time < x.Stamp.Time)
theorem Good.or {S T : DOp → Prop} (hs : Good S) (ht : Good T) : Good (fun x => S x ∨ T x) := fun x hx => by
  rcases hx with hx | hx
  · obtain ⟨a, b⟩ := hs x hx
    exact ⟨a, fun h => by obtain ⟨y, y1, y2⟩ := b h; exact ⟨y, .inl y1, y2⟩⟩
  · obtain ⟨a, b⟩ := ht x hx
    exact ⟨a, fun h => by obtain ⟨y, y1, y2⟩ := b h; exact ⟨y, .inr y1, y2⟩⟩
theorem op_mem {l : List DOp} {x : DOp} (h : x ∈ l) : ∃ i : Nat, i < l.length ∧ opI l i = x := by
  obtain ⟨i, hi, rfl⟩ := List.getElem_of_mem h
  exact ⟨i, hi, gx_nat hi⟩
theorem mem_op {l : List DOp} {i : Nat} (h : i < l.length) : opI l i ∈ l := by
  unfold opI
  rw [gx_nat h]
  exact List.getElem_mem h
theorem opsErr_good {l : List DOp} (h : opsErr l = 0) : Good (· ∈ l) := fun x hx => by
  obtain ⟨i, hi, rfl⟩ := op_mem hx
  have hs := op_step h hi
  have hn := no_bd h i hi
  have hl := (opsErr_len h).1
  refine ⟨⟨hs.1, hn.1, hs.2.2.1, hs.2.2.2.2⟩, fun hgt => ?_⟩
  have h1 := hs.2.1
  rcases bef_cases (l := l) i with ⟨j, e, es, eb⟩ | ⟨_, e⟩
  · have := no_bd h j (by omega)
    rw [eb, Wk (by omega) (by omega)] at h1
    have h4 := hs.2.2.2.1
    rw [eb] at h4
    exact ⟨opI l j, mem_op (by omega), es, by omega, h4⟩
  · rw [e] at h1
    have : W (zeroOp.Stamp.No + 1) = 1 := by show W (0 + 1) = 1; rw [Wk (by omega) (by omega)]; rfl
    omega
theorem srt_lt {l : List DOp} (hs : l.Pairwise ltOp) {i j : Nat} (hij : i < j) (hj : j < l.length) : cmpOp (opI l i) (opI l j) < 0 := by
  have := List.pairwise_iff_getElem.1 hs i j (by omega) hj hij
  unfold opI
  rw [gx_nat hj, gx_nat (show i < l.length by omega)]
  exact this
theorem srt_pos {l : List DOp} (hs : l.Pairwise ltOp) {i j : Nat} (hi : i < l.length) (hj : j < l.length) (h : cmpOp (opI l i) (opI l j) < 0) : i < j := by
  rcases Nat.lt_trichotomy i j with c | c | c
  · exact c
  · subst c; rw [cmpOp_self] at h; omega
  · have := srt_lt hs c hi
    have := cmpOp_swap (opI l i) (opI l j)
    omega
theorem good_opsErr {l : List DOp} (hl : l.length ≤ 2000) (hs : l.Pairwise ltOp) (hg : Good (· ∈ l)) : opsErr l = 0 := by
  have hpred : ∀ i : Nat, i < l.length → 1 < (opI l i).Stamp.No → ∃ j : Nat, j < i ∧ (opI l j).Stamp.Site = (opI l i).Stamp.Site ∧ (opI l j).Stamp.No = (opI l i).Stamp.No - 1 ∧ (opI l j).Stamp.Time < (opI l i).Stamp.Time := fun i hi h => by
    obtain ⟨y, y1, y2, y3, y4⟩ := (hg _ (mem_op hi)).2 h
    obtain ⟨j, hj, rfl⟩ := op_mem y1
    exact ⟨j, srt_pos hs hj hi ((op_numC y2).2 (by omega)), y2, y3, y4⟩
  have hno : ∀ n i : Nat, i < n → i < l.length → (opI l i).Stamp.No ≤ (i : Int) + 1 := by
    intro n
    induction n with
    | zero => intro i h; omega
    | succ n ih =>
      intro i h1 h2
      by_cases c : 1 < (opI l i).Stamp.No
      · obtain ⟨j, j1, _, j3, _⟩ := hpred i h2 c
        have := ih j (by omega) (by omega)
        omega
      · omega
  unfold opsErr
  rw [if_neg (by omega)]
  refine firstErr_zero.2 fun e he => ?_
  obtain ⟨i, hi, rfl⟩ := List.mem_map.1 he
  have hi := List.mem_range.1 hi
  have hr := (hg _ (mem_op hi)).1
  have hz : zeroOp.Stamp.No = 0 ∧ zeroOp.Stamp.Time = 0 := ⟨rfl, rfl⟩
  rw [opAt_E]
  match i, hi, hr with
  | 0, hi, hr =>
    have hbe : befE (decide (0 < 0)) (gx l (((0 : Nat) : Int) - 1)) (opI l 0) = zeroOp := if_neg (fun c => by have := of_decide_eq_true c.1; omega)
    have h1 := hno 1 0 (by omega) hi
    have h2 := hr.no
    have h3 := hr.tm
    rw [opE_ok hr.site (fun c => by have := of_decide_eq_true c; omega) (by rw [hbe, hz.1, Wk (by omega) (by omega)]; omega) hr.tm (by rw [hbe, hz.2]; omega)]
    exact hr.body
  | r + 1, hi, hr =>
    rw [show ((r + 1 : Nat) : Int) - 1 = (r : Int) by omega]
    have hlt : cmpOp (opI l r) (opI l (r + 1)) < 0 := srt_lt hs (by omega) hi
    have hrr := (hg _ (mem_op (show r < l.length by omega))).1
    have hn1 := hno _ r (Nat.lt_succ_self _) (by omega)
    have hn2 := hrr.no
    have hn3 := hr.no
    have hn4 := hr.tm
    have key : (befE (decide (0 < r + 1)) (opI l r) (opI l (r + 1))).Stamp.No + 1 = (opI l (r + 1)).Stamp.No ∧ (befE (decide (0 < r + 1)) (opI l r) (opI l (r + 1))).Stamp.Time < (opI l (r + 1)).Stamp.Time := by
      unfold befE
      by_cases c : (opI l r).Stamp.Site = (opI l (r + 1)).Stamp.Site
      · rw [if_pos ⟨by simp, c⟩]
        have h1 := (op_numC c).1 hlt
        obtain ⟨j, j1, j2, j3, j4⟩ := hpred (r + 1) hi (by omega)
        rcases Nat.lt_or_ge j r with q | q
        · have := (op_numC (j2.trans c.symm)).1 (srt_lt hs q (by omega))
          omega
        · obtain rfl : j = r := by omega
          exact ⟨by omega, j4⟩
      · rw [if_neg (fun e => c e.2), hz.1, hz.2]
        refine ⟨?_, by omega⟩
        by_cases c1 : 1 < (opI l (r + 1)).Stamp.No
        · obtain ⟨j, j1, j2, j3, j4⟩ := hpred (r + 1) hi c1
          rcases Nat.lt_or_ge j r with q | q
          · have h1 := srt_lt hs q (show r < l.length by omega)
            exact absurd ((op_site (by omega) (by omega) j2).trans j2) c
          · obtain rfl : j = r := by omega
            exact absurd j2 c
        · omega
    have hb0 : (befE (decide (0 < r + 1)) (opI l r) (opI l (r + 1))).Stamp.No ≤ 2001 := by
      unfold befE
      split
      · omega
      · rw [hz.1]; omega
    have hb1 : 0 ≤ (befE (decide (0 < r + 1)) (opI l r) (opI l (r + 1))).Stamp.No := by
      omega
    rw [opE_ok hr.site (fun _ => hlt) (by rw [Wk (by omega) (by omega)]; exact key.1.symm) hr.tm key.2]
    exact hr.body

/-! Merging. -/

theorem srt_key {l : List DOp} (hs : l.Pairwise ltOp) {x y : DOp} (hx : x ∈ l) (hy : y ∈ l) (h : cmpOp x y = 0) : x = y := by
  obtain ⟨i, hi, rfl⟩ := op_mem hx
  obtain ⟨j, hj, rfl⟩ := op_mem hy
  rcases Nat.lt_trichotomy i j with c | c | c
  · have := srt_lt hs c hj; omega
  · rw [c]
  · have := srt_lt hs c hi
    have := cmpOp_swap (opI l i) (opI l j)
    omega
theorem Merge_ok {a b k : List DOp} (ha : opsErr a = 0) (hb : b.length ≤ 2000) (hk : opsErr k = 0) (hm : ∀ x, x ∈ k ↔ x ∈ a ++ b) : edit_Merge a b = some (k, 0) := by
  obtain ⟨hla, _⟩ := opsErr_len ha
  have hks := opsErr_sorted hk
  unfold edit_Merge
  rw [Check_eq, Option.bind_some, ha]
  show (bif decide (2000 < (b.length : Int)) then _ else _) = _
  rw [decide_eq_false (by omega), cond_false, Concat_eq hla hb, Option.bind_some]
  obtain ⟨r, h1, h2⟩ := Merge_list (a := a) (b := b) hla hb opsErr Check_eq
  rw [h1, Option.bind_some]
  rcases h2 with ⟨c, h2⟩ | ⟨c, h2, h3, h4, h5⟩
  · obtain ⟨x, hx, y, hy, c1, c2⟩ := c
    exact absurd (srt_key hks ((hm x).2 hx) ((hm y).2 hy) c1) c2
  · have he : keepC r r.length = k := sorted_uniq ltOp_irr ltOp_asym h4 hks (fun x => by rw [h5, hm])
    rw [h2, bindR_nx, h3, Option.bind_some, Check_eq, Option.bind_some, he, hk]
    rfl
theorem Merge_inv (a b : List DOp) : ∃ m : List DOp × Int, edit_Merge a b = some m ∧ (m.2 ≠ 0 → m.1 = []) ∧ (m.2 = 0 → opsErr a = 0 ∧ b.length ≤ 2000 ∧ opsErr m.1 = 0 ∧ ∀ x, x ∈ m.1 ↔ x ∈ a ++ b) := by
  unfold edit_Merge
  rw [Check_eq, Option.bind_some]
  by_cases ha : opsErr a = 0
  · obtain ⟨hla, _⟩ := opsErr_len ha
    rw [ha]
    show ∃ m, (bif decide (2000 < (b.length : Int)) then _ else _) = _ ∧ _
    by_cases hb : 2000 < b.length
    · rw [decide_eq_true (by omega), cond_true]
      exact ⟨([], 4), rfl, fun _ => rfl, fun e => by cases e⟩
    · have hb : b.length ≤ 2000 := by omega
      rw [decide_eq_false (by omega), cond_false, Concat_eq hla hb, Option.bind_some]
      obtain ⟨r, h1, h2⟩ := Merge_list (a := a) (b := b) hla hb opsErr Check_eq
      rw [h1, Option.bind_some]
      rcases h2 with ⟨c, h2⟩ | ⟨c, h2, h3, h4, h5⟩
      · rw [h2]
        exact ⟨([], 11), rfl, fun _ => rfl, fun e => by cases e⟩
      · rw [h2, bindR_nx, h3, Option.bind_some, Check_eq, Option.bind_some]
        by_cases z : opsErr (keepC r r.length) = 0
        · rw [decide_eq_true z]
          exact ⟨(keepC r r.length, 0), rfl, fun e => absurd rfl e, fun _ => ⟨rfl, hb, z, h5⟩⟩
        · rw [decide_eq_false z]
          exact ⟨([], opsErr (keepC r r.length)), rfl, fun _ => rfl, fun e => absurd e z⟩
  · rw [decide_eq_false ha]
    exact ⟨([], opsErr a), rfl, fun _ => rfl, fun e => absurd e ha⟩
/-- Some of what is right, that has with each one all before it. -/
theorem some_right {l : List DOp} (h : opsErr l = 0) (p : DOp → Bool) (hp : Good (fun x => x ∈ l ∧ p x = true)) : opsErr (l.filter p) = 0 := by
  have hl := (opsErr_len h).1
  refine good_opsErr ?_ ((opsErr_sorted h).filter p) fun x hx => ?_
  · have := List.length_filter_le p l; omega
  · have h2 := hp x (List.mem_filter.1 hx)
    refine ⟨h2.1, fun hn => ?_⟩
    obtain ⟨y, y1, y2⟩ := h2.2 hn
    exact ⟨y, List.mem_filter.2 y1, y2⟩
end Go.DB
