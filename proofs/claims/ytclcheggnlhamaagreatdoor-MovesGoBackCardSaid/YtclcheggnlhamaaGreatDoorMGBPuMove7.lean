/-
  Selections that are spread: both ways.
-/
import Derived.Test.YtclcheggnlhamaaGreatDoorMGBPuMove6
set_option linter.unusedSimpArgs false
set_option linter.unusedVariables false
namespace Go.DB
open Go Go.RowKit

theorem Floor_eqM {a b : Int} (hb : 1 ≤ b) (h1 : -1000000000000 ≤ a) (h2 : a ≤ 1000000000000) : geom_Floor a b = some (a / b) := by
  unfold geom_Floor
  rw [need_of (by omega), bnd_eq, need_of (by omega)]
  have hq : -1000000000000 ≤ a / b ∧ a / b ≤ 1000000000000 := by
    constructor
    · refine (Int.le_ediv_iff_mul_le (by omega)).2 ?_
      have := Int.mul_le_mul_of_nonneg_left hb (show (0 : Int) ≤ 1000000000000 by omega)
      omega
    · refine Int.le_trans (Int.ediv_le_ediv (by omega) h2) ?_
      exact Int.ediv_le_self _ (by omega)
  rcases Int.lt_or_le a 0 with ha | ha
  · have e := Int.tdiv_eq_ediv (a := a) (b := b)
    have e2 := Int.tmod_eq_emod (a := a) (b := b)
    have hsg : b.sign = 1 := Int.sign_eq_one_of_pos (by omega)
    have hab : b.natAbs = b := by omega
    by_cases hd : b ∣ a
    · rw [if_pos (.inr hd)] at e e2
      have hm : a.tmod b = 0 := by rw [e2]; have := Int.emod_eq_zero_of_dvd hd; omega
      rw [hm, e]
      simp [bnd_eq]
    · rw [if_neg (fun h => h.elim (by omega) hd)] at e e2
      have hmb := Int.emod_lt_of_pos a (show 0 < b by omega)
      have hm : a.tmod b < 0 := by rw [e2]; omega
      rw [decide_eq_true hm, cond_true, bnd_eq, e, hsg, show a / b + 1 - 1 = a / b by omega, Wk (by omega) (by omega)]; rfl
  · have hm : ¬ a.tmod b < 0 := by
      have := Int.tmod_nonneg b ha
      omega
    rw [decide_eq_false hm, cond_false, Int.tdiv_eq_ediv_of_nonneg ha]; rfl
theorem sum_bdS (A : Int → Int) : ∀ (l : List Int), (∀ x ∈ l, 0 ≤ A x ∧ A x ≤ 20000) → 0 ≤ (l.map A).sum ∧ (l.map A).sum ≤ 20000 * l.length
  | [], _ => by simp
  | x :: l, h => by
    obtain ⟨h1, h2⟩ := sum_bdS A l (fun y hy => h y (by simp [hy]))
    have := h x (by simp)
    rw [List.map_cons, List.sum_cons, List.length_cons]
    omega
/-- Where the next root begins. -/
def spB (A : Int → Int × Int × Int) (M : List Int) (beg : Int) : Nat → Int
  | 0 => beg
  | i + 1 => if 0 < i ∧ i + 1 < M.length then spB A M beg i + (A (gx M (i : Int))).2.1 else spB A M beg i
/-- By how much the root in a place moves. -/
def spS (A : Int → Int × Int × Int) (M : List Int) (beg free : Int) (i : Nat) : Int :=
  if 0 < i ∧ i + 1 < M.length then spB A M beg i + (i * free) / ((M.length : Int) - 1) - (A (gx M (i : Int))).1 else 0
theorem spB_bd {A : Int → Int × Int × Int} {M : List Int} (hA : ∀ k ∈ M, 1 ≤ (A k).2.1 ∧ (A k).2.1 ≤ 20000) {beg : Int} : ∀ i : Nat, i ≤ M.length → beg ≤ spB A M beg i ∧ spB A M beg i ≤ beg + 20000 * i
  | 0, _ => by simp [spB]
  | i + 1, hi => by
    obtain ⟨h1, h2⟩ := spB_bd hA (beg := beg) i (by omega)
    unfold spB
    split
    · have := hA _ (gx_mem (l := M) (k := (i : Int)) ⟨by omega, by omega⟩)
      omega
    · omega
/-- The numbers of a spread. -/
noncomputable def begM (d : Doc) (down : Bool) (M : List Int) : Int := (atF d down (gx M 0)).1 + (atF d down (gx M 0)).2.1
noncomputable def freeM (d : Doc) (down : Bool) (M : List Int) : Int := (atF d down (gx M ((M.length : Int) - 1))).1 - begM d down M - ((seg M 1 ((M.length : Int) - 1)).map (fun k => (atF d down k).2.1)).sum
noncomputable def spreadF (d : Doc) (down : Bool) (M : List Int) (k : Int) : Int × Int :=
  if down = true then (0, spS (atF d down) M (begM d down M) (freeM d down M) (M.idxOf k)) else (spS (atF d down) M (begM d down M) (freeM d down M) (M.idxOf k), 0)
theorem idxOf_nd {M : List Int} (hn : M.Nodup) {i : Nat} (hi : i < M.length) : M.idxOf M[i] = i := by
  have h1 : M.idxOf M[i] < M.length := List.idxOf_lt_length_of_mem (List.getElem_mem hi)
  have h2 : M[M.idxOf M[i]] = M[i] := List.getElem_idxOf h1
  exact nodup_idx hn (List.getElem?_eq_getElem h1 |>.trans (congrArg some h2)) (List.getElem?_eq_getElem hi)
theorem seg_mem {M : List Int} {a b : Int} {x : Int} (h : x ∈ seg M a b) : x ∈ M := by
  unfold seg at h
  first | exact List.mem_of_mem_take (List.mem_of_mem_drop h) | exact List.mem_of_mem_drop (List.mem_of_mem_take h)
theorem seg_lenM {M : List Int} (h : 1 ≤ M.length) : (seg M 1 ((M.length : Int) - 1)).length ≤ M.length := by
  unfold seg
  simp
  omega
theorem mul_bdS {i : Nat} {f : Int} (hi : i ≤ 500) (h1 : -20000000 ≤ f) (h2 : f ≤ 20000000) : -10000000000 ≤ (i : Int) * f ∧ (i : Int) * f ≤ 10000000000 := by
  have hn : f.natAbs ≤ 20000000 := by omega
  have := Nat.mul_le_mul hi hn
  have e : ((i : Int) * f).natAbs = i * f.natAbs := by rw [Int.natAbs_mul]; rfl
  omega
/-- The part of a whole is no more than it. -/
theorem part_bdS {i n : Nat} {f : Int} (hn : 1 ≤ n) (hi : i ≤ n) (h1 : -20000000 ≤ f) (h2 : f ≤ 20000000) : -20000000 ≤ ((i : Int) * f) / (n : Int) ∧ ((i : Int) * f) / (n : Int) ≤ 20000000 := by
  have hn' : (0 : Int) < n := by omega
  constructor
  · refine (Int.le_ediv_iff_mul_le hn').2 ?_
    have a := Int.mul_le_mul_of_nonneg_left h1 (show (0 : Int) ≤ i by omega)
    have b := Int.mul_le_mul_of_nonneg_right (show (i : Int) ≤ n by omega) (show (0 : Int) ≤ 20000000 by omega)
    omega
  · have a := Int.mul_le_mul_of_nonneg_left h2 (show (0 : Int) ≤ i by omega)
    have b := Int.mul_le_mul_of_nonneg_right (show (i : Int) ≤ n by omega) (show (0 : Int) ≤ 20000000 by omega)
    refine Int.ediv_le_of_le_mul hn' ?_
    omega
/-- Bounds of a spread's numbers. -/
theorem spread_bd {d : Doc} (h : Right d) (down : Bool) {M : List Int} (hA : ApartR d M) (h3 : 3 ≤ M.length) (hM : M.length ≤ 500) :
    (-1000000 ≤ begM d down M ∧ begM d down M ≤ 1020000) ∧ (-13000000 ≤ freeM d down M ∧ freeM d down M ≤ 3000000) ∧ (∀ k ∈ M, (-1000000 ≤ (atF d down k).1 ∧ (atF d down k).1 ≤ 1000000) ∧ (1 ≤ (atF d down k).2.1 ∧ (atF d down k).2.1 ≤ 20000)) ∧
      ∀ i : Nat, i < M.length → -40000000 ≤ spS (atF d down) M (begM d down M) (freeM d down M) i ∧ spS (atF d down) M (begM d down M) (freeM d down M) i ≤ 40000000 := by
  have hk : ∀ k ∈ M, (-1000000 ≤ (atF d down k).1 ∧ (atF d down k).1 ≤ 1000000) ∧ (1 ≤ (atF d down k).2.1 ∧ (atF d down k).2.1 ≤ 20000) := fun k hk => by
    obtain ⟨j, hj, rfl⟩ := hA.isIn k hk
    have := atF_bd h (down := down) hj
    exact ⟨this.1, this.2.1⟩
  have a0 := hk _ (gx_mem (l := M) (k := 0) ⟨by omega, by omega⟩)
  have aN := hk _ (gx_mem (l := M) (k := (M.length : Int) - 1) ⟨by omega, by omega⟩)
  have hs := sum_bdS (fun k => (atF d down k).2.1) (seg M 1 ((M.length : Int) - 1)) (fun x hx => by have := (hk x (seg_mem hx)).2; omega)
  have hsl := seg_lenM (M := M) (by omega)
  have hb : -1000000 ≤ begM d down M ∧ begM d down M ≤ 1020000 := by unfold begM; omega
  have hf : -13000000 ≤ freeM d down M ∧ freeM d down M ≤ 3000000 := by unfold freeM; omega
  refine ⟨hb, hf, hk, fun i hi => ?_⟩
  unfold spS
  split
  · have hB := spB_bd (A := atF d down) (M := M) (fun k hk' => (hk k hk').2) (beg := begM d down M) i (by omega)
    have hq := part_bdS (i := i) (n := M.length - 1) (f := freeM d down M) (by omega) (by omega) (by omega) (by omega)
    rw [show ((M.length - 1 : Nat) : Int) = (M.length : Int) - 1 by omega] at hq
    have hg := hk _ (gx_mem (l := M) (k := (i : Int)) ⟨by omega, by omega⟩)
    omega
  · omega
theorem ApartR.perm {d : Doc} {R M : List Int} (h : ApartR d R) (hp : M.Perm R) : ApartR d M :=
  ⟨fun k hk => h.isIn k (hp.mem_iff.1 hk), hp.nodup_iff.2 h.nodup, fun a ha b hb => h.one a (hp.mem_iff.1 ha) b (hp.mem_iff.1 hb)⟩
theorem ByR.perm {d : Doc} {R M : List Int} {f : Int → Int × Int} {m : GMap Str Point} (hp : M.Perm R) (h : ByR d M f m) : ByR d R f m := fun id p => by
  rw [h id p]
  exact ⟨fun ⟨k, hk, e⟩ => ⟨k, hp.mem_iff.1 hk, e⟩, fun ⟨k, hk, e⟩ => ⟨k, hp.mem_iff.2 hk, e⟩⟩
theorem Clone_int_eqM {l : List Int} (h : l.length ≤ 1073741824) : slices_Clone_int l = some l := by
  unfold slices_Clone_int
  rw [need_of (by simpa [room_iff] using h), bnd_eq, List.nil_append]
  exact nilc_eq fun e => by rw [e]
theorem getD_set {m : GMap Int Int} {k x v : Int} : (m.set k v).getD x 0 = if x = k then v else m.getD x 0 := by
  unfold GMap.getD
  have : (m.set k v).f x = if x = k then some v else m.f x := rfl
  rw [this]
  by_cases h : x = k <;> simp [h]
/-- What the program makes of a spread. -/
theorem Spread_eq {d : Doc} (hck : page_Check d = some 0) (h : Right d) {ids : List Str} (hi : (ids.length : Int) ≤ 9223372036854775807) (hs : selErr d.Nodes ids = 0) (down : Bool) (h3 : 3 ≤ (rootL d.Nodes ids).length)
    {M : List Int} (hp : M.Perm (rootL d.Nodes ids)) (hm : slices_SortStableFunc_int (rootL d.Nodes ids) (fun x0 x1 => page_Spread_2 x0 x1 (fun x0 => page_Spread_1 x0 (some (viewD d)) down)) = some M) :
    page_Spread d ids down = Option.bind (page_view_moved (viewD d) (stepsR (rootL d.Nodes ids) (spreadF d down M))) fun r => some (r.1, r.2) := by
  have hA := rootL_apart h ids
  have hAM := hA.perm hp
  have hRl := rootL_len (l := d.Nodes) (ids := ids) h.nl
  have hMl := hp.length_eq
  obtain ⟨b1, b2, b3, b4⟩ := spread_bd h down hAM (by omega) (by omega)
  generalize hR : rootL d.Nodes ids = R at *
  unfold page_Spread
  rw [bnd_eq, selected_eq hck h hi, if_pos hs, Option.bind_some, hR]
  simp only [decide_true, Bool.not_true, cond_false, bnd_eq]
  rw [decide_eq_false (show ¬ (R.length : Int) < 3 by omega), cond_false, Clone_int_eqM (by omega), Option.bind_some, hm, Option.bind_some]
  have hat : ∀ k : Int, inR M k → page_Spread_1 (gx M k) (some (viewD d)) down = some (atF d down (gx M k)) := fun k hk => by
    obtain ⟨j, hj, e⟩ := hAM.isIn _ (gx_mem hk)
    rw [e]; exact Spread1_eq h down hj
  have r0 : inR M 0 := ⟨by omega, by omega⟩
  have rN : inR M ((M.length : Int) - 1) := ⟨by omega, by omega⟩
  rw [need_of r0, hat 0 r0, Option.bind_some, Wk (n := (R.length : Int) - 1) (by omega) (by omega), ← hMl, need_of rN, hat _ rN, Option.bind_some]
  have a0 := b3 _ (gx_mem r0)
  have aN := b3 _ (gx_mem rN)
  rw [Wk (n := (atF d down (gx M 0)).1 + (atF d down (gx M 0)).2.1) (by omega) (by omega)]
  have hbeg : (atF d down (gx M 0)).1 + (atF d down (gx M 0)).2.1 = begM d down M := rfl
  rw [hbeg, Wk (n := (atF d down (gx M ((M.length : Int) - 1))).1 - begM d down M) (by omega) (by omega), need_of ⟨by omega, by omega, by omega⟩]
  generalize hV : seg M 1 ((M.length : Int) - 1) = V at *
  have hVm : ∀ x ∈ V, x ∈ M := fun x hx => seg_mem (by rw [hV]; exact hx)
  have hVl : V.length ≤ M.length := by rw [← hV]; exact seg_lenM (by omega)
  -- what is free
  obtain ⟨fr, f1, f2⟩ := rfor_inv (n := (V.length : Int)) (step := page_Spread_L1 (some (viewD d), R, 0) V down) (s0 := (atF d down (gx M ((M.length : Int) - 1))).1 - begM d down M)
    (fun k s => s = (atF d down (gx M ((M.length : Int) - 1))).1 - begM d down M - ((V.take k).map (fun x => (atF d down x).2.1)).sum) (by omega) (by simp) (fun k s hk hI => by
    have hk' : k < V.length := by omega
    have hin := hVm _ (List.getElem_mem hk')
    obtain ⟨j, hj, e⟩ := hAM.isIn _ hin
    have hsum := sum_bdS (fun x => (atF d down x).2.1) (V.take k) (fun x hx => by have := (b3 x (hVm x (List.mem_of_mem_take hx))).2; omega)
    rw [List.length_take] at hsum
    have hx := b3 _ hin
    unfold page_Spread_L1
    simp only
    rw [need_of ⟨by omega, by omega⟩, gx_nat hk', e, Spread1_eq h down hj, Option.bind_some, bnd_eq, ← e, Wk (by omega) (by omega)]
    refine ⟨_, rfl, ?_⟩
    rw [List.take_succ_eq_append_getElem hk', List.map_append, List.sum_append]
    simp only [List.map_cons, List.map_nil, List.sum_cons, List.sum_nil]
    omega)
  have hfree : fr = freeM d down M := by
    rw [f2, show (V.length : Int).toNat = V.length by omega, List.take_length]
    unfold freeM; rw [hV]
  rw [f1, Option.bind_some, hfree]
  -- where to
  obtain ⟨st, g1, g2, g3⟩ := rfor_inv (n := (M.length : Int)) (step := page_Spread_L2 (M.length : Int) (some (viewD d), R, 0) M (freeM d down M) down) (s0 := (begM d down M, (GMap.nil : GMap Int Int)))
    (fun k s => s.1 = spB (atF d down) M (begM d down M) k ∧ ∀ j : Nat, (hj : j < M.length) → s.2.getD M[j] 0 = if j < k then spS (atF d down) M (begM d down M) (freeM d down M) j else 0) (by omega) ⟨rfl, fun j hj => rfl⟩ (fun k s hk hI => by
    obtain ⟨i1, i2⟩ := hI
    have hk' : k < M.length := by omega
    have hx := b3 _ (List.getElem_mem hk')
    have hB := spB_bd (A := atF d down) (M := M) (fun k hk' => (b3 k hk').2) (beg := begM d down M) k (by omega)
    unfold page_Spread_L2
    rw [need_of ⟨by omega, by omega⟩, bnd_eq, gx_nat hk']
    have := hat (k : Int) ⟨by omega, by omega⟩
    rw [gx_nat hk'] at this
    simp only
    rw [this, Option.bind_some, Wk (n := (M.length : Int) - 1) (by omega) (by omega)]
    have hS : spS (atF d down) M (begM d down M) (freeM d down M) k = if 0 < k ∧ k + 1 < M.length then spB (atF d down) M (begM d down M) k + (k * freeM d down M) / ((M.length : Int) - 1) - (atF d down M[k]).1 else 0 := by unfold spS; rw [gx_nat hk']
    have hB1 : spB (atF d down) M (begM d down M) (k + 1) = if 0 < k ∧ k + 1 < M.length then spB (atF d down) M (begM d down M) k + (atF d down M[k]).2.1 else spB (atF d down) M (begM d down M) k := by rw [spB, gx_nat hk']
    by_cases c : 0 < k ∧ k + 1 < M.length
    · have hq := part_bdS (i := k) (n := M.length - 1) (f := freeM d down M) (by omega) (by omega) (by omega) (by omega)
      rw [show ((M.length - 1 : Nat) : Int) = (M.length : Int) - 1 by omega] at hq
      have hmul := mul_bdS (i := k) (f := freeM d down M) (by omega) (by omega) (by omega)
      rw [decide_eq_true (show (0 : Int) < (k : Int) by omega), decide_eq_true (show (k : Int) < (M.length : Int) - 1 by omega)]
      simp only [Bool.and_self, cond_true]
      rw [Wk (n := (k : Int) * freeM d down M) (by omega) (by omega), Floor_eqM (by omega) (by omega) (by omega), Option.bind_some, i1]
      rw [Wk (n := spB (atF d down) M (begM d down M) k + (k : Int) * freeM d down M / ((M.length : Int) - 1)) (by omega) (by omega), Wk (n := spB (atF d down) M (begM d down M) k + (k : Int) * freeM d down M / ((M.length : Int) - 1) - (atF d down M[k]).1) (by omega) (by omega), Wk (n := spB (atF d down) M (begM d down M) k + (atF d down M[k]).2.1) (by omega) (by omega)]
      refine ⟨_, rfl, by rw [hB1, if_pos c], fun j hj => ?_⟩
      simp only
      rw [getD_set, i2 j hj]
      by_cases e : j = k
      · subst e
        rw [if_pos rfl, if_pos (by omega), hS, if_pos c]
      · rw [if_neg (fun hc => e (nodup_idx hAM.nodup ((List.getElem?_eq_getElem hj).trans (congrArg some hc)) (List.getElem?_eq_getElem hk')))]
        by_cases c2 : j < k
        · rw [if_pos c2, if_pos (by omega)]
        · rw [if_neg c2, if_neg (by omega)]
    · have e : ((decide ((0 : Int) < (k : Int))) && (decide ((k : Int) < (M.length : Int) - 1))) = false := by
        rw [Bool.and_eq_false_iff, decide_eq_false_iff_not, decide_eq_false_iff_not]; omega
      rw [e, cond_false]
      refine ⟨_, rfl, by rw [hB1, if_neg c]; exact i1, fun j hj => ?_⟩
      rw [i2 j hj]
      by_cases e : j = k
      · subst e
        rw [if_neg (by omega), if_pos (by omega), hS, if_neg c]
      · by_cases c2 : j < k
        · rw [if_pos c2, if_pos (by omega)]
        · rw [if_neg c2, if_neg (by omega)])
  rw [g1, Option.bind_some]
  have hto : ∀ k ∈ R, st.2.getD k 0 = spS (atF d down) M (begM d down M) (freeM d down M) (M.idxOf k) := fun k hk => by
    obtain ⟨i, hi', rfl⟩ := List.mem_iff_getElem.1 (hp.mem_iff.2 hk)
    rw [g3 i hi', if_pos (by omega), idxOf_nd hAM.nodup hi']
  rw [hMl, rfor_gather (l := R) (fun k => [(⟨[k], (spreadF d down M k).1, (spreadF d down M k).2⟩ : Page_step)]) [] (fun a _ => by simp) (by simp; omega) (fun i s hk hs' => by
    unfold page_Spread_L3
    have hin := gx_mem hk
    simp only [need_of hk, bnd_eq]
    rw [hto _ hin]
    unfold spreadF
    have hroom : room (s.length + 1) := by show _ ≤ _; omega
    cases down with
    | true => simp [need_of hroom]
    | false => simp [need_of hroom])]
  rw [← List.map_eq_flatMap, List.nil_append, Option.bind_some, Option.bind_some]
  rfl
/-- What a spread comes to in the program. -/
theorem Spread_prog {d : Doc} (hf : fits d) (hck : page_Check d = some 0) (h : Right d) {ids : List Str} (hi : (ids.length : Int) ≤ 9223372036854775807) (hs : selErr d.Nodes ids = 0) (down : Bool) :
    ∃ r : Doc × Int, page_Spread d ids down = some r ∧ (r.2 ≠ 0 → r.1 = ⟨[], []⟩) ∧
      (r.2 = 0 → ∃ M, 3 ≤ (rootL d.Nodes ids).length ∧ M.Perm (rootL d.Nodes ids) ∧ srt (ltS d down) M ∧ r.1 = docM d (rootL d.Nodes ids) (spreadF d down M) ∧ Right r.1 ∧ page_Check r.1 = some 0) := by
  have hA := rootL_apart h ids
  have hRl := rootL_len (l := d.Nodes) (ids := ids) h.nl
  by_cases h3 : 3 ≤ (rootL d.Nodes ids).length
  · obtain ⟨M, m1, m2⟩ := Stbint.stable_eq (swoS h down hA) (D := rootL d.Nodes ids) (fun x hx => hx) (by omega)
    obtain ⟨r, r1, r2, r3, _⟩ := by_prog hf h hA (by omega) (spreadF d down M)
    rw [Spread_eq hck h hi hs down h3 m1.perm m2, r1, Option.bind_some]
    exact ⟨r, rfl, r3, fun e => ⟨M, h3, m1.perm, m1.srtd, by rw [(r2 e).1]; exact ⟨rfl, (r2 e).2.1, (r2 e).2.2⟩⟩⟩
  · refine ⟨(⟨[], []⟩, 9), ?_, fun _ => rfl, fun e => by cases e⟩
    unfold page_Spread
    rw [bnd_eq, selected_eq hck h hi, if_pos hs, Option.bind_some]
    simp only [decide_true, Bool.not_true, cond_false, bnd_eq]
    rw [decide_eq_true (show ((rootL d.Nodes ids).length : Int) < 3 by omega)]; rfl
end Go.DB
