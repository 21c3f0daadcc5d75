/-
  Numbers of stretches: the code and the reference agree, and there are no fewer than as many as overlap.
-/
import Derived.Test.YtegjicmejjfgfaaLanPuSortInt
import Derived.Test.YtegjicmejjfgfaaLanPuTask
set_option linter.unusedSimpArgs false
set_option linter.unusedVariables false
namespace Go.DB
open Go Go.RowKit

theorem nodup_sub {α : Type} [DecidableEq α] : ∀ (l m : List α), l.Nodup → (∀ x ∈ l, x ∈ m) → l.length ≤ m.length
  | [], m, _, _ => by simp
  | x :: l, m, hn, hs => by
    have hx := hs x (by simp)
    have hn' := List.nodup_cons.1 hn
    have := nodup_sub l (m.erase x) hn'.2 (fun y hy => by
      have hne : y ≠ x := fun e => hn'.1 (e ▸ hy)
      rw [List.mem_erase_of_ne hne]; exact hs y (by simp [hy]))
    rw [List.length_erase_of_mem hx] at this
    have := List.length_pos_of_mem hx
    simp; omega

def okL (x : Lane) : Prop := -1000000 ≤ x.From ∧ x.From ≤ 1000000 ∧ -1000000 ≤ x.To ∧ x.To ≤ 1000000 ∧ x.From < x.To
instance (x : Lane) : Decidable (okL x) := by unfold okL; infer_instance
def laneErr (x : Lane) : Int := if -1000000 ≤ x.From ∧ x.From ≤ 1000000 ∧ -1000000 ≤ x.To ∧ x.To ≤ 1000000 then (if x.From < x.To then 0 else 7) else 3
theorem laneErr_zero {x : Lane} : laneErr x = 0 ↔ okL x := by
  unfold laneErr okL
  by_cases h : -1000000 ≤ x.From ∧ x.From ≤ 1000000 ∧ -1000000 ≤ x.To ∧ x.To ≤ 1000000
  · rw [if_pos h]
    by_cases h2 : x.From < x.To
    · rw [if_pos h2]; simp; omega
    · rw [if_neg h2]; simp; omega
  · rw [if_neg h]; simp; omega

def ids (n : Nat) : List Int := (List.range n).map (fun i : Nat => (i : Int))
theorem ids_mem {n : Nat} {k : Int} : k ∈ ids n ↔ 0 ≤ k ∧ k < n := by
  unfold ids
  simp only [List.mem_map, List.mem_range]
  constructor
  · rintro ⟨i, hi, rfl⟩; omega
  · rintro ⟨h0, h1⟩; exact ⟨k.toNat, by omega, by omega⟩
theorem ids_lt (n : Nat) : (ids n).Pairwise (fun a b => a < b) := by
  unfold ids
  rw [List.pairwise_map]
  exact (List.pairwise_lt_range).imp (fun h => by omega)
theorem ids_nodup (n : Nat) : (ids n).Nodup := (ids_lt n).imp (fun h => by omega)
theorem ids_len (n : Nat) : (ids n).length = n := by simp [ids]
theorem ids_succ (n : Nat) : ids (n + 1) = ids n ++ [(n : Int)] := by simp [ids, List.range_succ]

section
variable {l : List Lane}
abbrev fr (l : List Lane) (k : Int) : Int := (gx l k).From
abbrev to (l : List Lane) (k : Int) : Int := (gx l k).To
def ltF (l : List Lane) (a b : Int) : Bool := decide (fr l a < fr l b)

theorem swo1 (hl : ∀ x ∈ l, okL x) : Swo (fun k => inR l k) (ltF l) (fun x0 x1 => route_Lanes_2 x0 x1 l) where
  cmp x y hx hy := by
    unfold route_Lanes_2 cmp_Compare_int cmp_isNaN_int ltF
    rw [need_of hx, need_of hy]
    simp only [bind_sm, decide_true, Bool.not_true, cond_false]
    by_cases h : fr l x < fr l y
    · have e : decide ((gx l x).From < (gx l y).From) = true := by simpa using h
      exact ⟨-1, by simp [e], by simp [e]⟩
    · have e : decide ((gx l x).From < (gx l y).From) = false := by simpa using h
      by_cases h2 : fr l y < fr l x
      · have e2 : decide ((gx l y).From < (gx l x).From) = true := by simpa using h2
        exact ⟨1, by simp [e, e2], by simp [e]⟩
      · have e2 : decide ((gx l y).From < (gx l x).From) = false := by simpa using h2
        exact ⟨0, by simp [e, e2], by simp [e]⟩
  asym x y _ _ h := by unfold ltF at *; simp at *; omega
  ntr x y z _ _ _ h1 h2 := by unfold ltF at *; simp at *; omega
theorem swo2 (hl : ∀ x ∈ l, okL x) : Swo (fun k => inR l k) (ltF l) (fun x0 x1 => ref_LanesOf_1 x0 x1 l) where
  cmp x y hx hy := by
    unfold ref_LanesOf_1 ltF
    have h1 := hl _ (gx_mem hx)
    have h2 := hl _ (gx_mem hy)
    unfold okL at h1 h2
    rw [need_of hx, need_of hy, Wk (by omega) (by omega)]
    refine ⟨_, rfl, ?_⟩
    rw [decide_eq_decide]
    show _ ↔ (gx l x).From < (gx l y).From
    omega
  asym x y _ _ h := by unfold ltF at *; simp at *; omega
  ntr x y z _ _ _ h1 h2 := by unfold ltF at *; simp at *; omega

/-- Both sort alike. -/
theorem sorts_eq (hn : l.length ≤ 1000) (hl : ∀ x ∈ l, okL x) : ∃ r, slices_SortStableFunc_int (ids l.length) (fun x0 x1 => route_Lanes_2 x0 x1 l) = some r ∧ slices_SortStableFunc_int (ids l.length) (fun x0 x1 => ref_LanesOf_1 x0 x1 l) = some r ∧
    r.Perm (ids l.length) ∧ r.Pairwise (fun a b => fr l a ≤ fr l b) := by
  have hS : ∀ x ∈ ids l.length, inR l x := fun x hx => by rw [ids_mem] at hx; exact hx
  obtain ⟨r1, a1, a2⟩ := Stbint.stable_eq (swo1 hl) hS (by rw [ids_len]; omega)
  obtain ⟨r2, b1, b2⟩ := Stbint.stable_eq (swo2 hl) hS (by rw [ids_len]; omega)
  have : r1 = r2 := Sd.one (fun a b => a < b) (fun x y h => by omega) ((ids_lt _).imp (fun h => .inl h)) a1 b1
  subst this
  refine ⟨r1, a2, b2, a1.perm, ?_⟩
  have := a1.srtd
  unfold srt ltF at this
  exact this.imp (fun h => by simpa using h)

/-- What holds when the stretches of Pr have numbers. -/
structure Nb (l : List Lane) (Pr : List Int) (last out : List Int) : Prop where
  len : out.length = l.length
  rng : ∀ j ∈ Pr, 0 ≤ gx out j ∧ gx out j < last.length
  top : ∀ m : Nat, m < last.length → (∃ j ∈ Pr, gx out j = m ∧ to l j = gx last (m : Int)) ∧ ∀ j ∈ Pr, gx out j = m → to l j ≤ gx last (m : Int)
  dis : Pr.Pairwise (fun a b => gx out a = gx out b → to l a ≤ fr l b)
  deep : last.length = 0 ∨ ∃ v ∈ Pr, last.length ≤ Pr.countP (fun j => decide (fr l j ≤ fr l v) && decide (fr l v < to l j))

/-- The number that a stretch gets. -/
def isNum (l : List Lane) (Pr out : List Int) (v : Int) (k : Nat) : Prop := (∀ j ∈ Pr, gx out j = k → to l j ≤ fr l v) ∧ ∀ m, m < k → ∃ j ∈ Pr, gx out j = m ∧ fr l v < to l j
theorem isNum_one {Pr out : List Int} {v : Int} {a b : Nat} (ha : isNum l Pr out v a) (hb : isNum l Pr out v b) : a = b := by
  rcases Nat.lt_trichotomy a b with h | h | h
  · obtain ⟨j, h1, h2, h3⟩ := hb.2 a h
    have := ha.1 j h1 h2; omega
  · exact h
  · obtain ⟨j, h1, h2, h3⟩ := ha.2 b h
    have := hb.1 j h1 h2; omega

theorem gx_setI {out : List Int} {v j k : Int} (hv : inR out v) (hj : 0 ≤ j) : gx (out.set v.toNat k) j = if j = v then k else gx out j := by
  obtain ⟨h0, h1⟩ := hv
  unfold gx
  rw [List.getElem?_set]
  by_cases h : j = v
  · subst h
    have : j.toNat < out.length := by omega
    simp [this]
  · have : ¬ v.toNat = j.toNat := by omega
    simp [this, h]

/-- One more stretch gets its number. -/
theorem Nb.step (hl : ∀ x ∈ l, okL x) {Pr last out last' : List Int} {v : Int} {k : Nat} (h : Nb l Pr last out) (hPr : ∀ j ∈ Pr, inR l j) (hv : inR l v) (hvn : v ∉ Pr) (hfr : ∀ j ∈ Pr, fr l j ≤ fr l v) (hk : isNum l Pr out v k) (hkl : k ≤ last.length)
    (e1 : last'.length = max last.length (k + 1)) (e2 : gx last' (k : Int) = to l v) (e3 : ∀ m : Nat, m < last.length → m ≠ k → gx last' (m : Int) = gx last (m : Int)) : Nb l (Pr ++ [v]) last' (out.set v.toNat (k : Int)) := by
  have hvo : inR out v := ⟨hv.1, by rw [h.len]; exact hv.2⟩
  have hg : ∀ j ∈ Pr, gx (out.set v.toNat (k : Int)) j = gx out j := fun j hj => by
    rw [gx_setI hvo (hPr j hj).1, if_neg (fun (e : j = v) => hvn (by rw [← e]; exact hj))]
  have hgv : gx (out.set v.toNat (k : Int)) v = k := by rw [gx_setI hvo hv.1, if_pos rfl]
  have hvl := hl _ (gx_mem hv)
  unfold okL at hvl
  refine ⟨by rw [List.length_set]; exact h.len, fun j hj => ?_, fun m hm => ?_, ?_, ?_⟩
  · rcases List.mem_append.1 hj with hj | hj
    · rw [hg j hj]
      have := h.rng j hj; omega
    · simp at hj; subst hj
      rw [hgv]; omega
  · by_cases c : m = k
    · subst c
      rw [e2]
      refine ⟨⟨v, by simp, hgv, rfl⟩, fun j hj hjm => ?_⟩
      rcases List.mem_append.1 hj with hj | hj
      · rw [hg j hj] at hjm
        have := hk.1 j hj hjm
        have : fr l v < to l v := hvl.2.2.2.2
        omega
      · simp at hj; rw [hj]; exact Int.le_refl _
    · have hm' : m < last.length := by omega
      obtain ⟨⟨j, j1, j2, j3⟩, j4⟩ := h.top m hm'
      rw [e3 m hm' c]
      refine ⟨⟨j, by simp [j1], by rw [hg j j1]; exact j2, j3⟩, fun j hj hjm => ?_⟩
      rcases List.mem_append.1 hj with hj | hj
      · rw [hg j hj] at hjm; exact j4 j hj hjm
      · simp at hj; subst hj
        rw [hgv] at hjm; omega
  · rw [List.pairwise_append]
    refine ⟨?_, by simp, fun a ha b hb he => ?_⟩
    · refine List.Pairwise.imp_of_mem ?_ h.dis
      intro a b ha hb hab he
      rw [hg a ha, hg b hb] at he; exact hab he
    · simp at hb; subst hb
      rw [hg a ha, hgv] at he
      exact hk.1 a ha he
  · right
    by_cases c : k < last.length
    · rcases h.deep with hd | ⟨u, hu, hd⟩
      · omega
      · refine ⟨u, by simp [hu], ?_⟩
        rw [List.countP_append, e1]; omega
    · have hkL : k = last.length := by omega
      refine ⟨v, by simp, ?_⟩
      rw [List.countP_append, e1]
      have hone : List.countP (fun j => decide (fr l j ≤ fr l v) && decide (fr l v < to l j)) [v] = 1 := by
        have : fr l v < to l v := hvl.2.2.2.2
        simp [List.countP_cons, this]
      rw [hone]
      -- each number below has a stretch that overlaps
      have hsub := nodup_sub (ids k) ((Pr.filter (fun j => decide (fr l j ≤ fr l v) && decide (fr l v < to l j))).map (gx out)) (ids_nodup k) (fun x hx => by
        rw [ids_mem] at hx
        obtain ⟨j, j1, j2, j3⟩ := hk.2 x.toNat (by omega)
        refine List.mem_map.2 ⟨j, List.mem_filter.2 ⟨j1, ?_⟩, by omega⟩
        have := hfr j j1
        simp [this, j3])
      rw [ids_len, List.length_map, ← List.countP_eq_length_filter] at hsub
      omega

/-! The code's round, and the reference's. -/

/-- The number that the code finds. -/
theorem code_num (hn : l.length ≤ 1000) {Pr last out : List Int} {v : Int} (h : Nb l Pr last out) (hv : inR l v) (hll : last.length ≤ 1000) : ∃ k : Nat, k ≤ last.length ∧ isNum l Pr out v k ∧
    slices_IndexFunc_int last (fun x0 => route_Lanes_3 x0 l v) = some (if k < last.length then (k : Int) else -1) := by
  rw [IndexFunc_int_eq last _ (fun t => decide (t ≤ fr l v)) (by omega) (fun x hx => by unfold route_Lanes_3; rw [need_of hv])]
  cases hf : last.findIdx? (fun t => decide (t ≤ fr l v)) with
  | none =>
    rw [List.findIdx?_eq_none_iff] at hf
    refine ⟨last.length, Nat.le_refl _, ⟨fun j hj e => ?_, fun m hm => ?_⟩, by simp⟩
    · have := h.rng j hj; omega
    · obtain ⟨⟨j, j1, j2, j3⟩, _⟩ := h.top m hm
      have := hf last[m] (List.getElem_mem hm)
      refine ⟨j, j1, j2, ?_⟩
      rw [gx_nat hm] at j3
      simp at this; omega
  | some k =>
    obtain ⟨hk, hp, hb⟩ := List.findIdx?_eq_some_iff_getElem.1 hf
    refine ⟨k, by omega, ⟨fun j hj e => ?_, fun m hm => ?_⟩, by simp [hk]⟩
    · have := (h.top k hk).2 j hj e
      rw [gx_nat hk] at this
      simp at hp; omega
    · obtain ⟨⟨j, j1, j2, j3⟩, _⟩ := h.top m (by omega)
      have := hb m hm
      refine ⟨j, j1, j2, ?_⟩
      rw [gx_nat (by omega)] at j3
      simp at this; omega

/-- The number that the reference finds. -/
theorem ref_num (hn : l.length ≤ 1000) (hl : ∀ x ∈ l, okL x) {r out : List Int} {i : Nat} {v : Int} (hi : i ≤ r.length) (hr : r.length ≤ 1000) (hout : out.length = l.length) (hPr : ∀ j ∈ r.take i, inR l j) (hv : inR l v) (hfr : ∀ j ∈ r.take i, fr l j ≤ fr l v) {k : Nat} (hk : isNum l (r.take i) out v k) (hk1 : k ≤ 1000) :
    loop (ref_LanesOf_L3 l r v ((i : Int), out)) 0 = some (out.set v.toNat (k : Int)) := by
  have hsg : seg r 0 (i : Int) = r.take i := by unfold seg; simp
  have hvl := hl _ (gx_mem hv)
  unfold okL at hvl
  have hvo : inR out v := ⟨hv.1, by rw [hout]; exact hv.2⟩
  have body : ∀ m : Nat, m ≤ 1000 → ref_LanesOf_L3 l r v ((i : Int), out) (m : Int) = some (if (r.take i).any (fun j => decide (gx out j = m) && decide (fr l v < to l j)) = true then .again ((m : Int) + 1) else .done (out.set v.toNat (m : Int))) := fun m hm => by
    unfold ref_LanesOf_L3
    simp only
    rw [need_of (by rw [segR_iff]; omega), hsg, ContainsFunc_int_eq (r.take i) _ (fun j => decide (gx out j = m) && decide (fr l v < to l j)) (by simp; omega) (fun j hj => by
      have hj1 := hPr j hj
      have hjo : inR out j := ⟨hj1.1, by rw [hout]; exact hj1.2⟩
      unfold ref_LanesOf_2
      rw [need_of hjo, need_of (fun _ => hj1), need_of (fun _ => hv), need_of (fun _ => hv), need_of (fun _ => hj1)]
      have h2 := hfr j hj
      have : decide ((gx l j).From < (gx l v).To) = true := by rw [decide_eq_true_eq]; show fr l j < to l v; have : fr l v < to l v := hvl.2.2.2.2; omega
      rw [this, Bool.and_true])]
    simp only [bind_sm]
    cases hb : (r.take i).any (fun j => decide (gx out j = m) && decide (fr l v < to l j)) with
    | true =>
      simp only [Bool.not_true, cond_false, bnd_eq, if_true]
      rw [Wk (by omega) (by omega)]
    | false =>
      simp only [Bool.not_false, cond_true, bnd_eq]
      rw [need_of hvo]; simp
  obtain ⟨e, h1, h2⟩ := loop_nat (body := ref_LanesOf_L3 l r v ((i : Int), out)) (fun m => (m : Int)) (fun e => e = out.set v.toNat (k : Int)) 0 k (by omega) (fun m _ hm => by
    left
    obtain ⟨j, j1, j2, j3⟩ := hk.2 m hm
    rw [body m (by omega)]
    have : (r.take i).any (fun j => decide (gx out j = m) && decide (fr l v < to l j)) = true := List.any_eq_true.2 ⟨j, j1, by simp [j2, j3]⟩
    rw [if_pos this]; simp) ⟨_, by
      rw [body k hk1]
      have : (r.take i).any (fun j => decide (gx out j = k) && decide (fr l v < to l j)) = false := by
        rw [List.any_eq_false]
        intro j hj
        simp only [Bool.and_eq_true, decide_eq_true_eq, not_and]
        intro e
        have := hk.1 j hj e; omega
      rw [this]; simp, rfl⟩
  have e0 : ((0 : Nat) : Int) = 0 := rfl
  rw [e0] at h1
  rw [h1, h2]

/-- All stretches get numbers, by the code and by the reference alike. -/
theorem rounds_eq (hn : l.length ≤ 1000) (hl : ∀ x ∈ l, okL x) {r : List Int} (hr : r.Perm (ids l.length)) (hs : r.Pairwise (fun a b => fr l a ≤ fr l b)) :
    ∃ last out, rfor (r.length : Int) (route_Lanes_L2 l r) (([] : List Int), List.replicate l.length (0 : Int)) = some (last, out) ∧ rfor (r.length : Int) (ref_LanesOf_L2 l r) (List.replicate l.length (0 : Int)) = some out ∧ Nb l r last out := by
  have hrl : r.length = l.length := by rw [hr.length_eq, ids_len]
  have hrn : r.Nodup := hr.nodup_iff.2 (ids_nodup _)
  have hri : ∀ j ∈ r, inR l j := fun j hj => by have := hr.mem_iff.1 hj; rw [ids_mem] at this; exact this
  obtain ⟨s, t, h1, h2, h3, h4⟩ := rfor_inv2 (n := (r.length : Int)) (step := route_Lanes_L2 l r) (step' := ref_LanesOf_L2 l r) (s0 := (([] : List Int), List.replicate l.length (0 : Int))) (t0 := List.replicate l.length (0 : Int))
    (fun i s t => s.2 = t ∧ Nb l (r.take i) s.1 s.2 ∧ s.1.length ≤ i) (by omega) ⟨rfl, ⟨by simp, by simp, fun m hm => by simp at hm, by simp, .inl rfl⟩, by simp⟩ (fun i s t hi hI => by
    obtain ⟨last, out⟩ := s
    obtain ⟨rfl, hN, hll⟩ := hI
    simp only at hN hll ⊢
    have hi' : i < r.length := by omega
    have hin : inR r (i : Int) := ⟨by omega, hi⟩
    have hte : r.take (i + 1) = r.take i ++ [r[i]] := by rw [List.take_add_one, List.getElem?_eq_getElem hi']; rfl
    have hgi : gx r (i : Int) = r[i] := gx_nat hi'
    have hv : inR l r[i] := hri _ (List.getElem_mem hi')
    have hPr : ∀ j ∈ r.take i, inR l j := fun j hj => hri j (List.mem_of_mem_take hj)
    have hvn : r[i] ∉ r.take i := fun hm => by
      obtain ⟨j, hj, e⟩ := List.mem_iff_getElem.1 hm
      rw [List.getElem_take] at e
      rw [List.length_take] at hj
      unfold List.Nodup at hrn
      rw [List.pairwise_iff_getElem] at hrn
      exact hrn j i (by omega) hi' (by omega) e
    have hfr : ∀ j ∈ r.take i, fr l j ≤ fr l r[i] := fun j hm => by
      obtain ⟨q, hq, e⟩ := List.mem_iff_getElem.1 hm
      rw [List.getElem_take] at e
      rw [List.length_take] at hq
      rw [List.pairwise_iff_getElem] at hs
      rw [← e]
      exact hs q i (by omega) hi' (by omega)
    obtain ⟨k, k1, k2, k3⟩ := code_num hn hN hv (by omega)
    have hvo : inR out r[i] := ⟨hv.1, by have := hN.len; have := hv.2; omega⟩
    obtain ⟨last', l1, l2, l3, l4⟩ : ∃ last' : List Int, (Option.bind (α := (List Int × Int)) (bif decide ((if k < last.length then (k : Int) else -1) < 0) then (bnd ((last.length : Int)) fun k2 => need (room (last.length + [0].length)) <| some (last ++ [0], k2)) else some (last, (if k < last.length then (k : Int) else -1))) fun j_27 =>
        need (inR l r[i]) <| bnd ((gx l r[i]).To) fun v5 => need (inR j_27.1 j_27.2) <| bnd (j_27.1.set j_27.2.toNat v5) fun last1 => need (inR out r[i]) <| some (last1, out.set (r[i]).toNat j_27.2)) = some (last', out.set (r[i]).toNat (k : Int)) ∧
        last'.length = max last.length (k + 1) ∧ gx last' (k : Int) = to l r[i] ∧ ∀ m : Nat, m < last.length → m ≠ k → gx last' (m : Int) = gx last (m : Int) := by
      by_cases c : k < last.length
      · simp only [if_pos c]
        have e1 : decide ((k : Int) < 0) = false := by simp
        have hkin : inR last (k : Int) := ⟨by omega, by omega⟩
        simp only [e1, cond_false, bind_sm]
        rw [need_of hv]
        simp only [bnd_eq]
        rw [need_of hkin, need_of hvo]
        refine ⟨_, rfl, by simp; omega, ?_, fun m hm hne => ?_⟩
        · have := gx_setI (k := (gx l r[i]).To) hkin (j := (k : Int)) (by omega)
          rw [this, if_pos rfl]
        · have := gx_setI (k := (gx l r[i]).To) hkin (j := (m : Int)) (by omega)
          rw [this, if_neg (by omega)]
      · simp only [if_neg c]
        have e1 : decide ((-1 : Int) < 0) = true := by decide
        have hkL : k = last.length := by omega
        have hkin : inR (last ++ [0]) ((last.length : Nat) : Int) := ⟨by omega, by simp; omega⟩
        simp only [e1, cond_true, bnd_eq]
        rw [need_of (by rw [room_iff]; simp; omega)]
        simp only [bind_sm]
        rw [need_of hv, need_of hkin, need_of hvo]
        have hkk : ((last.length : Nat) : Int) = (k : Int) := by omega
        rw [hkk] at hkin ⊢
        refine ⟨_, rfl, by simp; omega, ?_, fun m hm hne => ?_⟩
        · have := gx_setI (k := (gx l r[i]).To) hkin (j := (k : Int)) (by omega)
          rw [this, if_pos rfl]
        · have := gx_setI (k := (gx l r[i]).To) hkin (j := (m : Int)) (by omega)
          rw [this, if_neg (by omega), gx_nat (by simp; omega), gx_nat hm, List.getElem_append_left hm]
    refine ⟨(last', out.set (r[i]).toNat (k : Int)), out.set (r[i]).toNat (k : Int), ?_, ?_, rfl, ?_, by simp only; omega⟩
    · unfold route_Lanes_L2
      rw [need_of hin, hgi]
      simp only [bnd_eq]
      rw [k3]
      simp only [bind_sm]
      exact l1
    · unfold ref_LanesOf_L2
      rw [need_of hin, hgi]
      simp only [bnd_eq]
      exact ref_num hn hl (by omega) (by omega) hN.len hPr hv hfr k2 (by omega)
    · rw [hte]
      exact hN.step hl hPr hv hvn hfr k2 k1 l2 l3 l4)
  obtain ⟨last, out⟩ := s
  simp only at h3
  subst h3
  refine ⟨last, out, h1, h2, ?_⟩
  simpa using h4.1

/-! The most of them, and how many overlap. -/

theorem Max_eq {out : List Int} (h0 : out ≠ []) (hl : out.length ≤ 1000000) : ∃ m, slices_Max_int out = some m ∧ m ∈ out ∧ ∀ x ∈ out, x ≤ m := by
  have hp := List.length_pos_iff.2 h0
  unfold slices_Max_int
  have e1 : decide ((out.length : Int) < 1) = false := by simp; omega
  simp only [e1, cond_false, bnd_eq]
  rw [need_of ⟨by omega, by omega⟩]
  obtain ⟨m, h1, h2, h3⟩ := loop_inv (body := slices_Max_int_L1 out) (s0 := (gx out 0, (1 : Int))) (fun s => ∃ i : Nat, s.2 = (i : Int) ∧ 1 ≤ i ∧ i ≤ out.length ∧ s.1 ∈ out ∧ ∀ j : Nat, j < i → gx out (j : Int) ≤ s.1) (fun s => (out.length - s.2).toNat) (fun m => m ∈ out ∧ ∀ x ∈ out, x ≤ m)
    ⟨1, rfl, by omega, by omega, gx_mem ⟨by omega, by omega⟩, fun j hj => by have : j = 0 := by omega
                                                                             subst this; exact Int.le_refl _⟩ (fun s hI => by
    obtain ⟨i, i1, i2, i3, i4, i5⟩ := hI
    unfold slices_Max_int_L1
    rw [i1]
    by_cases c : i < out.length
    · left
      have e1 : decide ((i : Int) < (out.length : Int)) = true := by simp; omega
      simp only [e1, cond_true, bnd_eq]
      rw [need_of ⟨by omega, by omega⟩, Wk (by omega) (by omega)]
      have hm := gx_mem (l := out) (k := (i : Int)) ⟨by omega, by omega⟩
      refine ⟨_, rfl, ⟨i + 1, by simp, by omega, by omega, ?_, fun j hj => ?_⟩, by simp only; omega⟩
      · simp only
        by_cases c2 : s.1 ≤ gx out (i : Int)
        · rw [Int.max_eq_right c2]; exact hm
        · rw [Int.max_eq_left (by omega)]; exact i4
      · simp only
        by_cases c2 : j < i
        · have := i5 j c2; omega
        · have : j = i := by omega
          subst this; omega
    · right
      have e1 : decide ((i : Int) < (out.length : Int)) = false := by simp; omega
      simp only [e1, cond_false]
      refine ⟨_, rfl, i4, fun x hx => ?_⟩
      obtain ⟨j, hj, rfl⟩ := List.mem_iff_getElem.1 hx
      have := i5 j (by omega)
      rwa [gx_nat hj] at this)
  exact ⟨m, by rw [h1]; rfl, h2, h3⟩

def cov (l : List Lane) (v : Int) (j : Int) : Bool := decide (fr l j ≤ fr l v) && decide (fr l v < to l j)
theorem Depth_eq (hn : l.length ≤ 1000) : ∃ d, ref_Depth l = some d ∧ 0 ≤ d ∧ (∀ v : Int, inR l v → ((ids l.length).countP (cov l v) : Int) ≤ d) ∧ (d = 0 ∨ ∃ v : Int, inR l v ∧ d = ((ids l.length).countP (cov l v) : Int)) := by
  have inner : ∀ v : Int, inR l v → rfor (l.length : Int) (ref_Depth_L2 l (gx l v)) 0 = some ((ids l.length).countP (cov l v) : Int) := fun v hv => by
    obtain ⟨s, h1, h2⟩ := rfor_inv (n := (l.length : Int)) (step := ref_Depth_L2 l (gx l v)) (s0 := (0 : Int)) (fun i s => s = ((ids i).countP (cov l v) : Int)) (by omega) (by simp [ids]) (fun i s hi hI => by
      have hi' : i < l.length := by omega
      unfold ref_Depth_L2
      rw [need_of ⟨by omega, hi⟩]
      simp only [bnd_eq]
      rw [ids_succ, List.countP_append, List.countP_singleton]
      have hcv : (decide ((gx l (i : Int)).From ≤ (gx l v).From) && decide ((gx l v).From < (gx l (i : Int)).To)) = cov l v (i : Int) := rfl
      have hle := List.countP_le_length (p := cov l v) (l := ids i)
      rw [ids_len] at hle
      rw [hcv]
      cases cov l v (i : Int) with
      | true =>
        simp only [cond_true, if_true]
        rw [Wk (by omega) (by omega)]
        exact ⟨_, rfl, by omega⟩
      | false =>
        simp only [cond_false, Bool.false_eq_true, if_false]
        exact ⟨_, rfl, by omega⟩)
    rw [h1, h2]; simp
  unfold ref_Depth
  obtain ⟨d, h1, h2, h3, h4⟩ := rfor_inv (n := (l.length : Int)) (step := ref_Depth_L1 l) (s0 := (0 : Int)) (fun i s => 0 ≤ s ∧ (∀ v : Nat, v < i → ((ids l.length).countP (cov l (v : Int)) : Int) ≤ s) ∧ (s = 0 ∨ ∃ v : Int, inR l v ∧ s = ((ids l.length).countP (cov l v) : Int))) (by omega) ⟨Int.le_refl _, fun v hv => by omega, .inl rfl⟩ (fun i s hi hI => by
    have hin : inR l (i : Int) := ⟨by omega, hi⟩
    obtain ⟨i1, i2, i3⟩ := hI
    unfold ref_Depth_L1
    rw [need_of hin]
    simp only [bnd_eq]
    rw [inner _ hin]
    simp only [bind_sm]
    refine ⟨_, rfl, by omega, fun v hv => ?_, ?_⟩
    · by_cases c : v < i
      · have := i2 v c; omega
      · have : v = i := by omega
        subst this; omega
    · by_cases c : s ≤ ((ids l.length).countP (cov l (i : Int)) : Int)
      · right; exact ⟨_, hin, by omega⟩
      · rcases i3 with i3 | ⟨v, v1, v2⟩
        · left; omega
        · right; exact ⟨v, v1, by omega⟩)
  rw [h1]
  refine ⟨d, rfl, h2, fun v hv => ?_, h4⟩
  have := h3 v.toNat (by simp; have := hv.1; have := hv.2; omega)
  rw [show ((v.toNat : Nat) : Int) = v by have := hv.1; omega] at this
  exact this

theorem depth_last (hn : l.length ≤ 1000) (hl : ∀ x ∈ l, okL x) (h0 : 0 < l.length) {r last out : List Int} (hr : r.Perm (ids l.length)) (hN : Nb l r last out) : ref_Depth l = some (last.length : Int) ∧ ∃ m, slices_Max_int out = some m ∧ m + 1 = last.length := by
  have hri : ∀ j, j ∈ r ↔ inR l j := fun j => by rw [hr.mem_iff, ids_mem]; rfl
  have hrl : r.length = l.length := by rw [hr.length_eq, ids_len]
  obtain ⟨d, d1, d2, d3, d4⟩ := Depth_eq hn
  have hcnt : ∀ v, (ids l.length).countP (cov l v) = r.countP (cov l v) := fun v => (hr.countP_eq _).symm
  have hle : d ≤ last.length := by
    rcases d4 with rfl | ⟨v, hv, rfl⟩
    · omega
    · rw [hcnt]
      -- those that overlap have numbers that differ
      have hs := nodup_sub ((r.filter (cov l v)).map (gx out)) (ids last.length) (by
        unfold List.Nodup
        rw [List.pairwise_map]
        refine List.Pairwise.imp_of_mem ?_ (hN.dis.filter (cov l v))
        intro a b ha hb hab he
        have h1 := (List.mem_filter.1 ha).2
        have h2 := (List.mem_filter.1 hb).2
        unfold cov at h1 h2
        simp at h1 h2
        have := hab he
        omega) (fun x hx => by
        obtain ⟨j, hj, rfl⟩ := List.mem_map.1 hx
        rw [ids_mem]
        exact hN.rng j (List.mem_filter.1 hj).1)
      rw [ids_len, List.length_map, ← List.countP_eq_length_filter] at hs
      omega
  have hL0 : last.length ≠ 0 := fun e => by
    have : r ≠ [] := fun h => by rw [h] at hrl; simp at hrl; omega
    obtain ⟨j, hj⟩ := List.exists_mem_of_ne_nil r this
    have := hN.rng j hj; omega
  have hge : (last.length : Int) ≤ d := by
    rcases hN.deep with h | ⟨v, hv, h⟩
    · exact absurd h hL0
    · have := d3 v ((hri v).1 hv)
      rw [hcnt] at this
      have h' : last.length ≤ r.countP (cov l v) := h
      omega
  refine ⟨by rw [d1]; congr 1; omega, ?_⟩
  obtain ⟨m, m1, m2, m3⟩ := Max_eq (out := out) (fun e => by have := hN.len; rw [e] at this; simp at this; omega) (by rw [hN.len]; omega)
  refine ⟨m, m1, ?_⟩
  obtain ⟨i, hi, rfl⟩ := List.mem_iff_getElem.1 m2
  have h1 := hN.rng (i : Int) ((hri _).2 ⟨by omega, by rw [← hN.len]; omega⟩)
  rw [gx_nat hi] at h1
  obtain ⟨⟨j, j1, j2, _⟩, _⟩ := hN.top (last.length - 1) (by omega)
  have h2 := m3 (gx out j) (gx_mem ⟨((hri j).1 j1).1, by rw [hN.len]; exact ((hri j).1 j1).2⟩)
  omega

/-! The law. -/

theorem Lanes_err (hll : (l.length : Int) ≤ 9223372036854775807) (h : (if 1000 < l.length then 4 else firstErr (l.map laneErr)) ≠ 0) : route_Lanes l = some ([], if 1000 < l.length then 4 else firstErr (l.map laneErr)) := by
  unfold route_Lanes
  by_cases c : 1000 < l.length
  · have e1 : decide ((1000 : Int) < (l.length : Int)) = true := by simp; omega
    simp [e1, c]
  · have e1 : decide ((1000 : Int) < (l.length : Int)) = false := by simp; omega
    rw [if_neg c] at h ⊢
    simp only [e1, cond_false, bnd_eq]
    rw [need_of ⟨by omega, Int.le_refl _, by omega⟩]
    obtain ⟨e, h1, h2⟩ := rforE_inv (n := (l.length : Int)) (step := route_Lanes_L1 l) (fin := fun s => (Res.nx s : Res (List Int) (List Int × Int))) (s0 := List.replicate l.length (0 : Int)) (fun i s => s.length = l.length ∧ firstErr ((l.take i).map laneErr) = 0) (fun e => e = Res.ab ([], firstErr (l.map laneErr))) hll ⟨by simp, by simp⟩ (fun i s hi hI => by
      have hi' : i < l.length := by omega
      have hte : l = l.take i ++ gx l (i : Int) :: l.drop (i + 1) := by rw [gx_nat hi', List.getElem_cons_drop]; exact (List.take_append_drop i l).symm
      have hfe : ∀ e, laneErr (gx l (i : Int)) = e → e ≠ 0 → firstErr (l.map laneErr) = e := fun e he hne => by
        rw [hte, List.map_append, List.map_cons]
        have : ∀ (a b : List Int), firstErr a = 0 → firstErr (a ++ b) = firstErr b := by
          intro a b
          induction a with
          | nil => intro _; rfl
          | cons x a ih =>
            intro hx
            by_cases hx0 : x = 0
            · rw [firstErr_cons, if_pos hx0] at hx
              rw [List.cons_append, firstErr_cons, if_pos hx0, ih hx]
            · rw [firstErr_cons, if_neg hx0] at hx; exact absurd hx hx0
        rw [this _ _ hI.2, firstErr_cons, he, if_neg hne]
      unfold route_Lanes_L1 route_Lanes_1
      rw [need_of ⟨by omega, hi⟩]
      simp only [bnd_eq, bind_sm]
      have hz : laneErr (gx l (i : Int)) = laneErr (gx l (i : Int)) := rfl
      generalize gx l (i : Int) = x at *
      have hls : inR s (i : Int) := ⟨by omega, by rw [hI.1]; exact hi⟩
      by_cases q1 : -1000000 ≤ x.From ∧ x.From ≤ 1000000
      · have d1 : (decide (-1000000 ≤ x.From) && decide (x.From ≤ 1000000)) = true := by simpa using q1
        by_cases q2 : -1000000 ≤ x.To ∧ x.To ≤ 1000000
        · have d2 : (decide (-1000000 ≤ x.To) && decide (x.To ≤ 1000000)) = true := by simpa using q2
          simp only [d1, d2, Bool.not_true, Bool.not_false, gd_true, bind_sm, Bool.or_self, cond_false]
          have q12 : -1000000 ≤ x.From ∧ x.From ≤ 1000000 ∧ -1000000 ≤ x.To ∧ x.To ≤ 1000000 := ⟨q1.1, q1.2, q2.1, q2.2⟩
          by_cases q3 : x.From < x.To
          · have d3 : decide (x.To ≤ x.From) = false := by simp; omega
            simp only [d3, cond_false]
            rw [need_of hls]
            refine .inl ⟨_, rfl, by rw [List.length_set]; exact hI.1, ?_⟩
            have e0 : laneErr x = 0 := by unfold laneErr; rw [if_pos q12, if_pos q3]
            have ht2 : l.take (i + 1) = l.take i ++ [x] := by
              conv => lhs; rw [hte]
              rw [List.take_append, List.take_of_length_le (by simp; omega), List.length_take]
              rw [show i + 1 - min i l.length = 1 by omega]; rfl
            rw [ht2, List.map_append, firstErr_zero]
            intro e he
            rcases List.mem_append.1 he with he | he
            · exact firstErr_zero.1 hI.2 e he
            · simp at he; rw [he]; exact e0
          · have d3 : decide (x.To ≤ x.From) = true := by simp; omega
            simp only [d3, cond_true]
            have e0 : laneErr x = 7 := by unfold laneErr; rw [if_pos q12, if_neg q3]
            exact .inr ⟨_, rfl, by rw [hfe 7 e0 (by decide)]⟩
        · have d2 : (decide (-1000000 ≤ x.To) && decide (x.To ≤ 1000000)) = false := by simp; omega
          simp only [d1, d2, Bool.not_true, Bool.not_false, gd_true, bind_sm, Bool.or_true, cond_true]
          have e0 : laneErr x = 3 := by unfold laneErr; rw [if_neg (fun h => q2 ⟨h.2.2.1, h.2.2.2⟩)]
          exact .inr ⟨_, rfl, by rw [hfe 3 e0 (by decide)]⟩
      · have d1 : (decide (-1000000 ≤ x.From) && decide (x.From ≤ 1000000)) = false := by simp; omega
        simp only [d1, Bool.not_false, Bool.not_true, gd_false, bind_sm, Bool.true_or, cond_true]
        have e0 : laneErr x = 3 := by unfold laneErr; rw [if_neg (fun h => q1 ⟨h.1, h.2.1⟩)]
        exact .inr ⟨_, rfl, by rw [hfe 3 e0 (by decide)]⟩) (fun s hI => by
      exfalso
      simp at hI
      exact h hI.2)
    simp only [Int.toNat_natCast]
    rw [h1, h2]; rfl

theorem Lanes_ok (h : (if 1000 < l.length then 4 else firstErr (l.map laneErr)) = 0) : ∃ r last out, route_Lanes l = some (out, 0) ∧ ref_LanesOf l = some out ∧ r.Perm (ids l.length) ∧ Nb l r last out ∧ l.length ≤ 1000 ∧ ∀ x ∈ l, okL x := by
  by_cases c : 1000 < l.length
  · rw [if_pos c] at h; cases h
  rw [if_neg c] at h
  have hl : ∀ x ∈ l, okL x := fun x hx => laneErr_zero.1 (firstErr_zero.1 h _ (List.mem_map.2 ⟨x, hx, rfl⟩))
  obtain ⟨r, s1, s2, s3, s4⟩ := sorts_eq (by omega) hl
  obtain ⟨last, out, k1, k2, k3⟩ := rounds_eq (by omega) hl s3 s4
  refine ⟨r, last, out, ?_, ?_, s3, k3, by omega, hl⟩
  · unfold route_Lanes
    have e1 : decide ((1000 : Int) < (l.length : Int)) = false := by simp; omega
    simp only [e1, cond_false, bnd_eq]
    rw [need_of ⟨by omega, Int.le_refl _, by omega⟩]
    simp only [Int.toNat_natCast]
    obtain ⟨e, h1, h2⟩ := rforE_inv (n := (l.length : Int)) (step := route_Lanes_L1 l) (fin := fun s => (Res.nx s : Res (List Int) (List Int × Int))) (s0 := List.replicate l.length (0 : Int)) (fun i s => s = ids i ++ List.replicate (l.length - i) (0 : Int)) (fun e => e = Res.nx (ids l.length)) (by omega) (by simp [ids]) (fun i s hi hI => by
      have hi' : i < l.length := by omega
      have hin : inR l (i : Int) := ⟨by omega, hi⟩
      have hx := hl _ (gx_mem hin)
      unfold okL at hx
      unfold route_Lanes_L1 route_Lanes_1
      rw [need_of hin]
      simp only [bnd_eq, bind_sm]
      generalize gx l (i : Int) = x at *
      have d1 : (decide (-1000000 ≤ x.From) && decide (x.From ≤ 1000000)) = true := by simp; omega
      have d2 : (decide (-1000000 ≤ x.To) && decide (x.To ≤ 1000000)) = true := by simp; omega
      have d3 : decide (x.To ≤ x.From) = false := by simp; omega
      simp only [d1, d2, d3, Bool.not_true, Bool.not_false, gd_true, bind_sm, Bool.or_self, cond_false]
      have hsp : List.replicate (l.length - i) (0 : Int) = 0 :: List.replicate (l.length - (i + 1)) (0 : Int) := by
        rw [show l.length - i = (l.length - (i + 1)) + 1 by omega, List.replicate_succ]
      rw [need_of ⟨by omega, by rw [hI]; simp [ids_len]; omega⟩]
      refine .inl ⟨_, rfl, ?_⟩
      rw [hI, hsp, set_app (by rw [ids_len]; simp), ids_succ]; simp) (fun s hI => by rw [hI]; simp)
    rw [h1, h2]
    simp only [bindR_nx]
    rw [s1]
    simp only [bind_sm]
    rw [need_of ⟨by omega, Int.le_refl _, by omega⟩, k1]; rfl
  · unfold ref_LanesOf
    obtain ⟨s, h1, h2⟩ := rfor_inv (n := (l.length : Int)) (step := ref_LanesOf_L1) (s0 := ([] : List Int)) (fun i s => s = ids i) (by omega) (by simp [ids]) (fun i s hi hI => by
      unfold ref_LanesOf_L1
      rw [need_of (by rw [room_iff, hI, ids_len]; simp; omega)]
      exact ⟨_, rfl, by rw [hI, ids_succ]⟩)
    rw [h1, h2]
    simp only [bind_sm, Int.toNat_natCast]
    rw [s2]
    simp only [bind_sm, bnd_eq]
    rw [need_of ⟨by omega, Int.le_refl _, by omega⟩]
    simp only [Int.toNat_natCast]
    rw [k2]; rfl

theorem LanesMatch_true (l : List Lane) (hf : fits l) : law_LanesMatch l = some true := by
  have hll := (fits_list.1 hf).1
  have hF : ∀ a b c : Int, ref_First [a, b, c] = some (firstErr [a, b, c]) := fun a b c => First_eq (by simp)
  unfold law_LanesMatch
  have hw : (if decide ((1000 : Int) < (l.length : Int)) = true then (4 : Int) else 0) = if 1000 < l.length then 4 else 0 := by by_cases c : 1000 < l.length <;> simp [c] <;> omega
  simp only [When_eq, bind_sm, hw, routes_eq]
  have hloop : rfor (l.length : Int) (law_LanesMatch_L1 l) (if 1000 < l.length then 4 else 0) = some (if 1000 < l.length then 4 else firstErr (l.map laneErr)) := by
    rw [rfor_fold (l := l) (fun s x => if s = 0 then laneErr x else s) (by omega) (fun i s hi => by
      unfold law_LanesMatch_L1
      rw [need_of hi]
      simp only [bnd_eq, In_eq, When_eq, bind_sm]
      generalize gx l i = x
      have e1 : gd (!!decide (-1000000 ≤ x.From ∧ x.From ≤ 1000000)) (some (decide (-1000000 ≤ x.To ∧ x.To ≤ 1000000))) = some (bif !decide (-1000000 ≤ x.From ∧ x.From ≤ 1000000) then false else decide (-1000000 ≤ x.To ∧ x.To ≤ 1000000)) := by
        cases decide (-1000000 ≤ x.From ∧ x.From ≤ 1000000) <;> rfl
      rw [e1]
      simp only [bind_sm, hF]
      congr 1
      by_cases c0 : s = 0
      · subst c0
        simp only [firstErr_cons, firstErr_nil, if_true]
        unfold laneErr
        by_cases q1 : -1000000 ≤ x.From ∧ x.From ≤ 1000000
        · by_cases q2 : -1000000 ≤ x.To ∧ x.To ≤ 1000000
          · have : -1000000 ≤ x.From ∧ x.From ≤ 1000000 ∧ -1000000 ≤ x.To ∧ x.To ≤ 1000000 := ⟨q1.1, q1.2, q2.1, q2.2⟩
            rw [if_pos this]
            by_cases q3 : x.From < x.To
            · have : ¬ x.To ≤ x.From := by omega
              simp [q1, q2, q3, this]
            · have : x.To ≤ x.From := by omega
              simp [q1, q2, q3, this]
          · have : ¬ (-1000000 ≤ x.From ∧ x.From ≤ 1000000 ∧ -1000000 ≤ x.To ∧ x.To ≤ 1000000) := fun h => q2 ⟨h.2.2.1, h.2.2.2⟩
            rw [if_neg this]; simp [q1, q2]
        · have : ¬ (-1000000 ≤ x.From ∧ x.From ≤ 1000000 ∧ -1000000 ≤ x.To ∧ x.To ≤ 1000000) := fun h => q1 ⟨h.1, h.2.1⟩
          rw [if_neg this]; simp [q1]
      · simp [c0])]
    have key : ∀ (m : List Lane) (s : Int), m.foldl (fun s x => if s = 0 then laneErr x else s) s = if s = 0 then firstErr (m.map laneErr) else s := by
      intro m
      induction m with
      | nil => intro s; by_cases c : s = 0 <;> simp [c]
      | cons x m ih =>
        intro s
        rw [List.foldl_cons, ih, List.map_cons, firstErr_cons]
        by_cases c : s = 0
        · simp [c]
        · simp [c]
    rw [key]
    by_cases c : 1000 < l.length <;> simp [c]
  rw [hloop]
  simp only [bind_sm]
  by_cases he : (if 1000 < l.length then 4 else firstErr (l.map laneErr)) = 0
  · obtain ⟨r, last, out, k1, k2, k3, k4, k5, k6⟩ := Lanes_ok he
    rw [he, k1, k2]
    simp only [bind_sm, decide_true, Bool.not_true, Bool.or_self, cond_false, gd_true, Bool.true_and]
    rw [Equal_int_eq _ _ (by rw [k4.len]; omega)]
    simp only [bind_sm, decide_true, Bool.true_and]
    by_cases c0 : l.length = 0
    · have d0 : decide ((l.length : Int) = 0) = true := by rw [decide_eq_true_eq]; omega
      simp only [d0, Bool.not_true, gd_false, bind_sm, Bool.true_or]
    · have d0 : decide ((l.length : Int) = 0) = false := by rw [decide_eq_false_iff_not]; omega
      obtain ⟨q1, m, q2, q3⟩ := depth_last k5 k6 (by omega) k3 k4
      simp only [d0, Bool.not_false, gd_true, Bool.false_or]
      rw [q1, q2]
      simp only [bind_sm]
      have hlast : last.length ≤ 1000000 := by
        rcases k4.deep with h | ⟨v, _, h⟩
        · omega
        · have := List.countP_le_length (p := fun j => decide (fr l j ≤ fr l v) && decide (fr l v < to l j)) (l := r)
          rw [k3.length_eq, ids_len] at this; omega
      rw [Wk (by omega) (by omega), q3]; simp
  · rw [Lanes_err (by omega) he]
    have d0 : decide ((if 1000 < l.length then 4 else firstErr (l.map laneErr)) = 0) = false := by simpa using he
    simp only [bind_sm, d0, Bool.not_true, Bool.not_false, Bool.or_true, cond_true]
    simp
end
end Go.DB
