/-
  Signs of a diagram: what Sketch and its reference make of a right diagram.
-/
import Derived.Test.YtbogpbomhmabhaaGreatDoorSkePuSke5
set_option linter.unusedSimpArgs false
set_option linter.unusedVariables false
namespace Go.DB
open Go Go.RowKit

theorem bxL_mem {d : Doc} (h : Right d) {b : Box} (hb : b ∈ bxL d.Nodes) : okB b := by
  unfold bxL at hb
  rw [List.mem_map] at hb
  obtain ⟨n, hn, rfl⟩ := hb
  rw [List.mem_filter] at hn
  exact (h.at hn.1).2.2 (of_decide_eq_true hn.2)
def jD (L : List Box) : Int × Int × Int × Int × Bool := if L = [] then (0, 0, 0, 0, false) else ((bdL L).1, (bdL L).2.1, (bdL L).2.2.1, (bdL L).2.2.2, true)
theorem sk_nodes {d : Doc} (h : Right d) : rfor (d.Nodes.length : Int) (desk_Sketch_L1 d) (0, 0, 0, 0, false) = some (jD (bxL d.Nodes)) := by
  have hnl := h.nl
  obtain ⟨s, s1, s2⟩ := rfor_inv (n := (d.Nodes.length : Int)) (step := desk_Sketch_L1 d) (s0 := (0, 0, 0, 0, false)) (fun n s => s = jD (bxL (d.Nodes.take n))) (by omega) rfl (fun i s hi hs => by
    have hi' : i < d.Nodes.length := by omega
    unfold desk_Sketch_L1
    rw [need_of ⟨by omega, by omega⟩, bnd_eq, gx_nat hi', List.take_succ_eq_append_getElem hi', bxL_snoc]
    by_cases hk : d.Nodes[i].Kind = 6
    · rw [decide_eq_true hk, cond_true, if_neg (fun q => q hk)]
      exact ⟨_, rfl, hs⟩
    · obtain ⟨x1, x2, y1, y2, w1, w2, g1, g2⟩ := (h.at (List.getElem_mem hi')).2.2 hk
      rw [decide_eq_false hk, cond_false, if_pos hk, Wk (n := d.Nodes[i].Box.X + d.Nodes[i].Box.W_) (by omega) (by omega), Wk (n := d.Nodes[i].Box.Y + d.Nodes[i].Box.H) (by omega) (by omega)]
      subst hs
      have hj : ∀ L : List Box, jD (L ++ [d.Nodes[i].Box]) = ((if L = [] then bd0 d.Nodes[i].Box else bd1 (bdL L) d.Nodes[i].Box).1, (if L = [] then bd0 d.Nodes[i].Box else bd1 (bdL L) d.Nodes[i].Box).2.1, (if L = [] then bd0 d.Nodes[i].Box else bd1 (bdL L) d.Nodes[i].Box).2.2.1, (if L = [] then bd0 d.Nodes[i].Box else bd1 (bdL L) d.Nodes[i].Box).2.2.2, true) := fun L => by
        unfold jD
        rw [if_neg (by simp), bdL_snoc]
      rw [hj]
      generalize bxL (d.Nodes.take i) = L
      by_cases hL : L = []
      · subst hL
        exact ⟨_, rfl, rfl⟩
      · have e : jD L = ((bdL L).1, (bdL L).2.1, (bdL L).2.2.1, (bdL L).2.2.2, true) := if_neg hL
        rw [e, if_neg hL]
        exact ⟨_, rfl, rfl⟩)
  have en : ((d.Nodes.length : Int)).toNat = d.Nodes.length := by omega
  rw [en, List.take_length] at s2
  rw [s1, s2]
theorem sk_boxes {d : Doc} (h : Right d) : rfor (d.Nodes.length : Int) (law_sketchOf_L1 d) ([] : List Box) = some (bxL d.Nodes) ∧ (bxL d.Nodes).length ≤ 500 := by
  have hnl := h.nl
  obtain ⟨s, s1, s2, s3⟩ := rfor_inv (n := (d.Nodes.length : Int)) (step := law_sketchOf_L1 d) (s0 := ([] : List Box)) (fun n s => s = bxL (d.Nodes.take n) ∧ s.length ≤ n) (by omega) ⟨rfl, Nat.le_refl _⟩ (fun i s hi ⟨hs, hsl⟩ => by
    have hi' : i < d.Nodes.length := by omega
    unfold law_sketchOf_L1
    rw [need_of ⟨by omega, by omega⟩, bnd_eq, gx_nat hi', List.take_succ_eq_append_getElem hi', bxL_snoc]
    by_cases hk : d.Nodes[i].Kind = 6
    · rw [decide_eq_true hk, if_neg (fun q => q hk)]
      exact ⟨_, rfl, hs, by omega⟩
    · rw [decide_eq_false hk, if_pos hk]
      simp only [Bool.not_false, cond_true]
      rw [need_of (by show _ ≤ _; simp; omega)]
      exact ⟨_, rfl, by rw [hs], by simp; omega⟩)
  have en : ((d.Nodes.length : Int)).toNat = d.Nodes.length := by omega
  rw [en, List.take_length] at s2
  rw [en] at s3
  rw [s1, ← s2]
  exact ⟨rfl, by omega⟩
theorem sk_bounds {L : List Box} (hok : ∀ b ∈ L, okB b) (hl : L.length ≤ 500) (hL : L ≠ []) : rfor (L.length : Int) (law_sketchOf_L2 L) ((gx L 0).X, (gx L 0).Y, (gx L 0).X, (gx L 0).Y) = some (bdL L) := by
  rw [rfor_fold (l := L) bd1 (by omega) (fun i s hi => by
    obtain ⟨x1, x2, y1, y2, w1, w2, g1, g2⟩ := hok _ (gx_mem hi)
    unfold law_sketchOf_L2
    rw [need_of hi]
    simp only [bnd_eq]
    rw [Wk (n := (gx L i).X + (gx L i).W_) (by omega) (by omega), Wk (n := (gx L i).Y + (gx L i).H) (by omega) (by omega)]
    rfl)]
  cases L with
  | nil => exact absurd rfl hL
  | cons b l =>
    obtain ⟨x1, x2, y1, y2, w1, w2, g1, g2⟩ := hok b (by simp)
    have e : gx (b :: l) 0 = b := rfl
    rw [e, List.foldl_cons]
    have e2 : bd1 (b.X, b.Y, b.X, b.Y) b = bd0 b := by
      unfold bd1 bd0
      simp only [Prod.mk.injEq]
      omega
    rw [e2]; rfl
theorem rmap_set {α : Type} {R i : Nat} {f : Nat → α} (v : α) : ((List.range R).map f).set i v = (List.range R).map (fun j => if j = i then v else f j) := by
  apply List.ext_getElem
  · simp
  · intro j h1 h2
    rw [List.getElem_set]
    by_cases e : i = j
    · subst e; simp
    · have : ¬ j = i := fun h => e h.symm
      simp [e, this]
theorem sk_dots {R C : Nat} (hR : R ≤ 200) (hC : C ≤ 200) : rfor (((List.replicate R ([] : List (KI .u8))).length : Nat) : Int) (desk_Sketch_L2 (C : Int)) (List.replicate R ([] : List (KI .u8))) = some (gdF R C (fun _ _ => 46)) := by
  obtain ⟨s, s1, s2⟩ := rfor_inv (n := (((List.replicate R ([] : List (KI .u8))).length : Nat) : Int)) (step := desk_Sketch_L2 (C : Int)) (s0 := List.replicate R ([] : List (KI .u8)))
    (fun n s => s = (List.range R).map (fun j => if j < n then rwF C (fun _ => 46) else [])) (by simp; omega) (by simp [List.map_const']) (fun n s hn hs => by
      have hn' : n < R := by simpa using hn
      have hlen : s.length = R := by rw [hs]; simp
      have hrl : (repeatS (⟨[46]⟩ : Str) (C : Int)).b.length = C := by
        show (Go.Lib.repeatL _ _).length = C
        rw [Go.Lib.repeatL_length]; simp
      unfold desk_Sketch_L2 strings_Repeat
      rw [need_of ⟨by decide, by omega, by omega, by rw [hrl]; omega⟩, Option.bind_some, need_of (by rw [hrl]; omega), need_of ⟨by omega, by rw [hlen]; omega⟩, repeat_dots]
      refine ⟨_, rfl, ?_⟩
      have e : ((n : Int)).toNat = n := by omega
      rw [e, hs, rmap_set]
      refine List.map_congr_left fun j _ => ?_
      by_cases hj : j = n
      · subst hj; rw [if_pos rfl, if_pos (by omega)]
      · rw [if_neg hj]
        by_cases h2 : j < n
        · rw [if_pos h2, if_pos (by omega)]
        · rw [if_neg h2, if_neg (by omega)])
  rw [s1, s2]
  congr 1
  refine List.map_congr_left fun j hj => ?_
  have := List.mem_range.1 hj
  rw [if_pos (by simpa using this)]
/-- The signs of some rows. -/
noncomputable def rowsB (d : Doc) (L T w h : Int) (C n : Nat) : List UInt8 := (List.range n).flatMap (fun (i : Nat) => (List.range C).map (cellB d L T w h i) ++ [10])
theorem rowsB_snoc {d : Doc} {L T w h : Int} {C n : Nat} : rowsB d L T w h C (n + 1) = rowsB d L T w h C n ++ ((List.range C).map (cellB d L T w h n) ++ [10]) := by
  unfold rowsB
  rw [List.range_succ, List.flatMap_append]; simp
theorem rowsB_len {d : Doc} {L T w h : Int} {C : Nat} (hC : C ≤ 200) : ∀ n, (rowsB d L T w h C n).length ≤ 201 * n
  | 0 => by simp [rowsB]
  | n + 1 => by
    have := rowsB_len (d := d) (L := L) (T := T) (w := w) (h := h) hC n
    rw [rowsB_snoc]
    simp
    omega
section
variable {d : Doc} {L T w h : Int} {R C : Nat}
/-- Nodes are written into the grid. -/
theorem sk_L6 (hr : Right d) {j_4 : Int × Int × Int × Int × Bool} (hL : -1000000 ≤ L ∧ L ≤ 1000000) (hT : -1000000 ≤ T ∧ T ≤ 1000000) (hw : 1 ≤ w ∧ w ≤ 20000) (hh : 1 ≤ h ∧ h ≤ 20000) (hC : C ≤ 200) (hR : R ≤ 200) (hj : j_4.1 = L) (hj2 : j_4.2.1 = T) :
    rfor (((gdF R C (fun a c => if ∃ p ∈ lanesD d d.Edges.length, tch L T w h p a c then 42 else 46)).length : Nat) : Int) (desk_Sketch_L6 h w j_4 (fun x0 => page_Finder_1 x0 (ordT d.Nodes) d)) (gdF R C (fun a c => if ∃ p ∈ lanesD d d.Edges.length, tch L T w h p a c then 42 else 46)) = some (gdF R C (cellB d L T w h)) := by
  generalize hF : (fun (a c : Nat) => (if ∃ p ∈ lanesD d d.Edges.length, tch L T w h p a c then 42 else 46 : UInt8)) = F
  obtain ⟨s, s1, s2⟩ := rfor_inv (n := (((gdF R C F).length : Nat) : Int)) (step := desk_Sketch_L6 h w j_4 (fun x0 => page_Finder_1 x0 (ordT d.Nodes) d)) (s0 := gdF R C F)
    (fun n s => s = gdF R C (fun a c => if a < n then cellB d L T w h a c else F a c)) (by rw [gdF_len]; omega) (gdF_congr fun a _ c _ => by rw [if_neg (by omega)]) (fun n s hn hs => by
      have hn' : n < R := by rw [gdF_len] at hn; omega
      subst hs
      have hin : inR (gdF R C (fun a c => if a < n then cellB d L T w h a c else F a c)) (n : Int) := ⟨by omega, by rw [gdF_len]; omega⟩
      unfold desk_Sketch_L6
      rw [need_of hin, need_of hin, gdF_at hn', bnd_eq]
      have hrow : rwF C (fun c => if n < n then cellB d L T w h n c else F n c) = rwF C (F n) := rwF_congr fun k _ => if_neg (by omega)
      rw [hrow, rwF_len]
      generalize hG : (gdF R C (fun a c => if a < n then cellB d L T w h a c else F a c)) = G
      obtain ⟨t, t1, t2⟩ := rfor_inv (n := (C : Int)) (step := desk_Sketch_L7 h w j_4 ((n : Int), G) (fun x0 => page_Finder_1 x0 (ordT d.Nodes) d)) (s0 := rwF C (F n))
        (fun m t => t = rwF C (fun c => if c < m then cellB d L T w h n c else F n c)) (by omega) (rwF_congr fun k _ => by rw [if_neg (by omega)]) (fun m t hm ht => by
          have hm' : m < C := by omega
          have m1 := mul_bd (w := 0) (Nat.le_of_lt hm') hC hw.1 hw.2
          have m2 := mul_bd (w := 0) (Nat.le_of_lt hn') hR hh.1 hh.2
          have hlen : t.length = C := by rw [ht, rwF_len]
          unfold desk_Sketch_L7
          simp only [hj, hj2]
          rw [Int.mul_comm w, Int.mul_comm h, Int.tdiv_eq_ediv_of_nonneg (show 0 ≤ w by omega), Int.tdiv_eq_ediv_of_nonneg (show 0 ≤ h by omega), Wk (n := (m : Int) * w) (by omega) (by omega), Wk (n := (n : Int) * h) (by omega) (by omega), Wk (n := L + (m : Int) * w) (by omega) (by omega), Wk (n := T + (n : Int) * h) (by omega) (by omega), Wk (n := L + (m : Int) * w + w / 2) (by omega) (by omega), Wk (n := T + (n : Int) * h + h / 2) (by omega) (by omega)]
          have hmid : (⟨L + (m : Int) * w + w / 2, T + (n : Int) * h + h / 2⟩ : Point) = midQ L T w h n m := rfl
          rw [hmid]
          obtain ⟨x, b, f1, f2, f3⟩ := sk_find hr (midQ L T w h n m)
          rw [f1, Option.bind_some]
          have hstep : ∀ g : Nat → UInt8, (∀ c, c < C → g c = if c < m + 1 then cellB d L T w h n c else F n c) → rwF C g = rwF C (fun c => if c < m + 1 then cellB d L T w h n c else F n c) := fun g hg => rwF_congr hg
          have hnone : b = false → cellB d L T w h n m = F n m → ∃ s', (bif ((x, b) : DNode × Bool).2 then (need (inR ((x, b) : DNode × Bool).1.Id.b 0) <| bnd ((⟨((gx ((x, b) : DNode × Bool).1.Id.b 0).toNat : Int)⟩ : KI .u8)) fun v7 => need (inR t (m : Int)) <| some (t.set ((m : Int)).toNat v7)) else some t) = some s' ∧ s' = rwF C (fun c => if c < m + 1 then cellB d L T w h n c else F n c) := fun hb hc => by
            subst hb
            refine ⟨t, rfl, ?_⟩
            rw [ht]
            refine rwF_congr fun c _ => ?_
            by_cases h1 : c < m
            · rw [if_pos h1, if_pos (by omega)]
            · rw [if_neg h1]
              by_cases h2 : c = m
              · subst h2; rw [if_pos (by omega), hc]
              · rw [if_neg (by omega)]
          by_cases hp : ptErr (midQ L T w h n m) = 0
          · have f4 := f3 hp
            cases hq : (ordT d.Nodes).reverse.find? (hitB d.Nodes (midQ L T w h n m)) with
            | none =>
              rw [hq] at f4
              refine hnone f4 ?_
              unfold cellB
              rw [if_pos hp, hq, ← hF]
            | some k =>
              rw [hq] at f4
              simp only at f4
              obtain ⟨rfl, rfl⟩ := f4
              have hk : k ∈ ordT d.Nodes := by
                have := List.mem_of_find?_eq_some hq
                simpa using this
              obtain ⟨a, rfl, ha⟩ := ordT_mem hr hk
              have hid : (gx d.Nodes (a : Int)).Id ≠ Str.nil := by rw [gx_nat ha]; exact hr.hid (List.getElem_mem ha)
              have hb0 : (gx d.Nodes (a : Int)).Id.b ≠ [] := fun e => hid (by
                cases hb : (gx d.Nodes (a : Int)).Id with
                | mk b => rw [hb] at e; simp only at e; rw [e]; rfl)
              have hpos := List.length_pos_iff.2 hb0
              simp only [cond_true]
              rw [need_of ⟨by omega, by omega⟩, bnd_eq, need_of ⟨by omega, by rw [hlen]; omega⟩]
              refine ⟨_, rfl, ?_⟩
              have e : ((m : Int)).toNat = m := by omega
              rw [e, ht, rwF_set]
              refine rwF_congr fun c _ => ?_
              by_cases h2 : c = m
              · subst h2
                rw [if_pos rfl, if_pos (by omega)]
                unfold cellB
                rw [if_pos hp, hq]
              · rw [if_neg h2]
                by_cases h1 : c < m
                · rw [if_pos h1, if_pos (by omega)]
                · rw [if_neg h1, if_neg (by omega)]
          · refine hnone (f2 hp) ?_
            unfold cellB
            rw [if_neg hp, ← hF])
      rw [t1, Option.bind_some]
      refine ⟨_, rfl, ?_⟩
      have e : ((n : Int)).toNat = n := by omega
      have e2 : ((C : Int)).toNat = C := by omega
      rw [e2] at t2
      rw [e, t2, ← hG, gdF_set]
      refine gdF_congr fun a _ c hc => ?_
      by_cases h2 : a = n
      · subst h2; rw [if_pos rfl, if_pos hc, if_pos (by omega)]
      · rw [if_neg h2]
        by_cases h1 : a < n
        · rw [if_pos h1, if_pos (by omega)]
        · rw [if_neg h1, if_neg (by omega)])
  rw [s1, s2]
  congr 1
  have en : (((gdF R C F).length : Nat) : Int).toNat = R := by rw [gdF_len]; omega
  rw [en]
  exact gdF_congr fun a ha c _ => if_pos ha
/-- The signs become a text. -/
theorem sk_text (hC : C ≤ 200) (hR : R ≤ 200) : rfor (((gdF R C (cellB d L T w h)).length : Nat) : Int) (desk_Sketch_L8 (gdF R C (cellB d L T w h))) (⟨[]⟩ : Str) = some ⟨rowsB d L T w h C R⟩ := by
  obtain ⟨s, s1, s2⟩ := rfor_inv (n := (((gdF R C (cellB d L T w h)).length : Nat) : Int)) (step := desk_Sketch_L8 (gdF R C (cellB d L T w h))) (s0 := (⟨[]⟩ : Str)) (fun n s => s = ⟨rowsB d L T w h C n⟩) (by rw [gdF_len]; omega) rfl (fun n s hn hs => by
    have hn' : n < R := by rw [gdF_len] at hn; omega
    have hl := rowsB_len (d := d) (L := L) (T := T) (w := w) (h := h) hC n
    unfold desk_Sketch_L8 strings_Builder_WriteString
    rw [need_of ⟨by omega, by rw [gdF_len]; omega⟩, gdF_at hn', strB_rwF, need_of (by simp; omega), hs]
    rw [need_of (by simp; omega), Option.bind_some]
    exact ⟨_, rfl, by rw [rowsB_snoc]⟩)
  rw [s1, s2]
  have en : (((gdF R C (cellB d L T w h)).length : Nat) : Int).toNat = R := by rw [gdF_len]; omega
  rw [en]
theorem sk_lawText (hc : page_Check d = some 0) (hr : Right d) {j_18 : Int × Int × Int × Int} (hL : -1000000 ≤ L ∧ L ≤ 1000000) (hT : -1000000 ≤ T ∧ T ≤ 1000000) (hw : 1 ≤ w ∧ w ≤ 20000) (hh : 1 ≤ h ∧ h ≤ 20000) (hC : C ≤ 200) (hR : R ≤ 200) (hj : j_18.1 = L) (hj2 : j_18.2.1 = T) :
    rfor (R : Int) (law_sketchOf_L3 d h w j_18 (C : Int)) Str.nil = some ⟨rowsB d L T w h C R⟩ := by
  obtain ⟨s, s1, s2⟩ := rfor_inv (n := (R : Int)) (step := law_sketchOf_L3 d h w j_18 (C : Int)) (s0 := Str.nil) (fun n s => s = ⟨rowsB d L T w h C n⟩) (by omega) rfl (fun n s hn hs => by
    have hn' : n < R := by omega
    have hl := rowsB_len (d := d) (L := L) (T := T) (w := w) (h := h) hC n
    have hsl : s.b.length ≤ 201 * n := by rw [hs]; exact hl
    unfold law_sketchOf_L3
    obtain ⟨t, t1, t2⟩ := rfor_inv (n := (C : Int)) (step := law_sketchOf_L4 d h w j_18 ((n : Int), s)) (s0 := s) (fun m t => t = ⟨s.b ++ (List.range m).map (cellB d L T w h n)⟩) (by omega) (by simp) (fun m t hm ht => by
      have hm' : m < C := by omega
      have m1 := mul_bd (w := 0) (Nat.le_of_lt hm') hC hw.1 hw.2
      have m2 := mul_bd (w := 0) (Nat.le_of_lt hn') hR hh.1 hh.2
      unfold law_sketchOf_L4
      simp only [hj, hj2]
      rw [Wk (n := (m : Int) * w) (by omega) (by omega), Wk (n := (n : Int) * h) (by omega) (by omega), Wk (n := L + (m : Int) * w) (by omega) (by omega), Wk (n := T + (n : Int) * h) (by omega) (by omega), sk_sign hc hr hL hT hw hh (by omega) (by omega), Option.bind_some, ht, need_of (by simp; omega), bnd_eq]
      refine ⟨_, rfl, ?_⟩
      rw [List.range_succ, List.map_append]
      simp)
    have e2 : ((C : Int)).toNat = C := by omega
    rw [e2] at t2
    rw [t1, Option.bind_some, t2, need_of (by simp; omega), bnd_eq]
    refine ⟨_, rfl, ?_⟩
    rw [rowsB_snoc, hs]
    simp)
  have en : ((R : Int)).toNat = R := by omega
  rw [en] at s2
  rw [s1, s2]
end
end Go.DB
