/-
  TopLayersAreLeast: a drawing's rows are ranks whose total is the least.
-/
import Derived.Test.YtbahnfkccdlpnaaTLaPuDraws7
import Derived.Test.YtbahnfkccdlpnaaTLaPuRanks6
set_option linter.unusedSimpArgs false
set_option linter.unusedVariables false
namespace Go.DB
open Go Go.RowKit

theorem OKl.graph {n : Nat} {l : List Link} (hn : 1 ≤ n ∧ n ≤ 60) (h : OKl n l) : graphErr (n : Int) l = 0 := by
  have hl := h.1
  unfold graphErr
  rw [if_neg (by omega), if_neg (by omega), firstErr_zero]
  intro e he
  obtain ⟨x, hx, rfl⟩ := List.mem_map.1 he
  obtain ⟨j, hj, rfl⟩ := mem_gx hx
  obtain ⟨a, b, d⟩ := h.2 j hj
  unfold linkErr
  rw [if_neg (by omega), if_neg d]
/-- The law's own straightening. -/
theorem straight_top {l : List Link} {t : List Int} {e : Int} (hl : l.length ≤ 200) (ht : t.length ≤ 200) (hr : ∀ j ∈ t, inR l j) : ∃ m, rfor (t.length : Int) (top_TopLayersAreLeast_L1 l (t, e)) l = some m ∧ m.length = l.length ∧ ∀ j, inR l j → gx m j = if j ∈ t then flip (gx l j) else gx l j := by
  obtain ⟨m, h1, h2, h3⟩ := rfor_inv (n := (t.length : Int)) (step := top_TopLayersAreLeast_L1 l (t, e)) (s0 := l) (fun i m => m.length = l.length ∧ ∀ j, inR l j → gx m j = if j ∈ t.take i then flip (gx l j) else gx l j) (by omega) ⟨rfl, fun j hj => by simp⟩ (fun i m hi hI => by
    have hi' : i < t.length := by omega
    obtain ⟨h2, h3⟩ := hI
    have htr := hr _ (List.getElem_mem hi')
    have hmr : inR m t[i] := ⟨htr.1, by rw [h2]; exact htr.2⟩
    unfold top_TopLayersAreLeast_L1
    simp only
    rw [need_of ⟨by omega, hi⟩, gx_nat hi']
    simp only [bnd_eq]
    rw [need_of htr, need_of htr, need_of hmr]
    refine ⟨_, rfl, by simp [h2], fun j hj => ?_⟩
    rw [List.take_succ_eq_append_getElem hi']
    have hg : gx (m.set (t[i]).toNat (flip (gx l t[i]))) j = if j = t[i] then flip (gx l t[i]) else gx m j := by
      unfold gx
      rw [List.getElem?_set]
      have := hj.1; have := htr.1; have := hmr.2
      by_cases h : j = t[i]
      · rw [h]
        have : (t[i]).toNat < m.length := by omega
        simp [this]
      · have : ¬ (t[i]).toNat = j.toNat := by omega
        simp [this, h]
    show gx (m.set (t[i]).toNat (flip (gx l t[i]))) j = _
    rw [hg, h3 j hj]
    have hm : j ∈ t.take i ++ [t[i]] ↔ j ∈ t.take i ∨ j = t[i] := by simp only [List.mem_append, List.mem_singleton]
    by_cases h : j = t[i]
    · rw [if_pos h, if_pos (hm.2 (.inr h)), h]
    · rw [if_neg h]
      by_cases h7 : j ∈ t.take i
      · rw [if_pos h7, if_pos (hm.2 (.inl h7))]
      · rw [if_neg h7, if_neg (fun h8 => (hm.1 h8).elim h7 h)])
  rw [h1]
  exact ⟨m, rfl, h2, fun j hj => by rw [h3 j hj]; simp⟩

section
variable {n : Nat} {sizes : List Point} {l m : List Link} {t c r f : List Int} {gapx gapy R : Int} {out : List Point}

theorem DrawAll.straight_top (h : DrawAll n sizes l m t c r f gapx gapy R out) : rfor (t.length : Int) (top_TopLayersAreLeast_L1 l (t, 0)) l = some m := by
  have hl : l.length ≤ 200 := by have := h.okl.1; have := h.mlen; omega
  obtain ⟨m', k1, k2, k3⟩ := Go.DB.straight_top (e := 0) hl h.tlen h.tin
  rw [k1]
  congr 1
  have hml := h.mlen
  refine List.ext_getElem (by omega) (fun j h1 h2 => ?_)
  have hj : inR l (j : Int) := ⟨by omega, by omega⟩
  rw [← gx_nat, ← gx_nat, k3 _ hj, h.mgx _ hj]
theorem map_top (hl : out.length ≤ 1000) : rfor (out.length : Int) (top_TopLayersAreLeast_L2 (out, 0)) ([] : List Int) = some (out.map (fun p => p.Y)) := by
  obtain ⟨s, s1, s2⟩ := rfor_inv (n := (out.length : Int)) (step := top_TopLayersAreLeast_L2 (out, 0)) (s0 := ([] : List Int)) (fun i s => s = (out.take i).map (fun p => p.Y)) (by omega) rfl (fun i s hi hI => by
    subst hI
    have hi' : i < out.length := by omega
    unfold top_TopLayersAreLeast_L2
    rw [need_of ⟨by omega, hi⟩, bnd_eq, need_of (by rw [room_iff]; simp; omega)]
    refine ⟨_, rfl, ?_⟩
    rw [List.take_succ_eq_append_getElem hi', List.map_append, gx_nat hi']; rfl)
  rw [s1, s2]; simp
theorem ranks_top (h : DrawIn n sizes m r gapx gapy) (hd : Drawn n sizes r gapx gapy R out) : rfor (out.length : Int) (top_TopLayersAreLeast_L3 (out, 0) (tabI (R + 1).toNat (yF sizes r n gapy))) (List.replicate (n : Int).toNat (0 : Int)) = some r := by
  have hlen := hd.len
  have hn := h.n1
  have hR := hd.top
  obtain ⟨s, s1, s2, s3⟩ := rfor_inv (n := (out.length : Int)) (step := top_TopLayersAreLeast_L3 (out, 0) (tabI (R + 1).toNat (yF sizes r n gapy))) (s0 := List.replicate (n : Int).toNat (0 : Int))
    (fun i s => s.length = n ∧ (∀ k : Int, 0 ≤ k → k < i → gx s k = gx r k)) (by omega) ⟨by simp, fun k k0 k1 => by omega⟩ (fun i s hi hI => by
    obtain ⟨i1, i2⟩ := hI
    have hi' : (i : Int) < n := by omega
    have hin : inR s (i : Int) := ⟨by omega, by omega⟩
    have hb := h.rB (i : Int) (by omega) hi'
    have hm := hR.2.2 (i : Int) (by omega) hi'
    unfold top_TopLayersAreLeast_L3
    simp only
    rw [need_of ⟨by omega, hi⟩, bnd_eq, hd.at_ (i : Int) (by omega) hi', idx_tab (fun a b hab hb2 => yF_lt h hd.full hab (by omega)) (by omega) (by omega), Option.bind_some, need_of hin]
    refine ⟨_, rfl, by simp [i1], fun k k0 k1 => ?_⟩
    rw [gx_setJ hin k0]
    by_cases c : k = (i : Int)
    · rw [if_pos c, c]; omega
    · rw [if_neg c]; exact i2 k k0 (by push_cast at k1; omega))
  rw [s1]
  have hrl := h.rlen
  exact congrArg some (List.ext_getElem (by omega) (fun j h1 h2 => by
    have := s3 (j : Int) (by omega) (by simp; omega)
    rw [gx_nat h1, gx_nat h2] at this
    exact this))
/-- No link goes upwards. -/
theorem down_top (h : DrawIn n sizes m r gapx gapy) (hd : Drawn n sizes r gapx gapy R out) : rforE (m.length : Int) (top_TopLayersAreLeast_L4 (out, 0) m gapy sizes) (fun s => (Res.nx s : Res Unit Bool)) () = some (Res.nx ()) := by
  have hlen := hd.len
  have hn := h.n1
  have hR := hd.top
  have hsl := h.slen
  have hml := h.ok.1
  obtain ⟨u, u1, u2⟩ := rforE_inv (n := (m.length : Int)) (step := top_TopLayersAreLeast_L4 (out, 0) m gapy sizes) (fin := fun s => (Res.nx s : Res Unit Bool)) (s0 := ()) (fun _ _ => True) (fun e => e = Res.nx ()) (by omega) trivial (fun i v hi _ => by
    left
    have hin : inR m (i : Int) := ⟨by omega, hi⟩
    obtain ⟨a, b, d⟩ := h.ok.2 _ hin
    have hk := h.kept _ hin
    have ha := h.rB _ a.1 a.2
    have hb := h.rB _ b.1 b.2
    have hbm := hR.2.2 _ b.1 b.2
    have ham := hR.2.2 _ a.1 a.2
    unfold top_TopLayersAreLeast_L4
    simp only
    rw [need_of hin, bnd_eq, need_of ⟨b.1, by omega⟩, need_of ⟨a.1, by omega⟩, need_of ⟨a.1, by omega⟩, hd.at_ _ b.1 b.2, hd.at_ _ a.1 a.2]
    have y1 := yF_bd h hd.full (b := (gx r (gx m (i : Int)).From).toNat) (by omega)
    have y2 := yF_mono h hd.full (a := (gx r (gx m (i : Int)).From).toNat) (b := (gx r (gx m (i : Int)).To).toNat) (by omega) (by omega)
    have hs := (h.sB _ a.1 a.2).2
    have hg := h.gy1
    have hh := (hF_high sizes (rowF r n (gx r (gx m (i : Int)).From))).2.1 _ (mem_rowF.2 ⟨a, rfl⟩)
    rw [Int.toNat_of_nonneg ha.1] at y2
    have hno : decide (yF sizes r n gapy (gx r (gx m (i : Int)).To).toNat < W (W (yF sizes r n gapy (gx r (gx m (i : Int)).From).toNat + (gx sizes (gx m (i : Int)).From).Y) + gapy)) = false := by
      refine decide_eq_false ?_
      rw [Wk (n := yF sizes r n gapy (gx r (gx m (i : Int)).From).toNat + (gx sizes (gx m (i : Int)).From).Y) (by omega) (by omega), Wk (by omega) (by omega)]
      omega
    rw [hno, cond_false]
    exact ⟨_, rfl, trivial⟩) (fun v _ => by cases v; rfl)
  rw [u1, u2]
theorem ranks_again (h : DrawAll n sizes l m t c r f gapx gapy R out) : layer_Ranks (n : Int) m = some (r, 0) := by
  have hn := h.din.n1
  obtain ⟨T, hT⟩ := h.fall
  obtain ⟨o, T2, q1, q2, q3, q4, q5⟩ := turned_eq hn h.okl
  have ho : o = [] := q5 T hT
  subst ho
  unfold layer_Ranks
  rw [layer_Check_eq, h.okl.graph hn, q1, h.ranks]
  simp [sortI]
end

theorem TopLayersAreLeast_true (sizes : List Point) (l : List Link) (gapx gapy : Int) (other : List Int) : top_TopLayersAreLeast sizes l gapx gapy other = some true := by
  unfold top_TopLayersAreLeast
  rw [bnd_eq, Draw_err]
  by_cases h : drawErr sizes l gapx gapy = 0
  · rw [if_pos h]
    obtain ⟨out, m, t, c, r, f, R, h1, h2⟩ := Draw_ok h
    obtain ⟨hz, hg, _⟩ := drawErr_zero h
    have hn := h2.din.n1
    have hd := h2.drawn
    have hlen := hd.len
    have hml := h2.mlen
    have hm2 := h2.okl.1
    have hT : layer_Turned (sizes.length : Int) l = some (t, 0) := by
      unfold layer_Turned
      rw [layer_Check_eq, hg, h2.turned]; rfl
    obtain ⟨a, b, y1, y2, y3⟩ := ys_some h2.din hd
    have hgm := h2.okl.graph hn
    rw [h1]
    simp only [Option.bind_some, decide_true, Bool.not_true, Bool.false_or]
    rw [decide_eq_false (p := (sizes.length : Int) = 0) (by omega), cond_false, hT]
    simp only [Option.bind_some, decide_true, Bool.not_true, Bool.false_or]
    rw [decide_eq_true (p := (out.length : Int) = (sizes.length : Int)) (by omega), Bool.not_true, cond_false, Clone_Link_eq (by omega), Option.bind_some, h2.straight_top, Option.bind_some, map_top (by omega), Option.bind_some, y1, Option.bind_some, y2, Option.bind_some, y3, Option.bind_some,
      need_of ⟨by omega, by omega, by omega⟩, bnd_eq, ranks_top h2.din hd, Option.bind_some, down_top h2.din hd, bindR_nx, Total_eq, Total_eq, Option.bind_some, Option.bind_some, ranks_again h2, Option.bind_some, Total_eq, Option.bind_some, total_ranks hgm h2.okl h2.rok]
    have hl := total_least hgm h2.okl h2.rok other
    congr 1
    simp only [decide_true, Bool.and_self, Bool.true_and]
    rcases hl with e | e
    · rw [decide_eq_false e]; rfl
    · rw [decide_eq_true e, Bool.or_true]
  · rw [if_neg h]
    simp [h]
end Go.DB
