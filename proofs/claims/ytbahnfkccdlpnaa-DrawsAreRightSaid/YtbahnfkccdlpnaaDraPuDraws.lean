/-
  DrawsAreRight: drawings in layers.
-/
import Derived.Test.YtbahnfkccdlpnaaDraPuDraws7
import Derived.Test.YtbahnfkccdlpnaaDraPuRanks5
set_option linter.unusedSimpArgs false
set_option linter.unusedVariables false
namespace Go.DB
open Go Go.RowKit

theorem DrawError_1_eq (p : Point) : ref_DrawError_1 p = some (sizeOut p) := by
  unfold ref_DrawError_1 sizeOut
  rw [In_eq, In_eq, Option.bind_some]
  cases decide (1 ≤ p.X ∧ p.X ≤ 1000) <;> cases decide (1 ≤ p.Y ∧ p.Y ≤ 1000) <;> rfl
theorem DrawError_eq (sizes : List Point) (l : List Link) (gapx gapy : Int) : ref_DrawError sizes l gapx gapy = some (drawErr sizes l gapx gapy) := by
  unfold ref_DrawError drawErr
  by_cases c : sizes.length = 0
  · rw [if_pos c, decide_eq_true (p := (sizes.length : Int) = 0) (by omega), cond_true]
  · rw [if_neg c, decide_eq_false (p := (sizes.length : Int) = 0) (by omega), cond_false, GraphError_eq, Option.bind_some]
    by_cases d : graphErr (sizes.length : Int) l = 0
    · obtain ⟨_, n2, _, _⟩ := graphErr_zero d
      rw [if_pos d, decide_eq_true d, Bool.not_true, cond_false, ContainsFunc_Point_eq sizes ref_DrawError_1 sizeOut (by omega) (fun x _ => DrawError_1_eq x), Option.bind_some, In_eq, In_eq]
      unfold gapOut
      cases sizes.any sizeOut <;> cases decide (0 ≤ gapx ∧ gapx ≤ 1000) <;> cases decide (0 ≤ gapy ∧ gapy ≤ 1000) <;> rfl
    · rw [if_neg d, decide_eq_false d]; rfl

section
variable {n : Nat} {sizes : List Point} {l m : List Link} {t c r f : List Int} {gapx gapy R : Int} {out : List Point}

theorem map_loop (hl : out.length ≤ 1000) : rfor (out.length : Int) (ref_IsDrawn_L1 out) ([] : List Int) = some (out.map (fun p => p.Y)) := by
  obtain ⟨s, s1, s2⟩ := rfor_inv (n := (out.length : Int)) (step := ref_IsDrawn_L1 out) (s0 := ([] : List Int)) (fun i s => s = (out.take i).map (fun p => p.Y)) (by omega) rfl (fun i s hi hI => by
    subst hI
    have hi' : i < out.length := by omega
    unfold ref_IsDrawn_L1
    rw [need_of ⟨by omega, hi⟩, bnd_eq, need_of (by rw [room_iff]; simp; omega)]
    refine ⟨_, rfl, ?_⟩
    rw [List.take_succ_eq_append_getElem hi', List.map_append, gx_nat hi']; rfl)
  rw [s1, s2]; simp
theorem ranks_loop (h : DrawIn n sizes m r gapx gapy) (hd : Drawn n sizes r gapx gapy R out) : rfor (out.length : Int) (ref_IsDrawn_L2 out (tabI (R + 1).toNat (yF sizes r n gapy))) ((gx out 0).X, List.replicate (n : Int).toNat (0 : Int)) = some (0, r) := by
  have hlen := hd.len
  have hn := h.n1
  have hR := hd.top
  obtain ⟨s, s1, s2, s3, s4, s5⟩ := rfor_inv (n := (out.length : Int)) (step := ref_IsDrawn_L2 out (tabI (R + 1).toNat (yF sizes r n gapy))) (s0 := ((gx out 0).X, List.replicate (n : Int).toNat (0 : Int)))
    (fun i s => s.2.length = n ∧ (∀ k : Int, 0 ≤ k → k < i → gx s.2 k = gx r k) ∧ (∀ k : Int, 0 ≤ k → k < i → s.1 ≤ (gx out k).X) ∧ ∃ k : Int, 0 ≤ k ∧ k < n ∧ s.1 = (gx out k).X) (by omega) ⟨by simp, fun k k0 k1 => by omega, fun k k0 k1 => by omega, 0, by omega, by omega, rfl⟩ (fun i s hi hI => by
    obtain ⟨i1, i2, i3, i4⟩ := hI
    have hi' : (i : Int) < n := by omega
    have hin : inR s.2 (i : Int) := ⟨by omega, by omega⟩
    have hb := h.rB (i : Int) (by omega) hi'
    have hm := hR.2.2 (i : Int) (by omega) hi'
    unfold ref_IsDrawn_L2
    rw [need_of ⟨by omega, hi⟩, bnd_eq, hd.at_ (i : Int) (by omega) hi', idx_tab (fun a b hab hb2 => yF_lt h hd.full hab (by omega)) (by omega) (by omega), Option.bind_some, need_of hin, bnd_eq, bnd_eq]
    refine ⟨_, rfl, by simp [i1], fun k k0 k1 => ?_, fun k k0 k1 => ?_, ?_⟩
    · simp only
      rw [gx_setJ hin k0]
      by_cases c : k = (i : Int)
      · rw [if_pos c, c]; omega
      · rw [if_neg c]; exact i2 k k0 (by push_cast at k1; omega)
    · simp only
      by_cases c : k = (i : Int)
      · rw [c]; omega
      · have := i3 k k0 (by push_cast at k1; omega); omega
    · simp only
      obtain ⟨k, k0, k1, k2⟩ := i4
      rcases Int.lt_or_le (gx out (i : Int)).X s.1 with c | c
      · exact ⟨i, by omega, hi', by omega⟩
      · exact ⟨k, k0, k1, by omega⟩)
  rw [s1]
  obtain ⟨a, b⟩ := s
  simp only [Int.toNat_natCast] at s2 s3 s4 s5
  obtain ⟨k, k0, k1, k2⟩ := s5
  obtain ⟨z, z0, z1, z2⟩ := hd.zero
  have e1 := s4 z z0 (by omega)
  have e2 := (hd.xB k k0 k1).1
  have ea : a = 0 := by omega
  have hrl := h.rlen
  have eb : b = r := List.ext_getElem (by omega) (fun j h1 h2 => by
    have := s3 (j : Int) (by omega) (by omega)
    rw [gx_nat h1, gx_nat h2] at this
    exact this)
  rw [ea, eb]
theorem rows_loop (h : DrawIn n sizes m r gapx gapy) (hd : Drawn n sizes r gapx gapy R out) :
    ∃ s, rforE ((tabI (R + 1).toNat (yF sizes r n gapy)).length : Int) (ref_IsDrawn_L3 (n : Int) out (tabI (R + 1).toNat (yF sizes r n gapy)) (0, r) gapx gapy sizes) (fun s => (Res.nx s : Res Int Bool)) 0 = some (Res.nx s) := by
  have hlen := hd.len
  have hn := h.n1
  have hR := hd.top
  have hrl := h.rlen
  have hsl := h.slen
  have hgx := h.gx1
  have hgy := h.gy1
  obtain ⟨e, e1, e2⟩ := rforE_inv (n := ((tabI (R + 1).toNat (yF sizes r n gapy)).length : Int)) (step := ref_IsDrawn_L3 (n : Int) out (tabI (R + 1).toNat (yF sizes r n gapy)) (0, r) gapx gapy sizes) (fin := fun s => (Res.nx s : Res Int Bool)) (s0 := (0 : Int))
    (fun i s => s = yF sizes r n gapy i) (fun e => ∃ s, e = Res.nx s) (by rw [tabI_len]; omega) rfl (fun t s ht hI => by
    left
    rw [tabI_len] at ht
    have ht' : t < (R + 1).toNat := by omega
    subst hI
    unfold ref_IsDrawn_L3
    rw [need_of ⟨by omega, by rw [tabI_len]; exact ht⟩, gx_tabI ht', decide_eq_true rfl, Bool.not_true, cond_false]
    obtain ⟨q, q1, w, q2, q3⟩ := rforE_inv (n := (n : Int)) (step := ref_IsDrawn_L4 out (0, r) ((t : Int), yF sizes r n gapy t) gapx sizes) (fin := fun s => (Res.nx s : Res Int (Res Int (Res Int Bool)))) (s0 := (0 : Int))
      (fun i s => IsHigh sizes (fun k => (0 ≤ k ∧ k < (i : Int)) ∧ gx r k = (t : Int)) s) (fun e => ∃ s, e = Res.nx s ∧ IsHigh sizes (fun k => (0 ≤ k ∧ k < (n : Int)) ∧ gx r k = (t : Int)) s) (by omega) (.none (by omega)) (fun i s hi hI => by
        left
        have hs := h.sB (i : Int) (by omega) hi
        have hx := hd.xB (i : Int) (by omega) hi
        unfold ref_IsDrawn_L4
        simp only
        rw [need_of ⟨by omega, by omega⟩]
        by_cases c : gx r (i : Int) = (t : Int)
        · rw [decide_eq_true c, Bool.not_true, cond_false, need_of ⟨by omega, by omega⟩, bnd_eq]
          obtain ⟨u, u1, u2⟩ := rforE_inv (n := (i : Int)) (step := ref_IsDrawn_L5 out (0, r) ((t : Int), yF sizes r n gapy t) ((i : Int), s) gapx sizes) (fin := fun s => (Res.nx s : Res Unit (Res Int (Res Int (Res Int (Res Int Bool)))))) (s0 := ())
            (fun _ _ => True) (fun e => e = Res.nx ()) (by omega) trivial (fun j v hj _ => by
              left
              have hjn : (j : Int) < n := by omega
              have hs2 := h.sB (j : Int) (by omega) hjn
              have hx2 := hd.xB (j : Int) (by omega) hjn
              unfold ref_IsDrawn_L5
              simp only
              rw [need_of ⟨by omega, by omega⟩, need_of (fun _ => ⟨by omega, by omega⟩), need_of (fun _ => ⟨by omega, by omega⟩), need_of (fun _ => ⟨by omega, by omega⟩), need_of (fun _ => ⟨by omega, by omega⟩), need_of (fun _ => ⟨by omega, by omega⟩), need_of (fun _ => ⟨by omega, by omega⟩)]
              have hno : ((decide (gx r (j : Int) = (t : Int)) && decide ((gx out (i : Int)).X < W (W ((gx out (j : Int)).X + (gx sizes (j : Int)).X) + gapx))) && decide ((gx out (j : Int)).X < W (W ((gx out (i : Int)).X + (gx sizes (i : Int)).X) + gapx))) = false := by
                rw [← Bool.not_eq_true]
                simp only [Bool.and_eq_true, decide_eq_true_eq]
                rintro ⟨⟨p1, p2⟩, p3⟩
                rw [Wk (n := (gx out (j : Int)).X + (gx sizes (j : Int)).X) (by omega) (by omega), Wk (by omega) (by omega)] at p2
                rw [Wk (n := (gx out (i : Int)).X + (gx sizes (i : Int)).X) (by omega) (by omega), Wk (by omega) (by omega)] at p3
                have := hd.gap (i : Int) (j : Int) (by omega) hi (by omega) hjn (by omega) (by omega)
                omega
              rw [hno, cond_false]
              exact ⟨_, rfl, trivial⟩) (fun v _ => by cases v; rfl)
          rw [u1, u2, bindR_nx]
          refine ⟨_, rfl, (hI.step (k := (i : Int))).congr fun k => ?_⟩
          push_cast
          constructor
          · rintro (⟨k1, k2⟩ | rfl)
            · exact ⟨by omega, k2⟩
            · exact ⟨by omega, c⟩
          · rintro ⟨k1, k2⟩
            by_cases w : k = (i : Int)
            · exact .inr w
            · exact .inl ⟨by omega, k2⟩
        · rw [decide_eq_false c, Bool.not_false, cond_true]
          refine ⟨_, rfl, hI.congr fun k => ?_⟩
          push_cast
          constructor
          · rintro ⟨k1, k2⟩; exact ⟨by omega, k2⟩
          · rintro ⟨k1, k2⟩
            refine ⟨?_, k2⟩
            by_cases w : k = (i : Int)
            · subst w; exact absurd k2 c
            · omega) (fun s hs => ⟨s, rfl, by simpa using hs⟩)
    have hw : w = hF sizes (rowF r n (t : Int)) := q3.uni (hF_high sizes _) (fun k => mem_rowF.symm)
    have hp := hF_pos h (hd.full (t : Int) (by omega) (by omega))
    have hy := yF_bd h hd.full (b := t) (by omega)
    rw [q1, q2, bindR_nx, hw, Wk (n := hF sizes (rowF r n (t : Int)) + gapy) (by omega) (by omega), Wk (by omega) (by omega), bnd_eq]
    exact ⟨_, rfl, rfl⟩) (fun s _ => ⟨s, rfl⟩)
  obtain ⟨s, rfl⟩ := e2
  exact ⟨s, e1⟩
theorem DrawAll.straight (h : DrawAll n sizes l m t c r f gapx gapy R out) : ref_Straight l t = some m := by
  have hl : l.length ≤ 200 := by have := h.okl.1; have := h.mlen; omega
  obtain ⟨m', k1, k2, k3⟩ := Straight_eq hl h.tlen h.tnd h.tin
  rw [k1]
  congr 1
  have hml := h.mlen
  refine List.ext_getElem (by omega) (fun j h1 h2 => ?_)
  have hj : inR l (j : Int) := ⟨by omega, by omega⟩
  rw [← gx_nat, ← gx_nat, k3 _ hj, h.mgx _ hj]
theorem IsDrawn_eq (h : DrawAll n sizes l m t c r f gapx gapy R out) : ref_IsDrawn sizes l gapx gapy out = some true := by
  have hd := h.drawn
  have hn := h.din.n1
  have hlen := hd.len
  have hsl := h.din.slen
  obtain ⟨a, b, y1, y2, y3⟩ := ys_some h.din hd
  obtain ⟨s, hs⟩ := rows_loop h.din hd
  obtain ⟨c', p1, p2, p3⟩ := ref_pieces_eq hn h.okl
  have hcc : c' = c := p2.uni p3 h.lab h.con
  subst hcc
  unfold ref_IsDrawn
  rw [bnd_eq, hsl, decide_eq_true (p := (out.length : Int) = (n : Int)) (by omega), Bool.not_true, cond_false, map_loop (by omega), Option.bind_some, y1, Option.bind_some, y2, Option.bind_some, y3, Option.bind_some, need_of ⟨by omega, by omega, by omega⟩, bnd_eq,
    need_of ⟨by omega, by omega⟩, bnd_eq, ranks_loop h.din hd, Option.bind_some, hs, bindR_nx, TurnedOf_eq, h.turned, Option.bind_some, h.straight, Option.bind_some, decide_eq_true rfl, gd_true, AreRanks_eq hn h.okl p1 p2 h.rok, Option.bind_some, Bool.and_self, gd_true, AreLeast_eq hn h.okl h.rok]
  rfl
end

theorem DrawsAreRight_true (sizes : List Point) (l : List Link) (gapx gapy : Int) : law_DrawsAreRight sizes l gapx gapy = some true := by
  unfold law_DrawsAreRight
  rw [Draw_err, DrawError_eq, layers_eq]
  by_cases h : drawErr sizes l gapx gapy = 0
  · rw [if_pos h]
    obtain ⟨out, m, t, c, r, f, R, h1, h2⟩ := Draw_ok h
    rw [h1, h]
    simp only [Option.bind_some, Bool.not_true, decide_true, Bool.or_self, cond_false, gd_true, IsDrawn_eq h2, Bool.and_self]
  · rw [if_neg h]
    simp [h]
end Go.DB
