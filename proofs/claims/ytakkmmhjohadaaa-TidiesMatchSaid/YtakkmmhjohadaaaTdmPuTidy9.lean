/-
  The code draws a tree: Tidy in plain words.
-/
import Derived.Test.YtakkmmhjohadaaaTdmPuTidy8
set_option linter.unusedSimpArgs false
set_option linter.unusedVariables false
namespace Go.DB
open Go Go.RowKit

section
variable {t : List Branch} {m : Nat} {gap gapy : Int}

/-- What draw has left in the drawer. -/
structure Dn (t : List Branch) (m : Nat) (gap : Int) (d : Tree_drawer) : Prop where
  lx : d.x.length = t.length
  lm : d.moved.length = t.length
  x : ∀ q, ∀ v ∈ lev (kidsOf t) q, gx d.x v = PX t m gap v
  mv : ∀ q, ∀ k ∈ lev (kidsOf t) q, ∀ j : Nat, j < (kidsOf t k).length → gx d.moved (gx (kidsOf t k) (j : Int)) = gx (mov (kidsOf t) (wOf t) gap m k) (j : Int)

theorem draw_root (h : Dw t m gap) : ∃ d, tree_drawer_draw (⟨t, gap, List.replicate t.length 0, List.replicate t.length 0⟩ : Tree_drawer) 0 = some (SK t m gap 0, d) ∧ Dn t m gap d := by
  have h0 : (0 : Int) ∈ lev (kidsOf t) 0 := by simp [lev]
  have hm1 := h.ok.m1
  have hz : ∀ j : Int, 0 ≤ j → j < t.length → gx (List.replicate t.length (0 : Int)) j = 0 := fun j j0 j1 => by
    have hj' : j.toNat < t.length := by omega
    simp [gx, List.getElem?_replicate, hj']
  have hdr : DOK t gap (PX t m gap) (⟨t, gap, List.replicate t.length 0, List.replicate t.length 0⟩ : Tree_drawer) := ⟨rfl, rfl, by simp, by simp, fun j j0 j1 => .inl (hz j j0 j1)⟩
  have hd2 : DOK t gap (PX t m gap) (DS t m gap (sub (kidsOf t) 0) (ssub (kidsOf t) 0) (⟨t, gap, List.replicate t.length 0, List.replicate t.length 0⟩ : Tree_drawer)) := hdr.ds
  have he : ∀ q, levf (kidsOf t) [0] q = lev (kidsOf t) q := fun q => by
    have := levf_lev (kidsOf t) 0 q
    simpa [lev] using this
  have hsub : ∀ q, ∀ v ∈ lev (kidsOf t) q, sub (kidsOf t) 0 v := fun q v hv => ⟨q, by rw [he]; exact hv⟩
  refine ⟨_, fixp_of (m - 0) (fun n hn => draw_fix h (by omega) h0 _ hdr n hn), hd2.lx, hd2.lm, fun q v hv => ?_, fun q k hk j hj => ?_⟩
  · have hr := h.ok.fo.lev_in hv
    rw [ds_x hr.1 hr.2, if_pos (hsub q v hv)]
  · have hkr := h.ok.fo.lev_in hk
    have hc : gx (kidsOf t k) (j : Int) ∈ kidsOf t k := gx_mem ⟨by omega, by omega⟩
    have hcr := h.ok.fo.rng k hkr.1 hkr.2 _ hc
    have hs : ssub (kidsOf t) 0 (gx (kidsOf t k) (j : Int)) := by
      rcases sub_iff.1 (hsub (q + 1) _ (lev_kid hk hc)) with h1 | h1
      · omega
      · exact h1
    rw [ds_m (by omega) hcr.2, if_pos hs]
    exact h.ok.fo.mvd_eq (wOf t) gap m hkr.1 hkr.2 hj

def TI (t : List Branch) (m : Nat) (gap gapy : Int) (q : Nat) (s : Int × List Point × List Int) : Prop :=
  s.1 = Yq t gapy q ∧ s.2.1.length = t.length ∧ s.2.2.length = t.length ∧ (∀ p, p < q → ∀ v ∈ lev (kidsOf t) p, gx s.2.1 v = ⟨AX t m gap v, Yq t gapy p⟩) ∧ ∀ p, p ≤ q → ∀ v ∈ lev (kidsOf t) p, gx s.2.2 v = SH t m gap v
def TJ (t : List Branch) (m : Nat) (gap gapy : Int) (q a : Nat) (s : Int × List Point × List Int) : Prop :=
  s.1 = ((lev (kidsOf t) q).take a).foldl (fun s k => max s (gx t k).H) 0 ∧ s.2.1.length = t.length ∧ s.2.2.length = t.length ∧ (∀ p, p < q → ∀ v ∈ lev (kidsOf t) p, gx s.2.1 v = ⟨AX t m gap v, Yq t gapy p⟩) ∧
  (∀ v ∈ (lev (kidsOf t) q).take a, gx s.2.1 v = ⟨AX t m gap v, Yq t gapy q⟩) ∧ (∀ p, p ≤ q → ∀ v ∈ lev (kidsOf t) p, gx s.2.2 v = SH t m gap v) ∧ ∀ v ∈ (lev (kidsOf t) q).take a, ∀ c ∈ kidsOf t v, gx s.2.2 c = SH t m gap c

theorem SH_bd (h : Dw t m gap) {q : Nat} {v : Int} (hv : v ∈ lev (kidsOf t) q) : -4000000 ≤ SH t m gap v ∧ SH t m gap v ≤ 4000000 := by
  have hq : q < m := by
    rcases Nat.lt_or_ge q m with h5 | h5
    · exact h5
    · have := lev_nil h.ok.nil (q - m)
      rw [show m + (q - m) = q by omega] at this
      rw [this] at hv; cases hv
  have h1 := (AX_dr h).2 q v hv
  have h2 := px_bd h hq hv
  unfold AX at h1
  omega

theorem tidy_kids (h : Dw t m gap) {r1 : List Tst × Tree_drawer} (hd : Dn t m gap r1.2) {q : Nat} {k : Int} (hq : q < m) (hk : k ∈ lev (kidsOf t) q) {sh : List Int} (hl : sh.length = t.length) (hs : gx sh k = SH t m gap k) :
    ∃ sh', rfor ((kidsOf t k).length : Int) (tree_Tidy_L3 k r1 (kidsOf t k)) sh = some sh' ∧ sh'.length = t.length ∧ (∀ c ∈ kidsOf t k, gx sh' c = SH t m gap c) ∧ ∀ v : Int, 0 ≤ v → v < t.length → v ∉ kidsOf t k → gx sh' v = gx sh v := by
  have hkr := h.ok.fo.lev_in hk
  have hkl := h.ok.kidsR' hkr.1 hkr.2
  have hkk : k ∉ kidsOf t k := fun hc => by
    have := h.ok.fo.lev_one hk (lev_kid hk hc); omega
  obtain ⟨s, h1, h2, h3, h4⟩ := rfor_inv (n := ((kidsOf t k).length : Int)) (step := tree_Tidy_L3 k r1 (kidsOf t k)) (s0 := sh) (fun a s => s.length = t.length ∧ (∀ c ∈ (kidsOf t k).take a, gx s c = SH t m gap c) ∧ ∀ v : Int, 0 ≤ v → v < t.length → v ∉ (kidsOf t k).take a → gx s v = gx sh v) (by omega) ⟨hl, by simp, fun v _ _ _ => rfl⟩ (fun a s ha hI => by
    obtain ⟨i1, i2, i3⟩ := hI
    have ha' : a < (kidsOf t k).length := by omega
    have hin : inR (kidsOf t k) (a : Int) := ⟨by omega, ha⟩
    have hc := gx_mem hin
    have hc1 := lev_kid hk hc
    have hcr := h.ok.fo.lev_in hc1
    have hmv := hd.mv q k hk a ha'
    have hsk := SH_kid h hq hk ha'
    have b1 := SH_bd h hc1
    have hte : (kidsOf t k).take (a + 1) = (kidsOf t k).take a ++ [gx (kidsOf t k) (a : Int)] := by rw [List.take_add_one, gx_nat ha', List.getElem?_eq_getElem ha']; rfl
    have hks : gx s k = SH t m gap k := by rw [i3 k hkr.1 hkr.2 (fun hx => hkk (List.mem_of_mem_take hx)), hs]
    unfold tree_Tidy_L3
    rw [need_of hin]
    simp only [bnd_eq]
    rw [need_of ⟨hkr.1, by rw [i1]; exact hkr.2⟩, need_of ⟨hcr.1, by rw [hd.lm]; exact hcr.2⟩, need_of ⟨hcr.1, by rw [i1]; exact hcr.2⟩, hks, hmv, ← hsk, Wk (by omega) (by omega), hte]
    generalize gx (kidsOf t k) (a : Int) = c at *
    have hcs : inR s c := ⟨hcr.1, by rw [i1]; exact hcr.2⟩
    refine ⟨_, rfl, by rw [List.length_set]; exact i1, fun x hx => ?_, fun v v0 v1 hv => ?_⟩
    · have hxr : 0 ≤ x := by
        rcases List.mem_append.1 hx with hx | hx
        · have := h.ok.fo.rng k hkr.1 hkr.2 x (List.mem_of_mem_take hx); omega
        · simp at hx; omega
      rw [gx_setB hcs hxr]
      by_cases e : x = c
      · rw [if_pos e, e]
      · rw [if_neg e]
        rcases List.mem_append.1 hx with hx | hx
        · exact i2 x hx
        · simp at hx; exact absurd hx e
    · rw [gx_setB hcs v0, if_neg (fun e => hv (by rw [e]; simp))]
      exact i3 v v0 v1 (fun hx => hv (List.mem_append_left _ hx)))
  refine ⟨s, h1, h2, by simpa using h3, by simpa using h4⟩

theorem tidy_level (h : Dw t m gap) {r1 : List Tst × Tree_drawer} (hd : Dn t m gap r1.2) {q : Nat} (hq : q < m) {i0 : Int} {s : Int × List Point × List Int} (hs : TI t m gap gapy q s) :
    ∃ s', rfor ((lev (kidsOf t) q).length : Int) (tree_Tidy_L2 r1 t (lev (kidsOf t) q) (i0, s)) (0, s.2.1, s.2.2) = some s' ∧ TJ t m gap gapy q (lev (kidsOf t) q).length s' := by
  obtain ⟨s1, s2, s3, s4, s5⟩ := hs
  have hle := h.ok.fo.lev_le q
  have hln := h.ok.len
  obtain ⟨s', g1, g2⟩ := rfor_inv (n := ((lev (kidsOf t) q).length : Int)) (step := tree_Tidy_L2 r1 t (lev (kidsOf t) q) (i0, s)) (s0 := (0, s.2.1, s.2.2)) (fun a s' => TJ t m gap gapy q a s') (by omega)
    ⟨rfl, s2, s3, s4, by simp, s5, by simp⟩ (fun a z ha hI => by
    obtain ⟨z1, z2, z3, z4, z5, z6, z7⟩ := hI
    obtain ⟨hh, out, shf⟩ := z
    simp only at z1 z2 z3 z4 z5 z6 z7
    have ha' : a < (lev (kidsOf t) q).length := by omega
    have hin : inR (lev (kidsOf t) q) (a : Int) := ⟨by omega, ha⟩
    have hk := gx_mem hin
    have hkr := h.ok.fo.lev_in hk
    have hte : (lev (kidsOf t) q).take (a + 1) = (lev (kidsOf t) q).take a ++ [gx (lev (kidsOf t) q) (a : Int)] := by rw [List.take_add_one, gx_nat ha', List.getElem?_eq_getElem ha']; rfl
    have hx := hd.x q _ hk
    have hsh := z6 q (Nat.le_refl _) _ hk
    have hax := (AX_dr h).2 q _ hk
    obtain ⟨sh', k1, k2, k3, k4⟩ := tidy_kids h hd hq hk z3 hsh
    unfold tree_Tidy_L2
    simp only
    rw [need_of hin]
    simp only [bnd_eq]
    unfold TJ
    rw [hte]
    generalize gx (lev (kidsOf t) q) (a : Int) = k at *
    have hkn : ∀ p, p ≤ q → ∀ v ∈ lev (kidsOf t) p, v ∉ kidsOf t k := fun p hp v hv hc => by
      have := h.ok.fo.lev_one hv (lev_kid hk hc); omega
    have e1 : (⟨W (gx r1.2.x k + gx shf k), s.1⟩ : Point) = ⟨AX t m gap k, Yq t gapy q⟩ := by
      unfold AX at hax
      rw [hx, hsh, Wk (by omega) (by omega), s1]; rfl
    have hok : inR out k := ⟨hkr.1, by rw [z2]; exact hkr.2⟩
    have htk : inR t k := ⟨hkr.1, hkr.2⟩
    rw [need_of ⟨hkr.1, by rw [hd.lx]; exact hkr.2⟩, need_of ⟨hkr.1, by rw [z3]; exact hkr.2⟩, e1, need_of hok, need_of htk, need_of htk]
    have e0 : (gx t k).Kids = kidsOf t k := rfl
    simp only [e0]
    rw [k1]
    refine ⟨_, rfl, ?_, by simp only; rw [List.length_set]; exact z2, k2, fun p hp v hv => ?_, fun v hv => ?_, fun p hp v hv => ?_, fun v hv c hc => ?_⟩
    · simp only [List.foldl_append, List.foldl_cons, List.foldl_nil, z1]
    · have hvr := h.ok.fo.lev_in hv
      simp only
      rw [gx_setB hok hvr.1, if_neg (fun e => by subst e; have := h.ok.fo.lev_one hv hk; omega)]
      exact z4 p hp v hv
    · have hvq : v ∈ lev (kidsOf t) q := by
        rcases List.mem_append.1 hv with hv | hv
        · exact List.mem_of_mem_take hv
        · simp at hv; subst hv; exact hk
      have hvr := h.ok.fo.lev_in hvq
      simp only
      rw [gx_setB hok hvr.1]
      by_cases e : v = k
      · rw [if_pos e, e]
      · rw [if_neg e]
        rcases List.mem_append.1 hv with hv | hv
        · exact z5 v hv
        · simp at hv; exact absurd hv e
    · have hvr := h.ok.fo.lev_in hv
      simp only
      rw [k4 v hvr.1 hvr.2 (hkn p hp v hv)]; exact z6 p hp v hv
    · simp only
      by_cases hck : c ∈ kidsOf t k
      · exact k3 c hck
      · rcases List.mem_append.1 hv with hv | hv
        · have hvr := h.ok.fo.lev_in (List.mem_of_mem_take hv)
          have hcr := h.ok.fo.rng v hvr.1 hvr.2 c hc
          rw [k4 c (by omega) hcr.2 hck]; exact z7 v hv c hc
        · simp at hv; subst hv; exact absurd hc hck)
  exact ⟨s', g1, by simpa using g2⟩

theorem tidy_levels (h : Dw t m gap) (g0 : 0 ≤ gapy) (g1 : gapy ≤ 1000) {r1 : List Tst × Tree_drawer} (hd : Dn t m gap r1.2) :
    ∃ s, rfor (((List.range m).map (lev (kidsOf t))).length : Int) (tree_Tidy_L1 r1 ((List.range m).map (lev (kidsOf t))) t gapy) (0, List.replicate t.length (⟨0, 0⟩ : Point), List.replicate t.length 0) = some s ∧ TI t m gap gapy m s := by
  have hm2 := h.ok.m2
  have hln := h.ok.len
  obtain ⟨s, k1, k2⟩ := rfor_inv (n := (((List.range m).map (lev (kidsOf t))).length : Int)) (step := tree_Tidy_L1 r1 ((List.range m).map (lev (kidsOf t))) t gapy) (s0 := (0, List.replicate t.length (⟨0, 0⟩ : Point), List.replicate t.length 0)) (fun q s => TI t m gap gapy q s) (by simp; omega)
    ⟨rfl, by simp, by simp, fun p hp => by omega, fun p hp v hv => by
      have : p = 0 := by omega
      subst this
      simp [lev] at hv; subst hv
      rw [SH_root]
      have := h.ok.pos
      simp [gx, List.getElem?_replicate, this]⟩ (fun q s hq hI => by
    have hq' : q < m := by simp at hq; omega
    have e : gx ((List.range m).map (lev (kidsOf t))) (q : Int) = lev (kidsOf t) q := by rw [gx_nat (by simpa using hq')]; simp
    obtain ⟨s', a1, b1, b2, b3, b4, b5, b6, b7⟩ := tidy_level (gapy := gapy) h hd hq' (i0 := (q : Int)) hI
    obtain ⟨i1, i2, i3, i4, i5⟩ := hI
    unfold tree_Tidy_L1
    rw [need_of ⟨by omega, hq⟩, e]
    simp only [bnd_eq]
    rw [a1]
    simp only [bind_sm]
    have y0 := Yq_bd h.ok g0 g1 q
    have y1 := Yq_bd h.ok g0 g1 (q + 1)
    have ye : Yq t gapy (q + 1) = Yq t gapy q + (hiq t (lev (kidsOf t) q) + gapy) := rfl
    rw [List.take_length] at b1 b5 b7
    have hh : s'.1 = hiq t (lev (kidsOf t) q) := b1
    rw [hh, i1, Wk (n := hiq t (lev (kidsOf t) q) + gapy) (by omega) (by omega), Wk (by omega) (by omega)]
    refine ⟨_, rfl, ye.symm, b2, b3, fun p hp v hv => ?_, fun p hp v hv => ?_⟩
    · rcases Nat.lt_or_eq_of_le (Nat.lt_succ_iff.1 hp) with hp | hp
      · exact b4 p hp v hv
      · subst hp; exact b5 v hv
    · rcases Nat.lt_or_eq_of_le hp with hp | hp
      · exact b6 p (by omega) v hv
      · subst hp
        obtain ⟨k, hk, hkv⟩ := List.mem_flatMap.1 hv
        exact b7 k hk v hkv)
  exact ⟨s, k1, by simpa using k2⟩
end

end Go.DB
