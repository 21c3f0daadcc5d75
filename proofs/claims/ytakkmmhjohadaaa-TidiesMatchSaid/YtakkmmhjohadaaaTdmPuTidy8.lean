/-
  The code draws a tree: where all nodes are put.
-/
import Derived.Test.YtakkmmhjohadaaaTdmPuTidy7
set_option linter.unusedSimpArgs false
set_option linter.unusedVariables false
namespace Go.DB
open Go Go.RowKit

/-! How far a branch's drawing is moved in all. -/

noncomputable def par (kd : Int → List Int) (n : Nat) (v : Int) : Int :=
  open Classical in if h : ∃ k : Int, 0 ≤ k ∧ k < n ∧ v ∈ kd k then h.choose else 0
theorem Fo.par_eq {n : Nat} {kd : Int → List Int} (h : Fo n kd) {k v : Int} (h0 : 0 ≤ k) (h1 : k < n) (hv : v ∈ kd k) : par kd n v = k := by
  have hx : ∃ k : Int, 0 ≤ k ∧ k < n ∧ v ∈ kd k := ⟨k, h0, h1, hv⟩
  unfold par
  rw [dif_pos hx]
  obtain ⟨a1, a2, a3⟩ := hx.choose_spec
  by_cases e : hx.choose = k
  · exact e
  · exact absurd hv (h.two _ k a1 a2 h0 h1 e v a3)
noncomputable def shd (kd : Int → List Int) (n : Nat) (mv : Int → Int) : Nat → Int → Int
  | 0, _ => 0
  | d + 1, v => if v = 0 then 0 else shd kd n mv d (par kd n v) + mv v
theorem Fo.shd_more {n : Nat} {kd : Int → List Int} (h : Fo n kd) (mv : Int → Int) : ∀ (q : Nat) (v : Int), v ∈ lev kd q → ∀ d, q ≤ d → shd kd n mv d v = shd kd n mv q v
  | 0, v, hv, d, _ => by
    have : v = 0 := by simpa [lev] using hv
    subst this
    cases d <;> simp [shd]
  | q + 1, v, hv, d, hd => by
    obtain ⟨k, hk, hkv⟩ := List.mem_flatMap.1 hv
    have hr := h.lev_in hk
    have hv1 := h.rng k hr.1 hr.2 v hkv
    obtain ⟨d, rfl⟩ : ∃ e, d = e + 1 := ⟨d - 1, by omega⟩
    have hp := h.par_eq hr.1 hr.2 hkv
    have hne : ¬ v = 0 := by omega
    simp only [shd, if_neg hne, hp]
    rw [h.shd_more mv q k hk d (by omega)]

section
variable {t : List Branch} {m : Nat} {gap : Int}
noncomputable def SH (t : List Branch) (m : Nat) (gap : Int) (v : Int) : Int := shd (kidsOf t) t.length (MV t m gap) m v
theorem SH_root (t : List Branch) (m : Nat) (gap : Int) : SH t m gap 0 = 0 := by unfold SH; cases m <;> simp [shd]
theorem SH_kid (h : Dw t m gap) {q : Nat} {k : Int} (hq : q < m) (hk : k ∈ lev (kidsOf t) q) {j : Nat} (hj : j < (kidsOf t k).length) :
    SH t m gap (gx (kidsOf t k) (j : Int)) = SH t m gap k + gx (mov (kidsOf t) (wOf t) gap m k) (j : Int) := by
  have hr := h.ok.fo.lev_in hk
  have hc : gx (kidsOf t k) (j : Int) ∈ kidsOf t k := gx_mem ⟨by omega, by omega⟩
  have hc1 := lev_kid hk hc
  have hv1 := h.ok.fo.rng k hr.1 hr.2 _ hc
  have hm := h.ok.fo.mvd_eq (wOf t) gap m hr.1 hr.2 hj
  have hp := h.ok.fo.par_eq hr.1 hr.2 hc
  unfold SH
  rw [h.ok.fo.shd_more (MV t m gap) (q + 1) _ hc1 m (by omega), h.ok.fo.shd_more (MV t m gap) q k hk m (by omega)]
  have hne : ¬ gx (kidsOf t k) (j : Int) = 0 := by omega
  simp only [shd, if_neg hne, hp]
  rw [← hm]
theorem SH_sh (h : Dw t m gap) : Sh (kidsOf t) (wOf t) gap m (SH t m gap) where
  kid i k hk j hj := by
    have him : i < m := by
      rcases Nat.lt_or_ge i m with h5 | h5
      · exact h5
      · have := lev_nil h.ok.nil (i - m)
        rw [show m + (i - m) = i by omega] at this
        rw [this] at hk; cases hk
    have := SH_kid h him hk hj
    rw [gx_nat hj] at this
    have hl : j < (mov (kidsOf t) (wOf t) gap m k).length := by unfold mov; rw [run_len]; simpa using hj
    rw [gx_nat hl] at this
    exact this

/-- Where a node lies, from the left: not moved yet. -/
noncomputable def AX (t : List Branch) (m : Nat) (gap : Int) (v : Int) : Int := PX t m gap v + SH t m gap v
theorem AX_dr (h : Dw t m gap) : (∀ q, (lev (kidsOf t) q).Pairwise (fun a b => AX t m gap a + wOf t a + gap ≤ AX t m gap b)) ∧ ∀ q, ∀ v ∈ lev (kidsOf t) q, -2000000 ≤ AX t m gap v ∧ AX t m gap v ≤ 2000000 := by
  have h0 : (0 : Int) ∈ lev (kidsOf t) 0 := by simp [lev]
  obtain ⟨lo, hi, hd, hb⟩ := h.ok.fo.dr h.ok.nil h.ok.w' h.g0 h.g1 (SH_sh h) (i := 0) (by have := h.ok.m1; omega) h0
  have hcn := h.ok.fo.cn_le h.ok.nil (i := 0) (by have := h.ok.m1; omega) h0
  have hl := h.ok.len
  have he : ∀ q, levf (kidsOf t) [0] q = lev (kidsOf t) q := fun q => by
    have := levf_lev (kidsOf t) 0 q
    simpa [lev] using this
  have hf : (fun v => px (kidsOf t) (wOf t) gap m v + SH t m gap v - SH t m gap 0) = AX t m gap := by
    funext v; rw [SH_root]; unfold AX PX; omega
  rw [hf] at hd
  refine ⟨fun q => by have := hd.ord q; rw [he] at this; exact this, fun q v hv => ?_⟩
  have := hd.bd q v (by rw [he]; exact hv)
  have l0 := hd.l0
  have hh := hd.h0
  have hw := (h.ok.w' v).1
  omega

/-- Where a level begins. -/
def hiq (t : List Branch) (l : List Int) : Int := l.foldl (fun s k => max s (gx t k).H) 0
def Yq (t : List Branch) (gapy : Int) : Nat → Int
  | 0 => 0
  | q + 1 => Yq t gapy q + (hiq t (lev (kidsOf t) q) + gapy)
theorem hiq_spec (t : List Branch) : ∀ (l : List Int) (s : Int), (l.foldl (fun s k => max s (gx t k).H) s) ≥ s ∧ (∀ k ∈ l, (gx t k).H ≤ l.foldl (fun s k => max s (gx t k).H) s) ∧ ((∀ k ∈ l, (gx t k).H ≤ 1000) → s ≤ 1000 → l.foldl (fun s k => max s (gx t k).H) s ≤ 1000)
  | [], s => ⟨Int.le_refl _, by simp, fun _ h => h⟩
  | k :: l, s => by
    obtain ⟨h1, h2, h3⟩ := hiq_spec t l (max s (gx t k).H)
    simp only [List.foldl_cons]
    refine ⟨by omega, fun x hx => ?_, fun hx hs => h3 (fun x hx2 => hx x (by simp [hx2])) (by have := hx k (by simp); omega)⟩
    rcases List.mem_cons.1 hx with rfl | hx
    · omega
    · exact h2 x hx
theorem TreeOK.h {m : Nat} (h : TreeOK t m) {k : Int} (h0 : 0 ≤ k) (h1 : k < t.length) : 1 ≤ (gx t k).H ∧ (gx t k).H ≤ 1000 := by
  have := h.side _ (gx_mem (l := t) (k := k) ⟨h0, h1⟩)
  exact ⟨this.2.2.1, this.2.2.2⟩
theorem Yq_bd (h : TreeOK t m) {gapy : Int} (g0 : 0 ≤ gapy) (g1 : gapy ≤ 1000) : ∀ q, 0 ≤ Yq t gapy q ∧ Yq t gapy q ≤ 2000 * q
  | 0 => ⟨Int.le_refl _, by simp [Yq]⟩
  | q + 1 => by
    have ih := Yq_bd h g0 g1 q
    obtain ⟨a1, a2, a3⟩ := hiq_spec t (lev (kidsOf t) q) 0
    have a4 := a3 (fun k hk => by have hr := h.fo.lev_in hk; exact (h.h hr.1 hr.2).2) (by omega)
    unfold hiq at *
    simp only [Yq, hiq]
    omega
end

end Go.DB
