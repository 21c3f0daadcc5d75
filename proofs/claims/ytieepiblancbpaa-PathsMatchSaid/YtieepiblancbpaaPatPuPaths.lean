/-
  Paths, and places along them: the law in plain words.
-/
import Derived.Test.YtieepiblancbpaaPatPuGeo
set_option linter.unusedSimpArgs false
set_option linter.unusedVariables false
namespace Go.DB
open Go Go.RowKit

/-! Bends. -/

/-- Whether a path turns at its point i - 1. -/
def turnsAt (l : List Point) (i : Nat) : Bool := !decide (decide ((gx l ((i : Int) - 2)).X = (gx l ((i : Int) - 1)).X) = decide ((gx l ((i : Int) - 1)).X = (gx l i).X))
def bendsUpto (l : List Point) : Nat → Int
  | 0 => 0
  | i + 1 => bendsUpto l i + (if i < 2 then 0 else if turnsAt l i = true then 1 else 0)
theorem bendsUpto_bd (l : List Point) : ∀ i : Nat, 0 ≤ bendsUpto l i ∧ bendsUpto l i ≤ i
  | 0 => by simp [bendsUpto]
  | i + 1 => by
    have := bendsUpto_bd l i
    unfold bendsUpto
    split
    · push_cast; omega
    · split <;> (push_cast; omega)

theorem Bends_eq (l : List Point) : geom_Bends l = some (if pathErr l = 0 then bendsUpto l l.length else 0, pathErr l) := by
  unfold geom_Bends
  rw [CheckPath_eq]
  simp only [bind_sm]
  by_cases h : pathErr l = 0
  · obtain ⟨h1, h2⟩ := pathErr_zero.1 h
    have hl := (ptsErr_zero.1 h1).1
    have h1l := (isPath_iff.1 h2).1
    simp only [h, decide_true, Bool.not_true, cond_false, if_true]
    obtain ⟨e, he, hp⟩ := loop_nat (body := geom_Bends_L1 l) (fun i => (bendsUpto l i, (i : Int))) (fun e => e = bendsUpto l l.length) 2 l.length (by omega) (fun i a b => by
      left
      have hb := bendsUpto_bd l i
      unfold geom_Bends_L1
      have e1 : decide ((i : Int) < (l.length : Int)) = true := by simp; omega
      have e2 : W ((i : Int) - 1) = (i : Int) - 1 := Wk (by omega) (by omega)
      have e3 : W ((i : Int) + 1) = (i : Int) + 1 := Wk (by omega) (by omega)
      have e4 : W ((i : Int) - 2) = (i : Int) - 2 := Wk (by omega) (by omega)
      simp only [e1, e2, e3, e4, cond_true, bnd_eq]
      rw [need_of ⟨by omega, by omega⟩, need_of ⟨by omega, by omega⟩, need_of ⟨by omega, by omega⟩, need_of ⟨by omega, by omega⟩, Wk (n := bendsUpto l i + 1) (by omega) (by omega)]
      have h0 : ¬ i < 2 := by omega
      cases ht : turnsAt l i with
      | true =>
        have ht' := ht; unfold turnsAt at ht'
        simp only [ht', cond_true, bind_sm]
        simp [bendsUpto, h0, ht]
      | false =>
        have ht' := ht; unfold turnsAt at ht'
        simp only [ht', cond_false, bind_sm]
        simp [bendsUpto, h0, ht]) ⟨_, by unfold geom_Bends_L1; simp, rfl⟩
    have : ((0 : Int), (2 : Int)) = (bendsUpto l 2, ((2 : Nat) : Int)) := by simp [bendsUpto]
    rw [this, he, hp]; rfl
  · simp [h]
theorem BendsOf_eq {l : List Point} (h : pathErr l = 0) : ref_BendsOf l = some (bendsUpto l l.length) := by
  obtain ⟨h1, h2⟩ := pathErr_zero.1 h
  have hl := (ptsErr_zero.1 h1).1
  have h1l := (isPath_iff.1 h2).1
  unfold ref_BendsOf
  obtain ⟨e, he, hp⟩ := loop_nat (body := ref_BendsOf_L1 l) (fun i => (bendsUpto l i, (i : Int) - 1)) (fun e => e = bendsUpto l l.length) 2 l.length (by omega) (fun i a b => by
    left
    have hb := bendsUpto_bd l i
    unfold ref_BendsOf_L1
    have e3 : W ((i : Int) - 1 + 1) = (i : Int) := by rw [Wk (by omega) (by omega)]; omega
    have e1 : decide ((i : Int) < (l.length : Int)) = true := by simp; omega
    have e4 : W ((i : Int) - 1 - 1) = (i : Int) - 2 := by rw [Wk (by omega) (by omega)]; omega
    simp only [e3, e1, e4, cond_true, bnd_eq]
    rw [need_of ⟨by omega, by omega⟩, need_of ⟨by omega, by omega⟩, need_of ⟨by omega, by omega⟩, need_of ⟨by omega, by omega⟩, Wk (n := bendsUpto l i + 1) (by omega) (by omega)]
    have h0 : ¬ i < 2 := by omega
    have e5 : ((i + 1 : Nat) : Int) - 1 = (i : Int) := by push_cast; omega
    cases ht : turnsAt l i with
    | true =>
      have ht' := ht; unfold turnsAt at ht'
      simp only [ht', cond_true, bind_sm, e5]
      simp [bendsUpto, h0, ht]
    | false =>
      have ht' := ht; unfold turnsAt at ht'
      simp only [ht', cond_false, bind_sm, e5]
      simp [bendsUpto, h0, ht]) ⟨_, by
        unfold ref_BendsOf_L1
        have e3 : W ((l.length : Int) - 1 + 1) = (l.length : Int) := by rw [Wk (by omega) (by omega)]; omega
        simp only [e3]
        simp, rfl⟩
  have : ((0 : Int), (1 : Int)) = (bendsUpto l 2, ((2 : Nat) : Int) - 1) := by simp [bendsUpto]
  rw [this, he, hp]; rfl

/-! Tidy paths. -/

def sg (n : Int) : Int := min (max n (-1)) 1
def wayI (a b : Point) : Point := ⟨sg (b.X - a.X), sg (b.Y - a.Y)⟩
/-- Whether a tidy path has the point i. -/
def kept (l : List Point) (i : Nat) : Bool := decide (i = 0) || decide (l.length ≤ i + 1) || !decide (wayI (gx l ((i : Int) - 1)) (gx l i) = wayI (gx l i) (gx l ((i : Int) + 1)))
def tidyUpto (l : List Point) : Nat → List Point
  | 0 => []
  | i + 1 => tidyUpto l i ++ (if kept l i = true then [gx l i] else [])
theorem tidyUpto_len (l : List Point) : ∀ i : Nat, (tidyUpto l i).length ≤ i
  | 0 => by simp [tidyUpto]
  | i + 1 => by
    have := tidyUpto_len l i
    unfold tidyUpto
    split <;> simp <;> omega

theorem way_eq {a b : Point} (ha : okP a) (hb : okP b) : ref_way a b = some (wayI a b) := by
  unfold okP at ha hb
  unfold ref_way wayI
  simp only [bnd_eq, Sign_eq, bind_sm]
  rw [Wk (n := b.X - a.X) (by omega) (by omega), Wk (n := b.Y - a.Y) (by omega) (by omega)]; rfl

theorem Tidy_eq (l : List Point) : geom_Tidy l = some (if pathErr l = 0 then tidyUpto l l.length else [], pathErr l) := by
  unfold geom_Tidy
  rw [CheckPath_eq]
  simp only [bind_sm]
  by_cases h : pathErr l = 0
  · obtain ⟨h1, h2⟩ := pathErr_zero.1 h
    have hl := (ptsErr_zero.1 h1).1
    have h1l := (isPath_iff.1 h2).1
    simp only [h, decide_true, Bool.not_true, cond_false, if_true, bnd_eq]
    rw [need_of ⟨by omega, by omega⟩]
    have en : W ((l.length : Int) - 1) = (l.length : Int) - 1 := Wk (by omega) (by omega)
    rw [en]
    obtain ⟨e, he, hp⟩ := loop_nat (body := geom_Tidy_L1 l) (fun i => (tidyUpto l i, (i : Int))) (fun e => e = tidyUpto l (l.length - 1)) 1 (l.length - 1) (by omega) (fun i a b => by
      left
      have ht := tidyUpto_len l i
      unfold geom_Tidy_L1
      have e0 : decide ((i : Int) < (l.length : Int) - 1) = true := by simp; omega
      have e2 : W ((i : Int) - 1) = (i : Int) - 1 := Wk (by omega) (by omega)
      have e3 : W ((i : Int) + 1) = (i : Int) + 1 := Wk (by omega) (by omega)
      simp only [en, e0, e2, e3, cond_true, bnd_eq]
      have g1 : inR l ((i : Int) - 1) := ⟨by omega, by omega⟩
      have g2 : inR l (i : Int) := ⟨by omega, by omega⟩
      have g3 : inR l ((i : Int) + 1) := ⟨by omega, by omega⟩
      rw [need_of g1, need_of g2, need_of g3]
      have k1 := okP_at h1 g1
      have k2 := okP_at h1 g2
      have k3 := okP_at h1 g3
      have hk : kept l i = !decide (wayI (gx l ((i : Int) - 1)) (gx l i) = wayI (gx l i) (gx l ((i : Int) + 1))) := by
        unfold kept
        have c1 : ¬ i = 0 := by omega
        have c2 : ¬ l.length ≤ i + 1 := by omega
        simp [c1, c2]
      simp only [tidyUpto, hk]
      generalize gx l ((i : Int) - 1) = a1 at *
      generalize gx l (i : Int) = a2 at *
      generalize gx l ((i : Int) + 1) = a3 at *
      unfold okP at k1 k2 k3
      simp only [gsign_eq, bind_sm]
      rw [Wk (n := a2.X - a1.X) (by omega) (by omega), Wk (n := a3.X - a2.X) (by omega) (by omega), Wk (n := a2.Y - a1.Y) (by omega) (by omega), Wk (n := a3.Y - a2.Y) (by omega) (by omega)]
      rw [need_of (by rw [room_iff]; simp; omega)]
      by_cases c : sg (a2.X - a1.X) = sg (a3.X - a2.X)
      · by_cases d : sg (a2.Y - a1.Y) = sg (a3.Y - a2.Y)
        · have hw : wayI a1 a2 = wayI a2 a3 := by unfold wayI; rw [c, d]
          unfold sg at c d
          simp [c, d, hw]
        · have hw : ¬ wayI a1 a2 = wayI a2 a3 := fun e => d (congrArg Point.Y e)
          unfold sg at c d
          simp [c, d, hw]
      · have hw : ¬ wayI a1 a2 = wayI a2 a3 := fun e => c (congrArg Point.X e)
        unfold sg at c
        simp [c, hw]) ⟨_, by
          unfold geom_Tidy_L1
          have e0 : decide (((l.length - 1 : Nat) : Int) < (l.length : Int) - 1) = false := by simp; omega
          simp only [en, e0, cond_false], rfl⟩
    have hstart : ([gx l 0], (1 : Int)) = (tidyUpto l 1, ((1 : Nat) : Int)) := by simp [tidyUpto, kept]
    rw [hstart, he, hp]
    simp only [bind_sm]
    have ht := tidyUpto_len l (l.length - 1)
    rw [need_of ⟨by omega, by omega⟩, need_of (by rw [room_iff]; simp; omega)]
    have hfin : tidyUpto l l.length = tidyUpto l (l.length - 1) ++ [gx l ((l.length : Int) - 1)] := by
      have hx : l.length = (l.length - 1) + 1 := by omega
      conv => lhs; rw [hx]
      have hk : kept l (l.length - 1) = true := by
        unfold kept
        have : l.length ≤ l.length - 1 + 1 := by omega
        simp [this]
      have hc : ((l.length - 1 : Nat) : Int) = (l.length : Int) - 1 := by omega
      simp only [tidyUpto, hk, if_true, hc]
    rw [hfin]
  · simp [h]
theorem TidyOf_eq {l : List Point} (h : pathErr l = 0) : ref_TidyOf l = some (tidyUpto l l.length) := by
  obtain ⟨h1, h2⟩ := pathErr_zero.1 h
  have hl := (ptsErr_zero.1 h1).1
  unfold ref_TidyOf
  obtain ⟨s, hs, hI⟩ := rfor_inv (n := (l.length : Int)) (step := ref_TidyOf_L1 l) (s0 := ([] : List Point)) (fun i s => s = tidyUpto l i) (by omega) rfl (fun i s hi hI => by
    subst hI
    have ht := tidyUpto_len l i
    have hi' : i < l.length := by omega
    refine ⟨tidyUpto l (i + 1), ?_, rfl⟩
    unfold ref_TidyOf_L1
    have e3 : W ((i : Int) + 1) = (i : Int) + 1 := Wk (by omega) (by omega)
    have e2 : W ((i : Int) - 1) = (i : Int) - 1 := Wk (by omega) (by omega)
    rw [need_of ⟨by omega, hi⟩]
    simp only [bnd_eq, e2, e3]
    have hroom : room ((tidyUpto l i).length + [gx l (i : Int)].length) := by rw [room_iff]; simp; omega
    by_cases c1 : 0 < i
    · by_cases c2 : i + 1 < l.length
      · have g1 : inR l ((i : Int) - 1) := ⟨by omega, by omega⟩
        have g2 : inR l (i : Int) := ⟨by omega, by omega⟩
        have g3 : inR l ((i : Int) + 1) := ⟨by omega, by omega⟩
        have d1 : decide ((0 : Int) < (i : Int)) = true := by simp; omega
        have d2 : decide ((i : Int) + 1 < (l.length : Int)) = true := by simp; omega
        simp only [d1, d2, Bool.and_self, gd_true]
        rw [need_of (fun _ => g1), way_eq (okP_at h1 g1) (okP_at h1 g2)]
        simp only [bind_sm]
        rw [need_of (fun _ => g3), way_eq (okP_at h1 g2) (okP_at h1 g3)]
        simp only [bind_sm, Bool.true_and]
        rw [need_of hroom]
        have hk : kept l i = !decide (wayI (gx l ((i : Int) - 1)) (gx l i) = wayI (gx l i) (gx l ((i : Int) + 1))) := by
          unfold kept
          have c1 : ¬ i = 0 := by omega
          have c2 : ¬ l.length ≤ i + 1 := by omega
          simp [c1, c2]
        simp only [tidyUpto, hk]
        by_cases hw : wayI (gx l ((i : Int) - 1)) (gx l i) = wayI (gx l i) (gx l ((i : Int) + 1)) <;> simp [hw]
      · have d2 : decide ((i : Int) + 1 < (l.length : Int)) = false := by simp; omega
        have hk : kept l i = true := by
          have : l.length ≤ i + 1 := by omega
          unfold kept
          simp [this]
        simp only [d2, Bool.and_false, gd_false, bind_sm, Bool.false_and, cond_false]
        rw [need_of (by simp), need_of (by simp), need_of hroom]
        simp [tidyUpto, hk]
    · have d1 : decide ((0 : Int) < (i : Int)) = false := by simp; omega
      have hk : kept l i = true := by
        have : i = 0 := by omega
        unfold kept
        simp [this]
      simp only [d1, Bool.false_and, gd_false, bind_sm, cond_false]
      rw [need_of (by simp), need_of (by simp), need_of hroom]
      simp [tidyUpto, hk])
  rw [hs]
  simp only [Int.toNat_natCast] at hI
  rw [hI]; rfl

/-! Places along a path. -/

theorem At_both {l : List Point} (h : pathErr l = 0) {d : Int} (hd : 0 ≤ d ∧ d ≤ lenUpto l l.length) : ∃ q : Point, geom_At l d = some (q, 0) ∧ ref_AtOf l d = some q := by
  obtain ⟨h1, h2⟩ := pathErr_zero.1 h
  have hl := (ptsErr_zero.1 h1).1
  have h1l := (isPath_iff.1 h2).1
  have hlb := lenUpto_bd h1 l.length (Nat.le_refl _)
  have en : W ((l.length : Int) - 1) = (l.length : Int) - 1 := Wk (by omega) (by omega)
  have hlast : inR l ((l.length : Int) - 1) := ⟨by omega, by omega⟩
  obtain ⟨e, e', he, he', hp⟩ := loop_nat2 (body := geom_At_L1 l) (body' := ref_AtOf_L1 l) (fun i => (d - lenUpto l i, (i : Int))) (fun i => (d - lenUpto l i, (i : Int)))
    (fun e e' => (∃ q, e = .ab (q, 0) ∧ e' = .ab q) ∨ (e = .nx () ∧ e' = .nx ())) 1 l.length (by omega) (fun i a b => by
      have hb := lenUpto_bd h1 i (by omega)
      have g1 : inR l ((i : Int) - 1) := ⟨by omega, by omega⟩
      have g2 : inR l (i : Int) := ⟨by omega, by omega⟩
      have k1 := okP_at h1 g1
      have k2 := okP_at h1 g2
      have hf := farI_bd k1 k2
      have hnext : lenUpto l (i + 1) = lenUpto l i + farI (gx l ((i : Int) - 1)) (gx l i) := by
        have : ¬ i = 0 := by omega
        simp [lenUpto, this]
      unfold geom_At_L1 ref_AtOf_L1
      have e1 : decide ((i : Int) < (l.length : Int)) = true := by simp; omega
      have e2 : W ((i : Int) - 1) = (i : Int) - 1 := Wk (by omega) (by omega)
      have e3 : W ((i : Int) + 1) = (i : Int) + 1 := Wk (by omega) (by omega)
      simp only [e1, e2, e3, cond_true, bnd_eq]
      rw [need_of g1, need_of g2, need_of g1, need_of g2, apart_eq k1 k2, Far_eq k1 k2]
      simp only [bind_sm]
      by_cases c : d - lenUpto l i ≤ farI (gx l ((i : Int) - 1)) (gx l i)
      · right
        simp only [c, decide_true, cond_true]
        rw [need_of g1, need_of g2, way_eq k1 k2]
        simp only [bind_sm, gsign_eq]
        rw [need_of g1, need_of g1]
        refine ⟨_, _, rfl, rfl, .inl ⟨_, rfl, ?_⟩⟩
        generalize gx l ((i : Int) - 1) = a1 at *
        generalize gx l (i : Int) = a2 at *
        unfold okP at k1 k2
        congr 1
        simp only [wayI, sg]
        rw [Wk (n := a2.X - a1.X) (by omega) (by omega), Wk (n := a2.Y - a1.Y) (by omega) (by omega), Int.mul_comm, Int.mul_comm (d - lenUpto l i)]
      · left
        simp only [c, decide_false, cond_false]
        rw [Wk (by omega) (by omega)]
        rw [hnext]
        refine ⟨?_, ?_⟩ <;> (congr 3; omega)) ⟨_, _, by unfold geom_At_L1; simp, by unfold ref_AtOf_L1; simp, .inr ⟨rfl, rfl⟩⟩
  have hstart : (d, (1 : Int)) = (d - lenUpto l 1, ((1 : Nat) : Int)) := by simp [lenUpto]
  unfold geom_At ref_AtOf
  rw [Length_eq]
  have c1 : (decide (d < 0) || decide (lenUpto l l.length < d)) = false := by simp; omega
  simp only [bnd_eq, bind_sm, h, if_true, decide_true, Bool.not_true, cond_false, c1]
  rw [hstart, he, he']
  rcases hp with ⟨q, rfl, rfl⟩ | ⟨rfl, rfl⟩
  · exact ⟨q, rfl, rfl⟩
  · simp only [bindR_nx, en]
    rw [need_of hlast, need_of hlast]
    exact ⟨_, rfl, rfl⟩

/-! The nearest point. -/

theorem Nearest_both {l : List Point} (h : pathErr l = 0) {p : Point} (hp : okP p) : ∃ x y : Int, geom_Nearest l p = some (x, y, 0) ∧ ref_NearestOf l p = some (x, y) := by
  obtain ⟨h1, h2⟩ := pathErr_zero.1 h
  have hl := (ptsErr_zero.1 h1).1
  have h1l := (isPath_iff.1 h2).1
  obtain ⟨e, e', he, he', hpo⟩ := loop_inv2 (body := geom_Nearest_L1 l p) (body' := ref_NearestOf_L1 l p) (s0 := ((-1 : Int), (0 : Int), (0 : Int), (1 : Int))) (t0 := ((-1 : Int), (0 : Int), (0 : Int), (1 : Int)))
    (fun s t => s = t ∧ ∃ i : Nat, s.2.2.2 = (i : Int) ∧ 1 ≤ i ∧ i ≤ l.length ∧ s.2.2.1 = lenUpto l i) (fun s => l.length - s.2.2.2.toNat) (fun e e' => e = e') ⟨rfl, 1, rfl, by omega, by omega, by simp [lenUpto]⟩ (by
      rintro ⟨f, dd, al, i⟩ t ⟨rfl, j, hj, hj1, hj2, hal⟩
      simp only at hj hal
      subst hj hal
      by_cases c : j < l.length
      · left
        have hb := lenUpto_bd h1 j (by omega)
        have g1 : inR l ((j : Int) - 1) := ⟨by omega, by omega⟩
        have g2 : inR l (j : Int) := ⟨by omega, by omega⟩
        have k1 := okP_at h1 g1
        have k2 := okP_at h1 g2
        have hf := farI_bd k1 k2
        have hnext : lenUpto l (j + 1) = lenUpto l j + farI (gx l ((j : Int) - 1)) (gx l j) := by
          have : ¬ j = 0 := by omega
          simp [lenUpto, this]
        unfold geom_Nearest_L1 ref_NearestOf_L1
        have e1 : decide ((j : Int) < (l.length : Int)) = true := by simp; omega
        have e2 : W ((j : Int) - 1) = (j : Int) - 1 := Wk (by omega) (by omega)
        have e3 : W ((j : Int) + 1) = (j : Int) + 1 := Wk (by omega) (by omega)
        simp only [e1, e2, e3, cond_true, bnd_eq]
        rw [need_of g1, need_of g2, need_of g1, need_of g2, apart_eq k1 k2, Far_eq k1 k2]
        have hWn : W (lenUpto l j + farI (gx l ((j : Int) - 1)) (gx l (j : Int))) = lenUpto l (j + 1) := by rw [hnext]; exact Wk (by omega) (by omega)
        have kq : okP (⟨min (max p.X (min (gx l ((j : Int) - 1)).X (gx l (j : Int)).X)) (max (gx l ((j : Int) - 1)).X (gx l (j : Int)).X), min (max p.Y (min (gx l ((j : Int) - 1)).Y (gx l (j : Int)).Y)) (max (gx l ((j : Int) - 1)).Y (gx l (j : Int)).Y)⟩ : Point) := by
          unfold okP at *; simp only; omega
        generalize hq : (⟨min (max p.X (min (gx l ((j : Int) - 1)).X (gx l (j : Int)).X)) (max (gx l ((j : Int) - 1)).X (gx l (j : Int)).X), min (max p.Y (min (gx l ((j : Int) - 1)).Y (gx l (j : Int)).Y)) (max (gx l ((j : Int) - 1)).Y (gx l (j : Int)).Y)⟩ : Point) = q at kq ⊢
        rw [apart_eq hp kq, Far_eq kq hp, apart_eq k1 kq, Far_eq k1 kq, farI_comm q p]
        have hf2 := farI_bd k1 kq
        simp only [bind_sm, hWn]
        cases hc : (decide (f < 0) || decide (farI p q < f)) with
        | true =>
          simp only [cond_true, bind_sm]
          exact ⟨_, _, rfl, rfl, ⟨rfl, j + 1, by push_cast; rfl, by omega, by omega, rfl⟩, by simp; omega⟩
        | false =>
          simp only [cond_false, bind_sm]
          exact ⟨_, _, rfl, rfl, ⟨rfl, j + 1, by push_cast; rfl, by omega, by omega, rfl⟩, by simp; omega⟩
      · right
        unfold geom_Nearest_L1 ref_NearestOf_L1
        have e1 : decide ((j : Int) < (l.length : Int)) = false := by simp; omega
        simp only [e1, cond_false]
        exact ⟨_, _, rfl, rfl, rfl⟩)
  unfold geom_Nearest ref_NearestOf
  rw [CheckPath_eq, CheckPoint_eq, ptErr_zero.2 hp]
  simp only [bind_sm, h, decide_true, Bool.not_true, cond_false, he, he']
  subst hpo
  exact ⟨_, _, rfl, rfl⟩

theorem PathsMatch_true (l : List Point) (d : Int) (p : Point) (hl : fits l) : law_PathsMatch l d p = some true := by
  have hll : (l.length : Int) ≤ 9223372036854775807 := by have := hl.1; omega
  unfold law_PathsMatch
  rw [PathError_eq hll, Length_eq, Bends_eq, Tidy_eq, geoms_eq]
  simp only [bind_sm, Bool.not_true, Bool.not_false, gd_true, CheckPoints_eq, PointsError_eq, CheckPath_eq, decide_true, Bool.or_self]
  by_cases h : pathErr l = 0
  · obtain ⟨h1, h2⟩ := pathErr_zero.1 h
    have hlen := (ptsErr_zero.1 h1).1
    have h1l := (isPath_iff.1 h2).1
    have ht := tidyUpto_len l l.length
    have i1 : law_is_int (lenUpto l l.length) 0 0 (law_PathsMatch_1 l) = some true := by
      unfold law_is_int law_PathsMatch_1
      rw [LengthOf_eq h1 (by omega)]; simp
    have i2 : law_is_int (bendsUpto l l.length) 0 0 (law_PathsMatch_2 l) = some true := by
      unfold law_is_int law_PathsMatch_2
      rw [BendsOf_eq h]; simp
    have i3 : law_lists_Point (tidyUpto l l.length) 0 0 (law_PathsMatch_3 l) = some true := by
      unfold law_lists_Point law_PathsMatch_3
      rw [TidyOf_eq h]
      simp only [bind_sm, decide_true, Bool.not_true, cond_false, gd_true]
      rw [Equal_Point_eq _ _ (by omega)]; simp
    simp only [h, if_true, i1, i2, i3, bind_sm, decide_true, Bool.not_true, Bool.not_false, gd_true, Bool.or_self, cond_false, cond_true]
    rw [LengthOf_eq h1 (by omega)]
    simp only [bind_sm, In_eq, When_eq]
    have hAt : ∃ r : Point × Int, geom_At l d = some r ∧ law_is_Point r.1 r.2 (if (!decide (0 ≤ d ∧ d ≤ lenUpto l l.length)) = true then 3 else 0) (law_PathsMatch_4 l d) = some true := by
      by_cases c : 0 ≤ d ∧ d ≤ lenUpto l l.length
      · obtain ⟨q, g1, g2⟩ := At_both h c
        refine ⟨_, g1, ?_⟩
        unfold law_is_Point law_PathsMatch_4
        simp [c, g2, bnd_eq]
      · refine ⟨(⟨0, 0⟩, 3), ?_, ?_⟩
        · unfold geom_At
          have c1 : (decide (d < 0) || decide (lenUpto l l.length < d)) = true := by simp; omega
          rw [Length_eq]
          simp [h, c1, bnd_eq]
        · unfold law_is_Point
          simp [c]
    obtain ⟨r, g1, g2⟩ := hAt
    rw [g1]
    simp only [bind_sm, g2, Bool.not_true, cond_false, PointError_eq]
    rw [First_eq (by simp)]
    simp only [bind_sm, firstErr_cons, firstErr_nil, if_true]
    rcases ptErr_cases p with hp | hp
    · obtain ⟨x, y, n1, n2⟩ := Nearest_both h (ptErr_zero.1 hp)
      simp [hp, n1, n2]
    · have : geom_Nearest l p = some (0, 0, 3) := by
        unfold geom_Nearest
        rw [CheckPath_eq, CheckPoint_eq]
        simp [h, hp]
      simp [hp, this]
  · have i1 : law_is_int 0 (pathErr l) (pathErr l) (law_PathsMatch_1 l) = some true := by unfold law_is_int; simp [h]
    have i2 : law_is_int 0 (pathErr l) (pathErr l) (law_PathsMatch_2 l) = some true := by unfold law_is_int; simp [h]
    have i3 : law_lists_Point [] (pathErr l) (pathErr l) (law_PathsMatch_3 l) = some true := by unfold law_lists_Point; simp [h]
    simp only [h, if_false, i1, i2, i3, bind_sm, decide_true, decide_false, Bool.not_true, Bool.not_false, gd_true, Bool.or_self, cond_false, cond_true]
    have hAt : geom_At l d = some (⟨0, 0⟩, pathErr l) := by
      unfold geom_At
      rw [Length_eq]
      simp [h, bnd_eq]
    have hN : geom_Nearest l p = some (0, 0, pathErr l) := by
      unfold geom_Nearest
      rw [CheckPath_eq]
      simp [h]
    have i4 : law_is_Point ⟨0, 0⟩ (pathErr l) (pathErr l) (law_PathsMatch_4 l d) = some true := by unfold law_is_Point; simp [h]
    rw [hAt]
    simp only [bind_sm, i4, Bool.not_true, cond_false, hN, PointError_eq]
    rw [First_eq (by simp)]
    simp [h]

end Go.DB
