/- A part of the proof. -/
import Derived.Test.YtclcheggnlhamaaGreatDoorMovLi1
import Derived.Test.YtclcheggnlhamaaGreatDoorPu0
import Derived.Test.YtclcheggnlhamaaGreatDoorMovK3
set_option linter.unusedSimpArgs false
set_option linter.unusedVariables false
namespace Go.DB
open Go Go.RowKit
theorem rforE_index {α : Type} [Inhabited α] {l : List α} {step : Int → Unit → Option (Res Unit (Res Unit Int))} (p : α → Bool) (hl : (l.length : Int) ≤ 9223372036854775807)
  (hf : ∀ (i : Nat) (h : i < l.length), step i () = some (if p l[i] = true then .ab (.ab (i : Int)) else .nx ())) :
  rforE (l.length : Int) step (fun s => Res.nx s) () = some (match l.findIdx? p with | some i => Res.ab (i : Int) | none => Res.nx ()) := by
 obtain ⟨e, he, hp⟩ := rforE_inv (n := (l.length : Int)) (step := step) (fin := fun s => (Res.nx s : Res Unit Int)) (s0 := ()) (fun i _ => ∀ j (h : j < l.length), j < i → p l[j] = false)
  (fun e => e = match l.findIdx? p with | some i => Res.ab (i : Int) | none => Res.nx ()) hl (fun j h hj => by omega) (fun i u hi hI => by
   have hi' : i < l.length := by omega
   cases u
   rw [hf i hi']
   cases hb : p l[i] with
   | false =>
    refine .inl ⟨(), by simp, fun j h hj => ?_⟩
    rcases Nat.lt_or_eq_of_le (Nat.lt_succ_iff.1 hj) with h1 | h1
    ·
     exact hI j h h1
    ·
     subst h1; exact hb
   | true =>
    refine .inr ⟨_, by simp; rfl, ?_⟩
    have : l.findIdx? p = some i := by
     rw [List.findIdx?_eq_some_iff_getElem]
     exact ⟨hi', hb, fun j hj => by simpa using hI j (by omega) hj⟩
    rw [this]) (fun u hI => by
   have : l.findIdx? p = none := by
    rw [List.findIdx?_eq_none_iff]
    intro x hx
    obtain ⟨j, hj, rfl⟩ := List.mem_iff_getElem.1 hx
    exact hI j hj (by simpa using hj)
   rw [this])
 rw [he, hp]
theorem idx_any {α : Type} {l : List α} {p : α → Bool} : decide (0 ≤ (match l.findIdx? p with | some i => (i : Int) | none => -1)) = l.any p := by
 cases h : l.findIdx? p with
 | none =>
  rw [List.findIdx?_eq_none_iff] at h
  simp; exact h
 | some i =>
  obtain ⟨hi, hp, _⟩ := List.findIdx?_eq_some_iff_getElem.1 h
  have : l.any p = true := List.any_eq_true.2 ⟨_, List.getElem_mem hi, hp⟩
  rw [this]; simp
theorem rforE_same {α : Type} [Inhabited α] [DecidableEq α] {l m : List α} {step : Int → Unit → Option (Res Unit (Res Unit Bool))} (hlm : l.length = m.length) (hl : (l.length : Int) ≤ 9223372036854775807)
  (hf : ∀ (i : Nat) (h : i < l.length), step i () = some (if l[i] = m[i]'(hlm ▸ h) then .nx () else .ab (.ab false))) :
  rforE (l.length : Int) step (fun s => Res.nx s) () = some (if l = m then Res.nx () else Res.ab false) := by
 obtain ⟨e, he, hp⟩ := rforE_inv (n := (l.length : Int)) (step := step) (fin := fun s => (Res.nx s : Res Unit Bool)) (s0 := ()) (fun i _ => ∀ j (h : j < l.length), j < i → l[j] = m[j]'(hlm ▸ h))
  (fun e => e = if l = m then Res.nx () else Res.ab false) hl (fun j h hj => by omega) (fun i u hi hI => by
   have hi' : i < l.length := by omega
   cases u
   rw [hf i hi']
   by_cases hb : l[i] = m[i]'(hlm ▸ hi')
   ·
    refine .inl ⟨(), by simp [hb], fun j h hj => ?_⟩
    rcases Nat.lt_or_eq_of_le (Nat.lt_succ_iff.1 hj) with h1 | h1
    ·
     exact hI j h h1
    ·
     subst h1; exact hb
   ·
    refine .inr ⟨_, by rw [if_neg hb], ?_⟩
    have : ¬ l = m := fun e => hb (by subst e; rfl)
    rw [if_neg this]) (fun u hI => by
   have : l = m := List.ext_getElem hlm (fun j h1 h2 => hI j h1 (by simpa using h1))
   rw [if_pos this])
 rw [he, hp]
theorem First_eq {l : List Int} (hl : (l.length : Int) ≤ 9223372036854775807) : ref_First l = some (firstErr l) := by
 unfold ref_First
 rw [rforE_err (fun e => e) (fun e => Res.ab e) hl (fun i hi => ?_)]
 ·
  by_cases h : firstErr (l.map fun e => e) = 0
  ·
   simp only [if_pos h, bindR_nx]; simp at h; simp [h]
  ·
   simp only [if_neg h, bindR_ab]; simp
 ·
  unfold ref_First_L1
  rw [need_of hi]
  simp only [bnd_eq]
  by_cases h : gx l i = 0 <;> simp [h]
theorem When_eq (b : Bool) (e : Int) : ref_When b e = some (if b = true then e else 0) := by
 unfold ref_When; cases b <;> rfl
theorem In_eq (n lo hi : Int) : ref_In n lo hi = some (decide (lo ≤ n ∧ n ≤ hi)) := by
 unfold ref_In; simp
theorem Equal_Point_eq (s t : List Point) (hl : (s.length : Int) ≤ 9223372036854775807) : slices_Equal_Point s t = some (decide (s = t)) := by
 unfold slices_Equal_Point
 by_cases h : s.length = t.length
 ·
  simp only [h, decide_true, Bool.not_true, cond_false]
  rw [← h, rforE_same h hl (fun i hi => by
   unfold slices_Equal_Point_L1
   rw [need_of ⟨by omega, by omega⟩, need_of ⟨by omega, by omega⟩, gx_nat hi, gx_nat (h ▸ hi)]
   by_cases hv : s[i] = t[i]'(h ▸ hi) <;> simp [hv])]
  by_cases he : s = t <;> simp [he]
 ·
  have h1 : ¬ ((s.length : Int) = t.length) := by omega
  have h2 : ¬ s = t := fun e => h (by rw [e])
  simp [h1, h2]
theorem Down_eq {a b : Int} (hb : 1 ≤ b) (h1 : -1000000000000 ≤ a) (h2 : a ≤ 1000000000000) (h3 : b ≤ 1000000000000) : ref_Down a b = some (a / b) := by
 unfold ref_Down
 rw [need_of (by omega)]
 simp only [bnd_eq]
 have e1 := Int.mul_tdiv_add_tmod a b
 have e2 := Int.mul_ediv_add_emod a b
 have m1 := Int.emod_nonneg a (show b ≠ 0 by omega)
 have m2 := Int.emod_lt_of_pos a (show 0 < b by omega)
 have t1 : -b < a.tmod b := by have := Int.tmod_lt_of_pos (-a) (show 0 < b by omega); rw [Int.neg_tmod] at this; omega
 have t2 := Int.tmod_lt_of_pos a (show 0 < b by omega)
 have e3 : a.tdiv b * b = a - a.tmod b := by rw [Int.mul_comm]; omega
 rw [e3, Wk (n := a - a.tmod b) (by omega) (by omega)]
 by_cases c : a < a - a.tmod b
 ·
  have c1 : decide (a < a - a.tmod b) = true := by simpa using c
  simp only [c1, cond_true, bind_sm, bnd_eq]
  have hq : a.tdiv b = a / b + 1 := by
   have : b * a.tdiv b = b * (a / b + 1) := by
    have h : b * (a / b + 1) = b * (a / b) + b := by rw [Int.mul_add, Int.mul_one]
    have hneg : a < 0 := by
     rcases Int.lt_or_le a 0 with h0 | h0
     ·
      exact h0
     ·
      have := Int.tmod_nonneg b h0; omega
    have hm : a % b = a.tmod b + b := by
     have hd : a % b = (a.tmod b + b) % b := by
      rw [Int.add_emod_right, Int.tmod_def, Int.sub_emod, Int.mul_emod_right, Int.sub_zero, Int.emod_emod_of_dvd _ (Int.dvd_refl b)]
     rw [hd, Int.emod_eq_of_lt (by omega) (by omega)]
    omega
   exact Int.eq_of_mul_eq_mul_left (by omega) this
  have hlo : -1000000000000 ≤ a / b := by
   have := Int.ediv_le_ediv (show 0 < b by omega) h1
   have h4 : -1000000000000 ≤ -1000000000000 / b := by
    rw [Int.le_ediv_iff_mul_le (by omega)]
    have : (-1000000000000 : Int) * b ≤ -1000000000000 * 1 := by omega
    omega
   omega
  have hhi : a / b ≤ 1000000000000 := by
   have h4 : b * (a / b) ≤ a := by omega
   rcases Int.lt_or_le 0 (a / b) with h0 | h0
   ·
    have : 1 * (a / b) ≤ b * (a / b) := Int.mul_le_mul_of_nonneg_right hb (by omega)
    omega
   ·
    omega
  rw [hq, Wk (by omega) (by omega)]
  congr 1; omega
 ·
  have c1 : decide (a < a - a.tmod b) = false := by simpa using c
  simp only [c1, cond_false, bind_sm]
  have hm : a % b = a.tmod b := by
   have hd : a % b = (a.tmod b) % b := by
    rw [Int.tmod_def, Int.sub_emod, Int.mul_emod_right, Int.sub_zero, Int.emod_emod_of_dvd _ (Int.dvd_refl b)]
   rw [hd, Int.emod_eq_of_lt (by omega) (by omega)]
  have : b * a.tdiv b = b * (a / b) := by omega
  rw [Int.eq_of_mul_eq_mul_left (by omega) this]
def outC (n : Int) : Bool := decide (n < -1000000) || decide (1000000 < n)
def ptErr (p : Point) : Int := if outC p.X = true ∨ outC p.Y = true then 3 else 0
def okP (p : Point) : Prop := -1000000 ≤ p.X ∧ p.X ≤ 1000000 ∧ -1000000 ≤ p.Y ∧ p.Y ≤ 1000000
theorem ptErr_zero {p : Point} : ptErr p = 0 ↔ okP p := by
 unfold ptErr okP outC
 simp only [Bool.or_eq_true, decide_eq_true_eq]
 constructor
 ·
  intro h
  by_cases a : (p.X < -1000000 ∨ 1000000 < p.X) ∨ p.Y < -1000000 ∨ 1000000 < p.Y
  ·
   rw [if_pos a] at h; omega
  ·
   omega
 ·
  intro h
  rw [if_neg (by omega)]
theorem ptErr_cases (p : Point) : ptErr p = 0 ∨ ptErr p = 3 := by unfold ptErr; split <;> simp
def ptsErr (l : List Point) : Int := if 1000 < l.length then 4 else firstErr (l.map ptErr)
theorem CheckPoint_eq (p : Point) : geom_CheckPoint p = some (ptErr p) := by
 unfold geom_CheckPoint geom_out ptErr outC
 simp only [bind_sm]
 cases h1 : (decide (p.X < -1000000) || decide (1000000 < p.X)) <;> cases h2 : (decide (p.Y < -1000000) || decide (1000000 < p.Y)) <;> simp [h1, h2]
theorem PointError_eq (p : Point) : ref_PointError p = some (ptErr p) := by
 unfold ref_PointError ptErr
 simp only [In_eq, bind_sm, When_eq]
 by_cases h1 : -1000000 ≤ p.X ∧ p.X ≤ 1000000
 ·
  have h1' : outC p.X = false := by unfold outC; simp; omega
  by_cases h2 : -1000000 ≤ p.Y ∧ p.Y ≤ 1000000
  ·
   have h2' : outC p.Y = false := by unfold outC; simp; omega
   simp [h1, h2, h1', h2']
  ·
   have h2' : outC p.Y = true := by unfold outC; simp; omega
   simp [h1, h2, h1', h2']
 ·
  have h1' : outC p.X = true := by unfold outC; simp; omega
  simp [h1, h1']
theorem points_eq {l : List Point} (hl : (l.length : Int) ≤ 9223372036854775807) : geom_points l = some (firstErr (l.map ptErr)) := by
 unfold geom_points
 rw [rforE_err ptErr (fun e => Res.ab e) hl (fun i hi => by
  unfold geom_points_L1
  rw [need_of hi]
  simp only [bnd_eq, CheckPoint_eq, bind_sm]
  by_cases h : ptErr (gx l i) = 0 <;> simp [h])]
 by_cases h : firstErr (l.map ptErr) = 0
 ·
  simp only [if_pos h, bindR_nx]; rw [h]
 ·
  simp only [if_neg h, bindR_ab]
theorem CheckPoints_eq (l : List Point) : geom_CheckPoints l = some (ptsErr l) := by
 unfold geom_CheckPoints ptsErr
 by_cases h : 1000 < l.length
 ·
  have : (1000 : Int) < l.length := by omega
  simp [h, this]
 ·
  have : ¬ (1000 : Int) < l.length := by omega
  simp only [this, decide_false, cond_false, if_neg h]
  rw [points_eq (by omega)]; rfl
theorem PointsError_eq (l : List Point) : ref_PointsError l = some (ptsErr l) := by
 unfold ref_PointsError ptsErr
 by_cases h : 1000 < l.length
 ·
  have : (1000 : Int) < l.length := by omega
  simp [h, this]
 ·
  have : ¬ (1000 : Int) < l.length := by omega
  simp only [this, decide_false, cond_false, if_neg h]
  rw [rforE_err ptErr (fun e => Res.ab e) (by omega) (fun i hi => by
   unfold ref_PointsError_L1
   rw [need_of hi]
   simp only [bnd_eq, PointError_eq, bind_sm]
   by_cases h : ptErr (gx l i) = 0 <;> simp [h])]
  by_cases h : firstErr (l.map ptErr) = 0
  ·
   simp only [if_pos h, bindR_nx]; rw [h]
  ·
   simp only [if_neg h, bindR_ab]
def badAt (l : List Point) (i : Nat) : Prop := decide ((gx l i).X = (gx l ((i : Int) - 1)).X) = decide ((gx l i).Y = (gx l ((i : Int) - 1)).Y)
instance (l : List Point) : DecidablePred (badAt l) := fun i => by unfold badAt; infer_instance
def okB (b : Box) : Prop := -1000000 ≤ b.X ∧ b.X ≤ 1000000 ∧ -1000000 ≤ b.Y ∧ b.Y ≤ 1000000 ∧ 1 ≤ b.W_ ∧ b.W_ ≤ 20000 ∧ 1 ≤ b.H ∧ b.H ≤ 20000
instance (b : Box) : Decidable (okB b) := by unfold okB; infer_instance
def boxErr (b : Box) : Int := if okB b then 0 else 3
theorem boxErr_zero {b : Box} : boxErr b = 0 ↔ okB b := by unfold boxErr; split <;> simp_all
theorem boxErr_cases (b : Box) : boxErr b = 0 ∨ boxErr b = 3 := by unfold boxErr; split <;> simp
theorem CheckBox_eq (b : Box) : geom_CheckBox b = some (boxErr b) := by
 unfold geom_CheckBox geom_out boxErr
 simp only [bind_sm]
 by_cases h : okB b
 ·
  rw [if_pos h]
  unfold okB at h
  have e1 : (decide (b.X < -1000000) || decide (1000000 < b.X)) = false := by simp; omega
  have e2 : (decide (b.Y < -1000000) || decide (1000000 < b.Y)) = false := by simp; omega
  simp only [e1, e2, Bool.not_false, gd_true, bind_sm, Bool.or_self, Bool.false_or]
  have e3 : (((decide (b.W_ < 1) || decide (20000 < b.W_)) || decide (b.H < 1)) || decide (20000 < b.H)) = false := by simp; omega
  rw [e3]; rfl
 ·
  rw [if_neg h]
  unfold okB at h
  cases h1 : (decide (b.X < -1000000) || decide (1000000 < b.X)) with
  | true => simp
  | false =>
   cases h2 : (decide (b.Y < -1000000) || decide (1000000 < b.Y)) with
   | true => simp
   | false =>
    simp only [Bool.not_false, gd_true, bind_sm, Bool.or_self, Bool.false_or]
    have e3 : (((decide (b.W_ < 1) || decide (20000 < b.W_)) || decide (b.H < 1)) || decide (20000 < b.H)) = true := by
     simp at h1 h2 ⊢; omega
    rw [e3]; rfl
theorem BoxError_eq (b : Box) : ref_BoxError b = some (boxErr b) := by
 unfold ref_BoxError boxErr
 simp only [PointError_eq, In_eq, When_eq, bind_sm]
 have hF : ∀ a c : Int, ref_First [a, c] = some (firstErr [a, c]) := fun a c => First_eq (by simp)
 by_cases h : okB b
 ·
  rw [if_pos h]
  unfold okB at h
  have e1 : ptErr ⟨b.X, b.Y⟩ = 0 := ptErr_zero.2 (by unfold okP; simp only; omega)
  have e2 : decide (1 ≤ b.W_ ∧ b.W_ ≤ 20000) = true := by simp; omega
  have e3 : decide (1 ≤ b.H ∧ b.H ≤ 20000) = true := by simp; omega
  simp [e1, e2, e3, hF]
 ·
  rw [if_neg h]
  unfold okB at h
  by_cases c : ptErr ⟨b.X, b.Y⟩ = 0
  ·
   have c' := ptErr_zero.1 c
   unfold okP at c'
   simp only at c'
   by_cases c2 : 1 ≤ b.W_ ∧ b.W_ ≤ 20000
   ·
    have e2 : decide (1 ≤ b.W_ ∧ b.W_ ≤ 20000) = true := by simpa using c2
    have e3 : decide (1 ≤ b.H ∧ b.H ≤ 20000) = false := by simp; omega
    simp [c, e2, e3, hF]
   ·
    have e2 : decide (1 ≤ b.W_ ∧ b.W_ ≤ 20000) = false := by simpa using c2
    simp [c, e2, hF]
  ·
   have e1 : ptErr ⟨b.X, b.Y⟩ = 3 := (ptErr_cases _).resolve_left c
   rw [e1]
   cases decide (1 ≤ b.W_ ∧ b.W_ ≤ 20000) <;> cases decide (1 ≤ b.H ∧ b.H ≤ 20000) <;> simp [hF]
theorem rfor_gather {α β : Type} [Inhabited α] {l : List α} {step : Int → List β → Option (List β)} (g : α → List β) (s0 : List β) (hg : ∀ a ∈ l, (g a).length ≤ 1) (hl : s0.length + l.length ≤ 1073741824)
  (hf : ∀ i s, inR l i → (s.length : Int) < 1073741824 → step i s = some (s ++ g (gx l i))) : rfor (l.length : Int) step s0 = some (s0 ++ l.flatMap g) := by
 obtain ⟨s, h1, h2⟩ := rfor_inv (n := (l.length : Int)) (step := step) (s0 := s0) (fun i s => s = s0 ++ (l.take i).flatMap g ∧ s.length ≤ s0.length + i) (by omega) (by simp) (fun i s hi hI => by
  have hi' : i < l.length := by omega
  refine ⟨_, hf i s ⟨by omega, by omega⟩ (by omega), ?_, ?_⟩
  ·
   rw [gx_nat hi', hI.1, List.take_succ_eq_append_getElem hi', List.flatMap_append, List.append_assoc]; simp
  ·
   rw [gx_nat hi', List.length_append]
   have := hg _ (List.getElem_mem hi')
   omega)
 rw [h1, h2.1]; simp
theorem rforE_errS {σ O : Type} {n : Nat} {step : Int → σ → Option (Res σ O)} {fin : σ → O} (S : Nat → σ) (err : Nat → Int) (mk : Int → O) (hn : (n : Int) ≤ 9223372036854775807)
  (hf : ∀ i : Nat, i < n → (∀ j, j < i → err j = 0) → step i (S i) = some (if err i = 0 then .nx (S (i + 1)) else .ab (mk (err i)))) :
  rforE (n : Int) step fin (S 0) = some (if firstErr ((List.range n).map err) = 0 then fin (S n) else mk (firstErr ((List.range n).map err))) := by
 have hfe : ∀ (k i : Nat), firstErr ((List.range' i k).map err) = 0 ∨ ∃ j, i ≤ j ∧ j < i + k ∧ (∀ q, i ≤ q → q < j → err q = 0) ∧ err j ≠ 0 ∧ firstErr ((List.range' i k).map err) = err j := by
  intro k
  induction k with
  | zero => intro i; left; rfl
  | succ k ih =>
   intro i
   rw [List.range'_succ, List.map_cons, firstErr_cons]
   by_cases h : err i = 0
   ·
    rw [if_pos h]
    rcases ih (i + 1) with h1 | ⟨j, h1, h2, h3, h4, h5⟩
    ·
     exact .inl h1
    ·
     refine .inr ⟨j, by omega, by omega, fun q q1 q2 => ?_, h4, h5⟩
     by_cases hq : q = i
     ·
      rw [hq]; exact h
     ·
      exact h3 q (by omega) q2
   ·
    rw [if_neg h]
    exact .inr ⟨i, Nat.le_refl _, by omega, fun q q1 q2 => by omega, h, rfl⟩
 obtain ⟨e, h1, h2⟩ := rforE_inv (n := (n : Int)) (step := step) (fin := fin) (s0 := S 0) (fun i s => s = S i ∧ ∀ j, j < i → err j = 0)
  (fun e => e = if firstErr ((List.range n).map err) = 0 then fin (S n) else mk (firstErr ((List.range n).map err))) hn ⟨rfl, fun j h => by omega⟩ (fun i s hi hI => by
   obtain ⟨rfl, hz⟩ := hI
   have hi' : i < n := by omega
   rw [hf i hi' hz]
   by_cases he : err i = 0
   ·
    left
    rw [if_pos he]
    refine ⟨_, rfl, rfl, fun j hj => ?_⟩
    by_cases hj' : j = i
    ·
     rw [hj']; exact he
    ·
     exact hz j (by omega)
   ·
    right
    rw [if_neg he]
    refine ⟨_, rfl, ?_⟩
    have := hfe n 0
    rw [List.range_eq_range']
    rcases this with h1 | ⟨j, a1, a2, a3, a4, a5⟩
    ·
     have := firstErr_zero.1 h1 (err i) (List.mem_map.2 ⟨i, by simp; exact hi', rfl⟩)
     exact absurd this he
    ·
     rw [a5, if_neg a4]
     have : j = i := by
      rcases Nat.lt_trichotomy j i with c | c | c
      ·
       exact absurd (hz j c) a4
      ·
       exact c
      ·
       exact absurd (a3 i (by omega) c) he
     rw [this]) (fun s hI => by
   obtain ⟨rfl, hz⟩ := hI
   have : firstErr ((List.range n).map err) = 0 := firstErr_zero.2 (fun e he => by
    obtain ⟨j, hj, rfl⟩ := List.mem_map.1 he
    exact hz j (by simpa using hj))
   rw [if_pos this]; rfl)
 rw [h1, h2]
def lowC (c : UInt8) : Bool := decide (97 ≤ c.toNat) && decide (c.toNat ≤ 122)
def nameC (c : UInt8) : Bool := lowC c || (decide (48 ≤ c.toNat) && decide (c.toNat ≤ 57)) || decide (c.toNat = 45)
def nameB (s : Str) : Bool := decide (s.b.length ≤ 40) && (match s.b with | [] => false | c :: l => lowC c && l.all nameC)
theorem nameB_ne {s : Str} (h : nameB s = true) : s ≠ Str.nil := by
 rintro rfl
 simp [nameB, Str.nil] at h
theorem trim_nil (l cs : List UInt8) : Go.Lib.trimS l cs = [] ↔ l.all (cs.contains ·) = true := by
 have hd : ∀ (m : List UInt8), m.dropWhile (cs.contains ·) = [] ↔ m.all (cs.contains ·) = true := by
  intro m
  induction m with
  | nil => simp
  | cons c m ih =>
   rw [List.dropWhile_cons, List.all_cons]
   cases h : cs.contains c with
   | true => simp only [if_true, Bool.true_and]; exact ih
   | false => simp
 unfold Go.Lib.trimS Go.Lib.trimLeftS
 rw [hd]
 unfold Go.Lib.trimRightS
 constructor
 ·
  intro h
  cases hq : l.reverse.dropWhile (cs.contains ·) with
  | nil =>
   have := (hd l.reverse).1 hq
   simpa using this
  | cons c m =>
   have hc : cs.contains c = false := by
    have := List.head?_dropWhile_not (cs.contains ·) l.reverse
    rw [hq] at this
    simpa using this
   rw [hq] at h
   have : c ∈ (c :: m).reverse := by simp
   have := List.all_eq_true.1 h c this
   rw [hc] at this; cases this
 ·
  intro h
  have : l.reverse.dropWhile (cs.contains ·) = [] := (hd _).2 (by simpa using h)
  rw [this]; rfl
theorem nameC_mem (c : UInt8) : ([97, 98, 99, 100, 101, 102, 103, 104, 105, 106, 107, 108, 109, 110, 111, 112, 113, 114, 115, 116, 117, 118, 119, 120, 121, 122, 48, 49, 50, 51, 52, 53, 54, 55, 56, 57, 45] : List UInt8).contains c = nameC c := by
 have h : ∀ n, n < 256 → ([97, 98, 99, 100, 101, 102, 103, 104, 105, 106, 107, 108, 109, 110, 111, 112, 113, 114, 115, 116, 117, 118, 119, 120, 121, 122, 48, 49, 50, 51, 52, 53, 54, 55, 56, 57, 45] : List UInt8).contains (UInt8.ofNat n) = nameC (UInt8.ofNat n) := by decide +kernel
 have := h c.toNat (UInt8.toNat_lt c)
 simpa using this
theorem low_int (c : UInt8) : (decide ((97 : Int) ≤ (c.toNat : Int)) && decide ((c.toNat : Int) ≤ 122)) = lowC c := by
 unfold lowC
 congr 1 <;> simp only [decide_eq_decide] <;> omega
theorem dig_int (c : UInt8) : (decide ((48 : Int) ≤ (c.toNat : Int)) && decide ((c.toNat : Int) ≤ 57)) = (decide (48 ≤ c.toNat) && decide (c.toNat ≤ 57)) := by
 congr 1 <;> simp only [decide_eq_decide] <;> omega
theorem dash_int (c : UInt8) : decide ((c.toNat : Int) = 45) = decide (c.toNat = 45) := by simp only [decide_eq_decide]; omega
theorem isName_eq (s : Str) : page_isName s = some (nameB s) := by
 obtain ⟨b⟩ := s
 unfold page_isName
 cases b with
 | nil => simp [need, Str.nil, nameB, gd, strings_Trim]
 | cons c l =>
  have hne : (⟨c :: l⟩ : Str) ≠ Str.nil := by simp [Str.nil]
  have hg : gx (c :: l) 0 = c := by simp [gx]
  have hin : inR (c :: l) 0 := ⟨by omega, by simp⟩
  rw [need_of (fun _ => hin), need_of (fun _ _ => hin)]
  simp only [hg, decide_eq_false hne, Bool.not_false, Bool.true_and]
  rw [low_int]
  unfold strings_Trim
  rw [need_of ⟨by decide, by decide⟩]
  have ht : decide (trimS ⟨c :: l⟩ (⟨[97, 98, 99, 100, 101, 102, 103, 104, 105, 106, 107, 108, 109, 110, 111, 112, 113, 114, 115, 116, 117, 118, 119, 120, 121, 122, 48, 49, 50, 51, 52, 53, 54, 55, 56, 57, 45]⟩ : Str) = Str.nil) = (c :: l).all nameC := by
   rw [Bool.eq_iff_iff, decide_eq_true_eq]
   unfold trimS Str.nil
   rw [Str.mk.injEq, trim_nil]
   have : (fun x => ([97, 98, 99, 100, 101, 102, 103, 104, 105, 106, 107, 108, 109, 110, 111, 112, 113, 114, 115, 116, 117, 118, 119, 120, 121, 122, 48, 49, 50, 51, 52, 53, 54, 55, 56, 57, 45] : List UInt8).contains x) = nameC := funext nameC_mem
   rw [this]
  have hlen : decide (((c :: l).length : Int) ≤ 40) = decide ((c :: l).length ≤ 40) := by simp only [decide_eq_decide]; omega
  unfold nameB
  simp only [hlen]
  cases hA : decide ((c :: l).length ≤ 40) with
  | false => simp [gd]
  | true =>
   cases hB : lowC c with
   | false => simp [gd]
   | true =>
    simp only [Bool.and_self, gd_true, Option.bind_some, Bool.true_and, ht, List.all_cons]
    have : nameC c = true := by simp [nameC, hB]
    rw [this, Bool.true_and]
theorem NameOf_eq {s : Str} (hs : fits s) : ref_NameOf s = some (nameB s) := by
 have hl : (s.b.length : Int) ≤ 9223372036854775807 := by have : s.b.length ≤ 9223372036854775807 := hs; omega
 obtain ⟨b⟩ := s
 unfold ref_NameOf
 simp only at hl ⊢
 let ok : Nat → Bool := fun i => match i with | 0 => lowC (gx b 0) | i + 1 => nameC (gx b ((i + 1 : Nat) : Int))
 have := rforE_errS (n := b.length) (step := ref_NameOf_L1 ⟨b⟩) (fin := fun s => (Res.nx s : Res Unit Bool)) (fun _ => ()) (fun i => if ok i = true then 0 else 1) (fun _ => Res.ab false) hl (fun i hi _ => by
  unfold ref_NameOf_L1
  have hin : inR b (i : Int) := ⟨by omega, by omega⟩
  rw [need_of hin, bnd_eq]
  simp only
  generalize hc : gx b (i : Int) = c
  rw [low_int, dig_int, dash_int]
  cases i with
  | zero =>
   have : ok 0 = lowC c := by show lowC (gx b 0) = _; rw [← hc]; rfl
   rw [this]
   cases lowC c <;> simp
  | succ i =>
   have : ok (i + 1) = nameC c := by show nameC (gx b ((i + 1 : Nat) : Int)) = _; rw [hc]
   rw [this]
   have h0 : decide (((i + 1 : Nat) : Int) = 0) = false := decide_eq_false (by omega)
   rw [h0]
   unfold nameC
   cases lowC c <;> cases (decide (48 ≤ c.toNat) && decide (c.toNat ≤ 57)) <;> cases decide (c.toNat = 45) <;> simp)
 rw [this]
 have hall : firstErr ((List.range b.length).map (fun i => if ok i = true then (0 : Int) else 1)) = 0 ↔ ∀ i, i < b.length → ok i = true := by
  rw [firstErr_zero]
  constructor
  ·
   intro h i hi
   have := h _ (List.mem_map.2 ⟨i, by simpa using hi, rfl⟩)
   by_cases c : ok i = true
   ·
    exact c
   ·
    rw [if_neg c] at this; cases this
  ·
   intro h e he
   obtain ⟨i, hi, rfl⟩ := List.mem_map.1 he
   rw [if_pos (h i (by simpa using hi))]
 cases b with
 | nil => simp [nameB, Str.nil]
 | cons c l =>
  have hok : (∀ i, i < (c :: l).length → ok i = true) ↔ (lowC c && l.all nameC) = true := by
   rw [Bool.and_eq_true, List.all_eq_true]
   constructor
   ·
    intro h
    refine ⟨h 0 (by simp), fun x hx => ?_⟩
    obtain ⟨j, hj, rfl⟩ := List.mem_iff_getElem.1 hx
    have := h (j + 1) (by simp; exact hj)
    have e : gx (c :: l) ((j + 1 : Nat) : Int) = l[j] := by rw [gx_nat (by simp; exact hj)]; rfl
    rw [← e]; exact this
   ·
    rintro ⟨h1, h2⟩ i hi
    cases i with
    | zero => exact h1
    | succ i =>
     show nameC (gx (c :: l) ((i + 1 : Nat) : Int)) = true
     rw [gx_nat hi]
     exact h2 _ (by simp)
  have hne : (⟨c :: l⟩ : Str) ≠ Str.nil := by simp [Str.nil]
  unfold nameB
  by_cases h : (lowC c && l.all nameC) = true
  ·
   rw [if_pos (hall.2 (hok.2 h))]
   simp only [bindR_nx, decide_eq_false hne, h, Bool.not_false, Bool.true_and, Bool.and_true]
   congr 1
   simp only [decide_eq_decide]; omega
  ·
   have h' : (lowC c && l.all nameC) = false := by simpa using h
   rw [if_neg (fun e => h (hok.1 (hall.1 e)))]
   simp [h']
def badB (b : UInt8) : Bool := (decide (b.toNat < 32) && !decide (b.toNat = 10)) || decide (b.toNat = 127)
def textErr (s : Str) : Int := if 1000 < s.b.length then 4 else if validS s = true ∧ s.b.any badB = false then 0 else 2
theorem badB_eq (b : UInt8) : ((decide ((⟨(b.toNat : Int)⟩ : KI .u8).n < (⟨32⟩ : KI .u8).n) && !decide ((⟨(b.toNat : Int)⟩ : KI .u8).n = (⟨10⟩ : KI .u8).n)) || decide ((⟨(b.toNat : Int)⟩ : KI .u8).n = (⟨127⟩ : KI .u8).n)) = badB b := by
 unfold badB
 have e1 : decide ((⟨(b.toNat : Int)⟩ : KI .u8).n < (⟨32⟩ : KI .u8).n) = decide (b.toNat < 32) := by simp; omega
 have e2 : decide ((⟨(b.toNat : Int)⟩ : KI .u8).n = (⟨10⟩ : KI .u8).n) = decide (b.toNat = 10) := by simp; omega
 have e3 : decide ((⟨(b.toNat : Int)⟩ : KI .u8).n = (⟨127⟩ : KI .u8).n) = decide (b.toNat = 127) := by simp; omega
 rw [e1, e2, e3]
theorem CheckText_eq (s : Str) : shape_CheckText s = some (textErr s) := by
 unfold shape_CheckText
 by_cases h : 1000 < s.b.length
 ·
  rw [decide_eq_true (by omega), show textErr s = 4 by unfold textErr; rw [if_pos h]]; rfl
 ·
  rw [decide_eq_false (by omega), cond_false]
  simp only [utf8_ValidString, Option.bind_some]
  cases hv : validS s with
  | false => rw [show textErr s = 2 by unfold textErr; rw [if_neg h, hv, if_neg (fun x => by cases x.1)]]; rfl
  | true =>
   simp only [Bool.not_true, cond_false]
   rw [rforE_err (fun b => if badB b = true then 2 else 0) (fun e => (Res.ab e : Res Unit Int)) (by omega) (fun i hi => by
    unfold shape_CheckText_L1
    rw [need_of hi, need_of (fun _ => hi), need_of (fun _ => hi), badB_eq]
    cases badB (gx s.b i) <;> simp)]
   by_cases hb : s.b.any badB = true
   ·
    rw [show textErr s = 2 by unfold textErr; rw [if_neg h, hb, if_neg (fun x => by cases x.2)]]
    have hne : firstErr (s.b.map (fun b => if badB b = true then (2 : Int) else 0)) = 2 := by
     clear h hv
     generalize s.b = l at hb
     induction l with
     | nil => simp at hb
     | cons b l ih =>
      rw [List.map_cons, firstErr_cons]
      by_cases c : badB b = true
      ·
       rw [c]; simp
      ·
       rw [if_pos (by simp [c])]
       exact ih (by simpa [c] using hb)
    rw [hne]; simp
   ·
    have hb' : s.b.any badB = false := by simpa using hb
    rw [show textErr s = 0 by unfold textErr; rw [if_neg h, if_pos ⟨hv, hb'⟩]]
    have hz : firstErr (s.b.map (fun b => if badB b = true then (2 : Int) else 0)) = 0 := firstErr_zero.2 (fun e he => by
     obtain ⟨b, hbm, rfl⟩ := List.mem_map.1 he
     have : badB b = false := by
      cases q : badB b with
      | false => rfl
      | true => exact absurd (List.any_eq_true.2 ⟨b, hbm, q⟩) hb
     rw [this]; simp)
    rw [hz]; simp
theorem TextError_eq {s : Str} (hs : fits s) : ref_TextError s = some (textErr s) := by
 have hl : (s.b.length : Int) ≤ 9223372036854775807 := by have : s.b.length ≤ 9223372036854775807 := hs; omega
 unfold ref_TextError
 simp only [utf8_ValidString, Option.bind_some, bnd_eq]
 rw [rfor_fold (l := s.b) (fun a b => a || badB b) hl (fun i a hi => by
  unfold ref_TextError_L1
  rw [need_of (fun _ => hi), need_of (fun _ _ => hi), need_of (fun _ => hi), bnd_eq]
  rw [Bool.or_assoc, badB_eq])]
 have hf : ∀ (l : List UInt8) (a : Bool), l.foldl (fun a b => a || badB b) a = (a || l.any badB) := by
  intro l
  induction l with
  | nil => intro a; simp
  | cons b l ih => intro a; rw [List.foldl_cons, ih, List.any_cons, Bool.or_assoc]
 rw [hf, Option.bind_some, When_eq, When_eq, Option.bind_some, Option.bind_some, First_eq (by simp), Option.bind_some]
 congr 1
 unfold textErr
 by_cases h : 1000 < s.b.length
 ·
  rw [if_pos h, if_pos (by simp; omega)]; rfl
 ·
  rw [if_neg h, if_neg (by simp; omega)]
  by_cases h2 : validS s = true ∧ s.b.any badB = false
  ·
   rw [if_pos h2]; simp [h2]
  ·
   rw [if_neg h2]
   have : (!validS s || s.b.any badB) = true := by
    cases a : validS s
    ·
     simp
    ·
     cases b : s.b.any badB
     ·
      exact absurd ⟨a, b⟩ h2
     ·
      simp
   rw [if_pos (by simpa using this)]; simp
def nodeAt (l : List DNode) (id : Str) : Int := match l.findIdx? (fun n => decide (n.Id = id)) with | some i => (i : Int) | none => -1
theorem IndexFunc_Node_eq (s : List DNode) (f : DNode → Option Bool) (p : DNode → Bool) (hl : (s.length : Int) ≤ 9223372036854775807) (hf : ∀ x ∈ s, f x = some (p x)) :
  slices_IndexFunc_Node s f = some (match s.findIdx? p with | some i => (i : Int) | none => -1) := by
 unfold slices_IndexFunc_Node
 rw [rforE_index p hl (fun i h => by unfold slices_IndexFunc_Node_L1; rw [need_of ⟨by omega, by omega⟩, gx_nat h, hf _ (List.getElem_mem h)]; simp only [bind_sm]; cases p s[i] <;> rfl)]
 cases s.findIdx? p <;> rfl
theorem ContainsFunc_Node_eq (s : List DNode) (f : DNode → Option Bool) (p : DNode → Bool) (hl : (s.length : Int) ≤ 9223372036854775807) (hf : ∀ x ∈ s, f x = some (p x)) :
  slices_ContainsFunc_Node s f = some (s.any p) := by
 unfold slices_ContainsFunc_Node
 rw [IndexFunc_Node_eq s f p hl hf, bind_sm]
 exact congrArg some idx_any
theorem IndexFunc_Edge_eq (s : List DEdge) (f : DEdge → Option Bool) (p : DEdge → Bool) (hl : (s.length : Int) ≤ 9223372036854775807) (hf : ∀ x ∈ s, f x = some (p x)) :
  slices_IndexFunc_Edge s f = some (match s.findIdx? p with | some i => (i : Int) | none => -1) := by
 unfold slices_IndexFunc_Edge
 rw [rforE_index p hl (fun i h => by unfold slices_IndexFunc_Edge_L1; rw [need_of ⟨by omega, by omega⟩, gx_nat h, hf _ (List.getElem_mem h)]; simp only [bind_sm]; cases p s[i] <;> rfl)]
 cases s.findIdx? p <;> rfl
theorem ContainsFunc_Edge_eq (s : List DEdge) (f : DEdge → Option Bool) (p : DEdge → Bool) (hl : (s.length : Int) ≤ 9223372036854775807) (hf : ∀ x ∈ s, f x = some (p x)) :
  slices_ContainsFunc_Edge s f = some (s.any p) := by
 unfold slices_ContainsFunc_Edge
 rw [IndexFunc_Edge_eq s f p hl hf, bind_sm]
 exact congrArg some idx_any
theorem NodeAt_eq {d : Doc} (hl : (d.Nodes.length : Int) ≤ 9223372036854775807) (id : Str) : ref_NodeAt d id = some (nodeAt d.Nodes id) := by
 unfold ref_NodeAt
 rw [IndexFunc_Node_eq d.Nodes (fun x0 => ref_NodeAt_1 x0 id) (fun n => decide (n.Id = id)) hl (fun x _ => rfl)]
 rfl
theorem nodeAt_neg {l : List DNode} {id : Str} : nodeAt l id < 0 ↔ ∀ n ∈ l, n.Id ≠ id := by
 unfold nodeAt
 cases h : l.findIdx? (fun n => decide (n.Id = id)) with
 | none =>
  rw [List.findIdx?_eq_none_iff] at h
  simpa using h
 | some i =>
  obtain ⟨hi, hp, _⟩ := List.findIdx?_eq_some_iff_getElem.1 h
  simp only
  constructor
  ·
   intro h; omega
  ·
   intro h; exact absurd (by simpa using hp) (h _ (List.getElem_mem hi))
theorem nodeAt_pos {l : List DNode} {id : Str} (h : ∃ n ∈ l, n.Id = id) : inR l (nodeAt l id) ∧ (gx l (nodeAt l id)).Id = id := by
 unfold nodeAt
 cases hq : l.findIdx? (fun n => decide (n.Id = id)) with
 | none =>
  rw [List.findIdx?_eq_none_iff] at hq
  obtain ⟨n, hn, e⟩ := h
  exact absurd e (by simpa using hq n hn)
 | some i =>
  obtain ⟨hi, hp, _⟩ := List.findIdx?_eq_some_iff_getElem.1 hq
  refine ⟨⟨by simp, by simp only; omega⟩, ?_⟩
  simp only
  rw [gx_nat hi]; simpa using hp
theorem nodeAt_of {l : List DNode} (hd : (l.map (·.Id)).Nodup) {i : Nat} (hi : i < l.length) : nodeAt l l[i].Id = i := by
 unfold nodeAt
 have : l.findIdx? (fun n => decide (n.Id = l[i].Id)) = some i := by
  rw [List.findIdx?_eq_some_iff_getElem]
  refine ⟨hi, by simp, fun j hj => ?_⟩
  simp only [decide_eq_true_eq]
  intro e
  have := List.pairwise_iff_getElem.1 hd j i (by simp; omega) (by simpa using hi) hj
  simp at this
  exact this e
 rw [this]
def idxs (l : List DNode) (p : Str) : List Int := ((List.range l.length).filter (fun (i : Nat) => decide ((gx l (i : Int)).Parent = p))).map (fun (i : Nat) => (i : Int))
theorem gx_left {α : Type} [Inhabited α] {l m : List α} {i : Nat} (hi : i < l.length) : gx (l ++ m) (i : Int) = gx l (i : Int) := by
 rw [gx_nat hi, gx_nat (by simp; omega), List.getElem_append_left hi]
theorem gx_end {α : Type} [Inhabited α] {l : List α} {x : α} : gx (l ++ [x]) (l.length : Int) = x := by
 rw [gx_nat (by simp)]; simp
theorem idxs_snoc {l : List DNode} {x : DNode} {p : Str} : idxs (l ++ [x]) p = idxs l p ++ (if x.Parent = p then [(l.length : Int)] else []) := by
 unfold idxs
 rw [List.length_append, List.length_singleton, List.range_succ, List.filter_append, List.map_append]
 congr 1
 ·
  congr 1
  refine List.filter_congr fun i hi => ?_
  rw [gx_left (by simpa using hi)]
 ·
  by_cases h : x.Parent = p
  ·
   simp [h, gx_end]
  ·
   simp [h, gx_end]
theorem idxs_mem {l : List DNode} {p : Str} {k : Int} : k ∈ idxs l p ↔ inR l k ∧ (gx l k).Parent = p := by
 unfold idxs
 simp only [List.mem_map, List.mem_filter, List.mem_range, decide_eq_true_eq]
 constructor
 ·
  rintro ⟨i, ⟨h1, h2⟩, rfl⟩; exact ⟨⟨by omega, by omega⟩, h2⟩
 ·
  rintro ⟨⟨h1, h2⟩, h3⟩
  refine ⟨k.toNat, ⟨by omega, ?_⟩, by omega⟩
  rw [show ((k.toNat : Nat) : Int) = k by omega]; exact h3
theorem idxs_map {l : List DNode} {p : Str} : (idxs l p).map (gx l) = l.filter (fun n => decide (n.Parent = p)) := by
 have key : ∀ (k : Nat), k ≤ l.length → (idxs (l.take k) p).map (gx l) = (l.take k).filter (fun n => decide (n.Parent = p)) := by
  intro k
  induction k with
  | zero => intro _; rfl
  | succ k ih =>
   intro hk
   rw [List.take_succ_eq_append_getElem (by omega), idxs_snoc, List.map_append, ih (by omega), List.filter_append]
   congr 1
   have hlen : (l.take k).length = k := by simp; omega
   by_cases h : (l[k]'(by omega)).Parent = p
   ·
    rw [if_pos h, hlen]; simp [h, gx_nat (show k < l.length by omega)]
   ·
    rw [if_neg h]; simp [h]
 have := key l.length (Nat.le_refl _)
 rwa [List.take_length] at this
def numM (l : List DNode) : GMap Str Int := ⟨fun id => (l.findIdx? (fun n => decide (n.Id = id))).map (fun (i : Nat) => (i : Int))⟩
def memM (l : List DNode) : GMap Str (List Int) := ⟨fun p => if p ≠ Str.nil ∧ idxs l p ≠ [] then some (idxs l p) else none⟩
theorem numM_snoc {l : List DNode} {x : DNode} (h : ∀ n ∈ l, n.Id ≠ x.Id) : numM (l ++ [x]) = (numM l).set x.Id l.length := by
 unfold numM GMap.set
 congr 1
 funext id
 rw [List.findIdx?_append]
 by_cases he : id = x.Id
 ·
  subst he
  have : l.findIdx? (fun n => decide (n.Id = x.Id)) = none := by
   rw [List.findIdx?_eq_none_iff]
   intro n hn
   simpa using h n hn
  rw [this, if_pos rfl]
  simp [List.findIdx?_cons]
 ·
  rw [if_neg he]
  have : [x].findIdx? (fun n => decide (n.Id = id)) = none := by
   rw [List.findIdx?_eq_none_iff]
   intro n hn
   have : n = x := by simpa using hn
   subst this
   simpa using fun e => he e.symm
  rw [this]
  simp only
  cases l.findIdx? (fun n => decide (n.Id = id)) <;> rfl
theorem memM_getD {l : List DNode} {p : Str} (hp : p ≠ Str.nil) : (memM l).getD p [] = idxs l p := by
 unfold memM GMap.getD
 simp only
 by_cases h : idxs l p = []
 ·
  rw [if_neg (by simp [h])]; simp [h]
 ·
  rw [if_pos ⟨hp, h⟩]; rfl
theorem memM_snoc0 {l : List DNode} {x : DNode} (h : x.Parent = Str.nil) : memM (l ++ [x]) = memM l := by
 unfold memM
 congr 1
 funext p
 by_cases hp : p = Str.nil
 ·
  simp [hp]
 ·
  have e : (if x.Parent = p then [(l.length : Int)] else []) = [] := if_neg (fun e => hp (by rw [← e, h]))
  rw [idxs_snoc, e, List.append_nil]
theorem memM_snoc {l : List DNode} {x : DNode} (h : x.Parent ≠ Str.nil) : memM (l ++ [x]) = (memM l).set x.Parent ((memM l).getD x.Parent [] ++ [(l.length : Int)]) := by
 rw [memM_getD h]
 unfold memM GMap.set
 congr 1
 funext p
 simp only
 by_cases hp : p = x.Parent
 ·
  subst hp
  rw [if_pos rfl, idxs_snoc, if_pos rfl, if_pos ⟨h, by simp⟩]
 ·
  have e : (if x.Parent = p then [(l.length : Int)] else []) = [] := if_neg (fun e => hp e.symm)
  rw [if_neg hp, idxs_snoc, e, List.append_nil]
theorem numM_has {l : List DNode} {id : Str} : (numM l).has id = decide (0 ≤ nodeAt l id) := by
 unfold numM GMap.has nodeAt
 simp only
 cases l.findIdx? (fun n => decide (n.Id = id)) <;> simp
theorem numM_getD {l : List DNode} {id : Str} (h : 0 ≤ nodeAt l id) : (numM l).getD id 0 = nodeAt l id := by
 unfold numM GMap.getD nodeAt at *
 simp only at *
 cases hq : l.findIdx? (fun n => decide (n.Id = id)) with
 | none => rw [hq] at h; simp at h
 | some i => rfl
def viewD (d : Doc) : Page_view := ⟨d, numM d.Nodes, memM d.Nodes⟩
theorem viewOf_eq {d : Doc} (hl : d.Nodes.length ≤ 500) (hd : (d.Nodes.map (·.Id)).Nodup) : page_viewOf d = some (some (viewD d)) := by
 unfold page_viewOf
 simp only [bnd_eq]
 have hlen : ∀ k p, (idxs (d.Nodes.take k) p).length ≤ 500 := fun k p => by
  unfold idxs
  rw [List.length_map]
  refine Nat.le_trans (List.length_filter_le _ _) ?_
  simp; omega
 obtain ⟨s, h1, h2⟩ := rfor_inv (n := (d.Nodes.length : Int)) (step := page_viewOf_L1 d) (s0 := (GMap.nil, GMap.nil)) (fun i s => s = (numM (d.Nodes.take i), memM (d.Nodes.take i))) (by omega) (by
  simp only [List.take_zero]
  have e1 : numM [] = (GMap.nil : GMap Str Int) := rfl
  have e2 : memM [] = (GMap.nil : GMap Str (List Int)) := by
   unfold memM GMap.nil
   congr 1
   funext p
   rw [if_neg (fun h => h.2 rfl)]
  rw [e1, e2]) (fun i s hi hI => by
  subst hI
  have hi' : i < d.Nodes.length := by omega
  have hln : (d.Nodes.take i).length = i := by simp; omega
  have hnew : ∀ n ∈ d.Nodes.take i, n.Id ≠ d.Nodes[i].Id := fun n hn => by
   obtain ⟨j, hj, rfl⟩ := List.mem_iff_getElem.1 hn
   rw [List.getElem_take]
   have hj' : j < i := by simp at hj; omega
   have := List.pairwise_iff_getElem.1 hd j i (by simp; omega) (by simpa using hi') hj'
   simpa using this
  unfold page_viewOf_L1
  rw [need_of ⟨by omega, by omega⟩, gx_nat hi', bnd_eq, bnd_eq, List.take_succ_eq_append_getElem hi', numM_snoc hnew, hln]
  simp only
  by_cases hp : d.Nodes[i].Parent = Str.nil
  ·
   rw [decide_eq_true hp, memM_snoc0 hp]
   exact ⟨_, rfl, rfl⟩
  ·
   rw [decide_eq_false hp, memM_snoc hp, hln]
   rw [memM_getD hp]
   refine ⟨_, ?_, rfl⟩
   simp only [Bool.not_false, cond_true]
   rw [need_of]
   show _ ≤ 1073741824
   have := hlen i d.Nodes[i].Parent
   simp; omega)
 rw [h1, h2]
 simp [viewD]
theorem members_eq {d : Doc} (hl : d.Nodes.length ≤ 500) (id : Str) : ref_members d id = some (d.Nodes.filter (fun n => decide (n.Parent = id))) := by
 unfold ref_members
 rw [rfor_gather (fun n => if n.Parent = id then [n] else []) [] (fun a _ => by split <;> simp) (by simp; omega) (fun i s hi hs => by
  unfold ref_members_L1
  rw [need_of hi, bnd_eq]
  by_cases h : (gx d.Nodes i).Parent = id
  ·
   rw [decide_eq_true h, if_pos h, cond_true, need_of]
   show _ ≤ 1073741824
   simp; omega
  ·
   rw [decide_eq_false h, if_neg h, cond_false, List.append_nil])]
 simp only [List.nil_append, Option.bind_some]
 congr 1
 generalize d.Nodes = l
 induction l with
 | nil => rfl
 | cons n l ih =>
  rw [List.flatMap_cons, ih, List.filter_cons]
  by_cases h : n.Parent = id <;> simp [h]
theorem nodup_subD {α : Type} [DecidableEq α] : ∀ (l m : List α), l.Nodup → (∀ x ∈ l, x ∈ m) → l.length ≤ m.length
 | [], m, _, _ => by simp
 | x :: l, m, hn, hs => by
  have hx := hs x (by simp)
  have hn' := List.nodup_cons.1 hn
  have := nodup_subD l (m.erase x) hn'.2 (fun y hy => by
   have hne : y ≠ x := fun e => hn'.1 (e ▸ hy)
   rw [List.mem_erase_of_ne hne]; exact hs y (by simp [hy]))
  rw [List.length_erase_of_mem hx] at this
  have := List.length_pos_of_mem hx
  simp; omega
def par (l : List DNode) (n : DNode) : DNode := gx l (nodeAt l n.Parent)
def anc (l : List DNode) (n : DNode) : Nat → DNode
 | 0 => n
 | k + 1 => par l (anc l n k)
theorem anc_add {l : List DNode} {n : DNode} {i : Nat} : ∀ t, anc l n (i + t) = anc l (anc l n i) t
 | 0 => rfl
 | t + 1 => by
  show par l (anc l n (i + t)) = par l (anc l (anc l n i) t)
  rw [anc_add t]
def ParIn (l : List DNode) : Prop := ∀ n ∈ l, n.Parent ≠ Str.nil → ∃ g ∈ l, g.Id = n.Parent
theorem par_mem {l : List DNode} (hp : ParIn l) {n : DNode} (hn : n ∈ l) (h : n.Parent ≠ Str.nil) : par l n ∈ l ∧ (par l n).Id = n.Parent := by
 obtain ⟨h1, h2⟩ := nodeAt_pos (hp n hn h)
 exact ⟨gx_mem h1, h2⟩
theorem anc_mem {l : List DNode} (hp : ParIn l) {n : DNode} (hn : n ∈ l) : ∀ k, (∀ j, j < k → (anc l n j).Parent ≠ Str.nil) → anc l n k ∈ l
 | 0, _ => hn
 | k + 1, h => (par_mem hp (anc_mem hp hn k (fun j hj => h j (by omega))) (h k (by omega))).1
def Up (l : List DNode) (n : DNode) (m : Int) (b : Bool) : Prop :=
 (b = false ∧ ∃ k : Nat, m = k ∧ (anc l n k).Parent = Str.nil ∧ ∀ j, j < k → (anc l n j).Parent ≠ Str.nil ∧ (anc l n j).Parent ≠ n.Id) ∨
 ∃ k : Nat, m = k + 1 ∧ (∀ j, j ≤ k → (anc l n j).Parent ≠ Str.nil) ∧ (b = true ↔ (anc l n k).Parent = n.Id) ∧ (b = false → k = l.length ∧ ∀ j, j ≤ k → (anc l n j).Parent ≠ n.Id)
theorem ends {l : List DNode} (hp : ParIn l) (hu : ∀ n ∈ l, ∃ m, Up l n m false) {n : DNode} (hn : n ∈ l) {m : Int} (h : Up l n m false) : ∃ k : Nat, m = k ∧ (anc l n k).Parent = Str.nil ∧ ∀ j, j < k → (anc l n j).Parent ≠ Str.nil := by
 rcases h with ⟨_, k, h1, h2, h3⟩ | ⟨k, h1, h2, h3, h4⟩
 ·
  exact ⟨k, h1, h2, fun j hj => (h3 j hj).1⟩
 ·
  exfalso
  obtain ⟨rfl, h5⟩ := h4 rfl
  have hmem : ∀ j, j ≤ l.length → anc l n j ∈ l := fun j hj => anc_mem hp hn j (fun q hq => h2 q (by omega))
  have hnd : ¬ ((List.range (l.length + 1)).map (anc l n)).Nodup := fun hd => by
   have := nodup_subD _ l hd (fun x hx => by
    obtain ⟨j, hj, rfl⟩ := List.mem_map.1 hx
    exact hmem j (by have := List.mem_range.1 hj; omega))
   rw [List.length_map, List.length_range] at this
   omega
  have : ∃ i j, i < j ∧ j ≤ l.length ∧ anc l n i = anc l n j := by
   apply Classical.byContradiction
   intro hne
   apply hnd
   rw [List.nodup_iff_pairwise_ne, List.pairwise_iff_getElem]
   intro i j hi hj hij e
   simp only [List.length_map, List.length_range] at hi hj
   simp at e
   exact hne ⟨i, j, hij, by omega, e⟩
  obtain ⟨i, j, hij, hj, he⟩ := this
  let a := anc l n i
  have ha : a ∈ l := hmem i (by omega)
  let q := j - i - 1
  have hq : (anc l a q).Parent = a.Id := by
   have e1 : anc l a q = anc l n (j - 1) := by
    rw [← anc_add]
    congr 1
    omega
   have e2 := (par_mem hp (hmem (j - 1) (by omega)) (h2 (j - 1) (by omega))).2
   have e3 : par l (anc l n (j - 1)) = a := by
    show anc l n (j - 1 + 1) = a
    rw [show j - 1 + 1 = j by omega, ← he]
   rw [e1, ← e2, e3]
  have hnn : ∀ t, t ≤ q → (anc l a t).Parent ≠ Str.nil := fun t ht => by
   rw [← anc_add]
   exact h2 _ (by omega)
  obtain ⟨m', hm'⟩ := hu a ha
  rcases hm' with ⟨_, k, g1, g2, g3⟩ | ⟨k, g1, g2, g3, g4⟩
  ·
   by_cases hk : k ≤ q
   ·
    exact hnn k hk g2
   ·
    exact (g3 q (by omega)).2 hq
  ·
   obtain ⟨rfl, g5⟩ := g4 rfl
   exact g5 q (by omega) hq
theorem view_node {d : Doc} {p : Str} (h : ∃ g ∈ d.Nodes, g.Id = p) : page_view_node (viewD d) p = some (gx d.Nodes (nodeAt d.Nodes p)) := by
 obtain ⟨h1, h2⟩ := nodeAt_pos h
 unfold page_view_node viewD
 simp only [bnd_eq]
 rw [numM_getD h1.1, need_of h1]
theorem above_both {d : Doc} (hl : d.Nodes.length ≤ 500) (hp : ParIn d.Nodes) {n : DNode} (hn : n ∈ d.Nodes) : ∃ m b, page_view_above (viewD d) n = some (m, !b) ∧ ref_above d n = some (m, b) ∧ Up d.Nodes n m b := by
 obtain ⟨e, e', h1, h2, h3⟩ := loop_inv2 (body := page_view_above_L1 n (viewD d)) (body' := ref_above_L1 d n) (s0 := ((0 : Int), n)) (t0 := ((0 : Int), n.Parent))
  (fun s t => ∃ k : Nat, k ≤ d.Nodes.length ∧ s = ((k : Int), anc d.Nodes n k) ∧ t = ((k : Int), (anc d.Nodes n k).Parent) ∧ ∀ j, j < k → (anc d.Nodes n j).Parent ≠ Str.nil ∧ (anc d.Nodes n j).Parent ≠ n.Id)
  (fun s => (d.Nodes.length + 1 - s.1).toNat)
  (fun e e' => (∃ k : Nat, e = Res.nx (k : Int) ∧ e' = Res.nx (k : Int) ∧ Up d.Nodes n k false) ∨ ∃ m b, e = Res.ab (m, !b) ∧ e' = Res.ab (m, b) ∧ Up d.Nodes n m b)
  ⟨0, by omega, rfl, rfl, fun j hj => by omega⟩ (fun s t hR => by
   obtain ⟨k, hk, rfl, rfl, hbef⟩ := hR
   have hmem : anc d.Nodes n k ∈ d.Nodes := anc_mem hp hn k (fun j hj => (hbef j hj).1)
   unfold page_view_above_L1 ref_above_L1
   simp only [bnd_eq]
   by_cases hnil : (anc d.Nodes n k).Parent = Str.nil
   ·
    right
    refine ⟨Res.nx (k : Int), Res.nx (k : Int), by rw [decide_eq_true hnil]; rfl, by rw [decide_eq_true hnil]; rfl, .inl ⟨k, rfl, rfl, .inl ⟨rfl, k, rfl, hnil, hbef⟩⟩⟩
   ·
    rw [decide_eq_false hnil]
    simp only [Bool.not_false, cond_true]
    have hw : W ((k : Int) + 1) = (k : Int) + 1 := Wk (by omega) (by omega)
    rw [hw]
    have hv : (viewD d).d.Nodes = d.Nodes := rfl
    rw [hv]
    have hall : ∀ j, j ≤ k → (anc d.Nodes n j).Parent ≠ Str.nil := fun j hj => by
     rcases Nat.lt_or_eq_of_le hj with h | h
     ·
      exact (hbef j h).1
     ·
      rw [h]; exact hnil
    by_cases hid : (anc d.Nodes n k).Parent = n.Id
    ·
     right
     rw [decide_eq_true hid]
     simp only [Bool.true_or, cond_true]
     refine ⟨Res.ab ((k : Int) + 1, !true), Res.ab ((k : Int) + 1, true), rfl, rfl, .inr ⟨_, true, rfl, rfl, .inr ⟨k, rfl, hall, by simp [hid], fun h => by cases h⟩⟩⟩
    ·
     rw [decide_eq_false hid]
     simp only [Bool.false_or]
     by_cases hlen : (d.Nodes.length : Int) < (k : Int) + 1
     ·
      right
      rw [decide_eq_true hlen]
      refine ⟨Res.ab ((k : Int) + 1, !false), Res.ab ((k : Int) + 1, false), rfl, rfl, .inr ⟨_, false, rfl, rfl, .inr ⟨k, rfl, hall, by simp [hid], fun _ => ⟨by omega, fun j hj => ?_⟩⟩⟩⟩
      rcases Nat.lt_or_eq_of_le hj with h | h
      ·
       exact (hbef j h).2
      ·
       rw [h]; exact hid
     ·
      left
      rw [decide_eq_false hlen]
      have hex := hp _ hmem hnil
      rw [view_node hex, NodeAt_eq (by omega), cond_false, cond_false, Option.bind_some, Option.bind_some, need_of (nodeAt_pos hex).1]
      refine ⟨_, _, rfl, rfl, ⟨k + 1, by omega, by rw [Int.natCast_add]; rfl, by rw [Int.natCast_add]; rfl, fun j hj => ?_⟩, by simp only; omega⟩
      rcases Nat.lt_or_eq_of_le (Nat.lt_succ_iff.1 hj) with h | h
      ·
       exact hbef j h
      ·
       rw [h]; exact ⟨hnil, hid⟩)
 unfold page_view_above ref_above
 rw [h1, h2]
 rcases h3 with ⟨k, rfl, rfl, h3⟩ | ⟨m, b, rfl, rfl, h3⟩
 ·
  exact ⟨k, false, rfl, rfl, h3⟩
 ·
  exact ⟨m, b, rfl, rfl, h3⟩
theorem tree_both {d : Doc} (hl : d.Nodes.length ≤ 500) (hid : ∀ n ∈ d.Nodes, n.Id ≠ Str.nil) : ∃ e, page_view_checkGroups (viewD d) = some e ∧ ref_treeError d = some e ∧
  (e = 0 → (∀ n ∈ d.Nodes, n.Parent ≠ Str.nil → ∃ g ∈ d.Nodes, g.Id = n.Parent ∧ (par d.Nodes n).Kind = 6) ∧ (∀ n ∈ d.Nodes, ∃ k : Nat, k ≤ 8 ∧ (anc d.Nodes n k).Parent = Str.nil ∧ ∀ j, j < k → (anc d.Nodes n j).Parent ≠ Str.nil) ∧
   ∀ n ∈ d.Nodes, n.Kind = 6 → idxs d.Nodes n.Id ≠ []) := by
 have hll : (d.Nodes.length : Int) ≤ 9223372036854775807 := by omega
 have hv : (viewD d).d.Nodes = d.Nodes := rfl
 have hvn : (viewD d).number = numM d.Nodes := rfl
 have hvm : (viewD d).members = memM d.Nodes := rfl
 let err1 : DNode → Int := fun n => if n.Parent ≠ Str.nil ∧ (nodeAt d.Nodes n.Parent < 0 ∨ (par d.Nodes n).Kind ≠ 6) then 10 else 0
 have p1 : rforE (d.Nodes.length : Int) (page_view_checkGroups_L1 (viewD d)) (fun s => Res.nx s) () = some (if firstErr (d.Nodes.map err1) = 0 then Res.nx () else Res.ab (firstErr (d.Nodes.map err1))) :=
  rforE_err err1 (fun e => (Res.ab e : Res Unit Int)) hll (fun i hi => by
   unfold page_view_checkGroups_L1
   rw [hv, hvn, need_of hi, bnd_eq]
   have hneed : (!decide ((gx d.Nodes i).Parent = Str.nil)) = true → (!(numM d.Nodes).has (gx d.Nodes i).Parent) = false → inR d.Nodes ((numM d.Nodes).getD (gx d.Nodes i).Parent 0) := fun _ h2 => by
    rw [numM_has] at h2
    have : 0 ≤ nodeAt d.Nodes (gx d.Nodes i).Parent := by simpa using h2
    rw [numM_getD this]
    apply Classical.byContradiction
    intro hc
    have := nodeAt_pos (l := d.Nodes) (id := (gx d.Nodes i).Parent) (Classical.byContradiction fun hne => by
     have : nodeAt d.Nodes (gx d.Nodes i).Parent < 0 := nodeAt_neg.2 (fun n hn e => hne ⟨n, hn, e⟩)
     omega)
    exact hc this.1
   rw [need_of hneed, numM_has]
   by_cases h0 : (gx d.Nodes i).Parent = Str.nil
   ·
    rw [show err1 (gx d.Nodes i) = 0 from if_neg (fun h => h.1 h0)]
    simp [h0]
   ·
    by_cases hneg : nodeAt d.Nodes (gx d.Nodes i).Parent < 0
    ·
     rw [show err1 (gx d.Nodes i) = 10 from if_pos ⟨h0, .inl hneg⟩]
     have : ¬ 0 ≤ nodeAt d.Nodes (gx d.Nodes i).Parent := by omega
     simp [h0, this]
    ·
     have hge : 0 ≤ nodeAt d.Nodes (gx d.Nodes i).Parent := by omega
     rw [numM_getD hge]
     by_cases hk : (par d.Nodes (gx d.Nodes i)).Kind = 6
     ·
      rw [show err1 (gx d.Nodes i) = 0 from if_neg (fun h => h.2.elim hneg (fun h => h hk))]
      unfold par at hk
      simp [h0, hge, hk]
     ·
      rw [show err1 (gx d.Nodes i) = 10 from if_pos ⟨h0, .inr hk⟩]
      unfold par at hk
      simp [h0, hge, hk])
 have q1 : rforE (d.Nodes.length : Int) (ref_treeError_L1 d) (fun s => Res.nx s) () = some (if firstErr (d.Nodes.map err1) = 0 then Res.nx () else Res.ab (firstErr (d.Nodes.map err1))) :=
  rforE_err err1 (fun e => (Res.ab e : Res Unit Int)) hll (fun i hi => by
   unfold ref_treeError_L1
   rw [need_of hi, bnd_eq, NodeAt_eq hll, Option.bind_some]
   have hneed : (!decide ((gx d.Nodes i).Parent = Str.nil)) = true → decide (nodeAt d.Nodes (gx d.Nodes i).Parent < 0) = false → inR d.Nodes (nodeAt d.Nodes (gx d.Nodes i).Parent) := fun _ h2 => by
    have h2 : ¬ nodeAt d.Nodes (gx d.Nodes i).Parent < 0 := by simpa using h2
    exact (nodeAt_pos (l := d.Nodes) (id := (gx d.Nodes i).Parent) (Classical.byContradiction fun hne => h2 (nodeAt_neg.2 (fun n hn e => hne ⟨n, hn, e⟩)))).1
   rw [need_of hneed]
   by_cases h0 : (gx d.Nodes i).Parent = Str.nil
   ·
    rw [show err1 (gx d.Nodes i) = 0 from if_neg (fun h => h.1 h0)]
    simp [h0]
   ·
    by_cases hneg : nodeAt d.Nodes (gx d.Nodes i).Parent < 0
    ·
     rw [show err1 (gx d.Nodes i) = 10 from if_pos ⟨h0, .inl hneg⟩]
     simp [h0, hneg]
    ·
     by_cases hk : (par d.Nodes (gx d.Nodes i)).Kind = 6
     ·
      rw [show err1 (gx d.Nodes i) = 0 from if_neg (fun h => h.2.elim hneg (fun h => h hk))]
      unfold par at hk
      simp [h0, hneg, hk]
     ·
      rw [show err1 (gx d.Nodes i) = 10 from if_pos ⟨h0, .inr hk⟩]
      unfold par at hk
      simp [h0, hneg, hk])
 by_cases h1 : firstErr (d.Nodes.map err1) = 0
 case neg =>
  refine ⟨firstErr (d.Nodes.map err1), ?_, ?_, fun h => absurd h h1⟩
  ·
   unfold page_view_checkGroups; rw [hv, p1, if_neg h1]; rfl
  ·
   unfold ref_treeError; rw [q1, if_neg h1]; rfl
 have hgood : ∀ n ∈ d.Nodes, n.Parent ≠ Str.nil → ∃ g ∈ d.Nodes, g.Id = n.Parent ∧ (par d.Nodes n).Kind = 6 := fun n hn hne => by
  have := firstErr_zero.1 h1 _ (List.mem_map_of_mem hn)
  have hx : ¬ (n.Parent ≠ Str.nil ∧ (nodeAt d.Nodes n.Parent < 0 ∨ (par d.Nodes n).Kind ≠ 6)) := fun h => by
   have e : err1 n = 10 := if_pos h
   rw [e] at this; cases this
  have hk : (par d.Nodes n).Kind = 6 := Classical.byContradiction fun hk => hx ⟨hne, .inr hk⟩
  have hge : ¬ nodeAt d.Nodes n.Parent < 0 := fun h => hx ⟨hne, .inl h⟩
  apply Classical.byContradiction
  intro hno
  exact hge (nodeAt_neg.2 (fun g hg e => hno ⟨g, hg, e, hk⟩))
 have hpar : ParIn d.Nodes := fun n hn hne => by
  obtain ⟨g, h1, h2, _⟩ := hgood n hn hne
  exact ⟨g, h1, h2⟩
 let A : DNode → Int × Bool := fun n => (ref_above d n).getD (0, false)
 have hA : ∀ n ∈ d.Nodes, page_view_above (viewD d) n = some ((A n).1, !(A n).2) ∧ ref_above d n = some (A n) ∧ Up d.Nodes n (A n).1 (A n).2 := fun n hn => by
  obtain ⟨m, b, g1, g2, g3⟩ := above_both hl hpar hn
  have e : A n = (m, b) := by show (ref_above d n).getD _ = _; rw [g2]; rfl
  rw [e]; exact ⟨g1, g2, g3⟩
 let err2 : DNode → Int := fun n => if (A n).2 = true then 13 else 0
 let err3 : DNode → Int := fun n => if 8 < (A n).1 then 4 else 0
 let err4 : DNode → Int := fun n => if n.Kind = 6 ∧ idxs d.Nodes n.Id = [] then 9 else 0
 have p2 : rforE (d.Nodes.length : Int) (page_view_checkGroups_L2 (viewD d)) (fun s => Res.nx s) () = some (if firstErr (d.Nodes.map err2) = 0 then Res.nx () else Res.ab (firstErr (d.Nodes.map err2))) :=
  rforE_err err2 (fun e => (Res.ab e : Res Unit Int)) hll (fun i hi => by
   unfold page_view_checkGroups_L2
   rw [hv, need_of hi, bnd_eq, (hA _ (gx_mem hi)).1, Option.bind_some]
   by_cases h : (A (gx d.Nodes i)).2 = true
   ·
    rw [show err2 (gx d.Nodes i) = 13 from if_pos h]; simp [h]
   ·
    rw [show err2 (gx d.Nodes i) = 0 from if_neg h]; simp [h])
 have q2 : rforE (d.Nodes.length : Int) (ref_treeError_L2 d) (fun s => Res.nx s) () = some (if firstErr (d.Nodes.map err2) = 0 then Res.nx () else Res.ab (firstErr (d.Nodes.map err2))) :=
  rforE_err err2 (fun e => (Res.ab e : Res Unit Int)) hll (fun i hi => by
   unfold ref_treeError_L2
   rw [need_of hi, bnd_eq, (hA _ (gx_mem hi)).2.1, Option.bind_some]
   by_cases h : (A (gx d.Nodes i)).2 = true
   ·
    rw [show err2 (gx d.Nodes i) = 13 from if_pos h]; simp [h]
   ·
    rw [show err2 (gx d.Nodes i) = 0 from if_neg h]; simp [h])
 have p3 : rforE (d.Nodes.length : Int) (page_view_checkGroups_L3 (viewD d)) (fun s => Res.nx s) () = some (if firstErr (d.Nodes.map err3) = 0 then Res.nx () else Res.ab (firstErr (d.Nodes.map err3))) :=
  rforE_err err3 (fun e => (Res.ab e : Res Unit Int)) hll (fun i hi => by
   unfold page_view_checkGroups_L3
   rw [hv, need_of hi, bnd_eq, (hA _ (gx_mem hi)).1, Option.bind_some]
   by_cases h : 8 < (A (gx d.Nodes i)).1
   ·
    rw [show err3 (gx d.Nodes i) = 4 from if_pos h]; simp [h]
   ·
    rw [show err3 (gx d.Nodes i) = 0 from if_neg h]; simp [h])
 have q3 : rforE (d.Nodes.length : Int) (ref_treeError_L3 d) (fun s => Res.nx s) () = some (if firstErr (d.Nodes.map err3) = 0 then Res.nx () else Res.ab (firstErr (d.Nodes.map err3))) :=
  rforE_err err3 (fun e => (Res.ab e : Res Unit Int)) hll (fun i hi => by
   unfold ref_treeError_L3
   rw [need_of hi, bnd_eq, (hA _ (gx_mem hi)).2.1, Option.bind_some]
   by_cases h : 8 < (A (gx d.Nodes i)).1
   ·
    rw [show err3 (gx d.Nodes i) = 4 from if_pos h]; simp [h]
   ·
    rw [show err3 (gx d.Nodes i) = 0 from if_neg h]; simp [h])
 have hlen : ∀ p, (d.Nodes.filter (fun n => decide (n.Parent = p))).length = (idxs d.Nodes p).length := fun p => by rw [← idxs_map, List.length_map]
 have p4 : rforE (d.Nodes.length : Int) (page_view_checkGroups_L4 (viewD d)) (fun s => Res.nx s) () = some (if firstErr (d.Nodes.map err4) = 0 then Res.nx () else Res.ab (firstErr (d.Nodes.map err4))) :=
  rforE_err err4 (fun e => (Res.ab e : Res Unit Int)) hll (fun i hi => by
   unfold page_view_checkGroups_L4
   rw [hv, hvm, need_of hi, bnd_eq, memM_getD (hid _ (gx_mem hi))]
   by_cases h : (gx d.Nodes i).Kind = 6 ∧ idxs d.Nodes (gx d.Nodes i).Id = []
   ·
    rw [show err4 (gx d.Nodes i) = 9 from if_pos h]; simp [h.1, h.2]
   ·
    rw [show err4 (gx d.Nodes i) = 0 from if_neg h]
    by_cases h2 : (gx d.Nodes i).Kind = 6
    ·
     have h3 : idxs d.Nodes (gx d.Nodes i).Id ≠ [] := fun e => h ⟨h2, e⟩
     simp [h2, h3]
    ·
     simp [h2])
 have q4 : rforE (d.Nodes.length : Int) (ref_treeError_L4 d) (fun s => Res.nx s) () = some (if firstErr (d.Nodes.map err4) = 0 then Res.nx () else Res.ab (firstErr (d.Nodes.map err4))) :=
  rforE_err err4 (fun e => (Res.ab e : Res Unit Int)) hll (fun i hi => by
   unfold ref_treeError_L4
   rw [need_of hi, bnd_eq, members_eq hl]
   by_cases h2 : (gx d.Nodes i).Kind = 6
   ·
    rw [decide_eq_true h2, gd_true, Option.bind_some, hlen]
    by_cases h3 : idxs d.Nodes (gx d.Nodes i).Id = []
    ·
     rw [show err4 (gx d.Nodes i) = 9 from if_pos ⟨h2, h3⟩]; simp [h3]
    ·
     rw [show err4 (gx d.Nodes i) = 0 from if_neg (fun h => h3 h.2)]; simp [h3]
   ·
    rw [show err4 (gx d.Nodes i) = 0 from if_neg (fun h => h2 h.1), decide_eq_false h2]; simp [gd])
 unfold page_view_checkGroups ref_treeError
 rw [hv, p1, p2, p3, p4, q1, q2, q3, q4, if_pos h1, bindR_nx]
 by_cases h2 : firstErr (d.Nodes.map err2) = 0
 case neg => rw [if_neg h2]; exact ⟨_, rfl, rfl, fun h => absurd h h2⟩
 rw [if_pos h2, bindR_nx]
 by_cases h3 : firstErr (d.Nodes.map err3) = 0
 case neg => rw [if_neg h3]; exact ⟨_, rfl, rfl, fun h => absurd h h3⟩
 rw [if_pos h3, bindR_nx]
 by_cases h4 : firstErr (d.Nodes.map err4) = 0
 case neg => rw [if_neg h4]; exact ⟨_, rfl, rfl, fun h => absurd h h4⟩
 rw [if_pos h4, bindR_nx]
 have hu : ∀ n ∈ d.Nodes, Up d.Nodes n (A n).1 false := fun n hn => by
  have := firstErr_zero.1 h2 _ (List.mem_map_of_mem hn)
  have hb : (A n).2 = false := by
   cases hb : (A n).2 with
   | false => rfl
   | true =>
    have e : err2 n = 13 := if_pos hb
    rw [e] at this; cases this
  have := (hA n hn).2.2
  rwa [hb] at this
 refine ⟨0, rfl, rfl, fun _ => ⟨hgood, fun n hn => ?_, fun n hn hk he => ?_⟩⟩
 ·
  obtain ⟨k, e1, e2, e3⟩ := ends hpar (fun n hn => ⟨_, hu n hn⟩) hn (hu n hn)
  refine ⟨k, ?_, e2, e3⟩
  have := firstErr_zero.1 h3 _ (List.mem_map_of_mem hn)
  apply Classical.byContradiction
  intro hc
  have e : err3 n = 4 := if_pos (by omega)
  rw [e] at this; cases this
 ·
  have := firstErr_zero.1 h4 _ (List.mem_map_of_mem hn)
  have e : err4 n = 9 := if_pos ⟨hk, he⟩
  rw [e] at this; cases this
def zeroB : Box := ⟨0, 0, 0, 0⟩
theorem gboxes_eq {l : List Box} (hl : (l.length : Int) ≤ 9223372036854775807) : geom_boxes l = some (firstErr (l.map boxErr)) := by
 unfold geom_boxes
 rw [rforE_err boxErr (fun e => (Res.ab e : Res Unit Int)) hl (fun i hi => by
  unfold geom_boxes_L1
  rw [need_of hi, bnd_eq, CheckBox_eq, Option.bind_some]
  by_cases h : boxErr (gx l i) = 0 <;> simp [h])]
 by_cases h : firstErr (l.map boxErr) = 0 <;> simp [h]
theorem hull_both {l : List Box} (hok : ∀ b ∈ l, okB b) (hl : l.length ≤ 1000) : ∃ b e, geom_Hull l = some (b, e) ∧ ref_HullOf l = some (b, e) ∧ (e = 0 → okB b) := by
 unfold geom_Hull ref_HullOf
 simp only [bnd_eq]
 rw [decide_eq_false (show ¬ (1000 : Int) < (l.length : Int) by omega), gboxes_eq (by omega)]
 have hz : firstErr (l.map boxErr) = 0 := firstErr_zero.2 (fun e he => by
  obtain ⟨b, hb, rfl⟩ := List.mem_map.1 he
  exact boxErr_zero.2 (hok b hb))
 rw [hz]
 simp only [cond_false, Option.bind_some, decide_true, Bool.not_true]
 by_cases h0 : l = []
 ·
  subst h0
  refine ⟨zeroB, 9, rfl, rfl, fun h => by cases h⟩
 have hpos : 0 < l.length := List.length_pos_iff.2 h0
 rw [decide_eq_false (show ¬ (l.length : Int) = 0 by omega)]
 have hin : inR l 0 := ⟨by omega, by omega⟩
 simp only [cond_false, need_of hin]
 obtain ⟨s, t, h1, h2, h3⟩ := rfor_inv2 (n := (l.length : Int)) (step := geom_Hull_L1 l) (step' := ref_HullOf_L1 l) (s0 := gx l 0) (t0 := ((gx l 0).X, (gx l 0).Y, (gx l 0).X, (gx l 0).Y))
  (fun k s t => (k = 0 ∧ s = gx l 0 ∧ t = ((gx l 0).X, (gx l 0).Y, (gx l 0).X, (gx l 0).Y)) ∨ (s = ⟨t.1, t.2.1, t.2.2.1 - t.1, t.2.2.2 - t.2.1⟩ ∧ -1000000 ≤ t.1 ∧ t.1 ≤ 1000000 ∧ -1000000 ≤ t.2.1 ∧ t.2.1 ≤ 1000000 ∧ t.1 < t.2.2.1 ∧ t.2.2.1 ≤ 1020000 ∧ t.2.1 < t.2.2.2 ∧ t.2.2.2 ≤ 1020000))
  (by omega) (.inl ⟨rfl, rfl, rfl⟩) (fun i s t hi hI => by
   have hi' : i < l.length := by omega
   have hb := hok _ (List.getElem_mem hi')
   unfold geom_Hull_L1 ref_HullOf_L1
   rw [need_of ⟨by omega, by omega⟩, need_of ⟨by omega, by omega⟩, gx_nat hi']
   simp only [bnd_eq]
   refine ⟨_, _, rfl, rfl, .inr ?_⟩
   have hv0 : i = 0 → l[i] = gx l 0 := fun h => by subst h; exact (gx_nat hi').symm
   generalize l[i] = v at *
   obtain ⟨x1, x2, y1, y2, w1, w2, g1, g2⟩ := hb
   rcases hI with ⟨rfl, rfl, rfl⟩ | ⟨rfl, c1, c2, c3, c4, c5, c6, c7, c8⟩
   ·
    rw [← hv0 rfl]
    simp only [Int.min_self]
    rw [Wk (n := v.X + v.W_) (by omega) (by omega), Wk (n := v.Y + v.H) (by omega) (by omega), Int.max_self, Int.max_self, show max v.X (v.X + v.W_) = v.X + v.W_ by omega, show max v.Y (v.Y + v.H) = v.Y + v.H by omega,
     Wk (n := v.X + v.W_ - v.X) (by omega) (by omega), Wk (n := v.Y + v.H - v.Y) (by omega) (by omega)]
    refine ⟨rfl, by omega, by omega, by omega, by omega, by omega, by omega, by omega, by omega⟩
   ·
    have q1 : W (t.1 + (t.2.2.1 - t.1)) = t.2.2.1 := by rw [Wk (by omega) (by omega)]; omega
    have q2 : W (t.2.1 + (t.2.2.2 - t.2.1)) = t.2.2.2 := by rw [Wk (by omega) (by omega)]; omega
    have q3 : W (v.X + v.W_) = v.X + v.W_ := Wk (by omega) (by omega)
    have q4 : W (v.Y + v.H) = v.Y + v.H := Wk (by omega) (by omega)
    simp only [q1, q2, q3, q4]
    rw [Wk (n := max t.2.2.1 (v.X + v.W_) - min t.1 v.X) (by omega) (by omega), Wk (n := max t.2.2.2 (v.Y + v.H) - min t.2.1 v.Y) (by omega) (by omega)]
    refine ⟨rfl, by omega, by omega, by omega, by omega, by omega, by omega, by omega, by omega⟩)
 rw [h1, h2]
 simp only [Option.bind_some]
 rcases h3 with ⟨h, _⟩ | ⟨rfl, c1, c2, c3, c4, c5, c6, c7, c8⟩
 ·
  have : (l.length : Int).toNat = l.length := by omega
  omega
 ·
  rw [Wk (n := t.2.2.1 - t.1) (by omega) (by omega), Wk (n := t.2.2.2 - t.2.1) (by omega) (by omega)]
  by_cases h : 20000 < t.2.2.1 - t.1 ∨ 20000 < t.2.2.2 - t.2.1
  ·
   have e : (decide (20000 < t.2.2.1 - t.1) || decide (20000 < t.2.2.2 - t.2.1)) = true := by simpa using h
   rw [e]
   exact ⟨zeroB, 4, rfl, rfl, fun h => by cases h⟩
  ·
   have e : (decide (20000 < t.2.2.1 - t.1) || decide (20000 < t.2.2.2 - t.2.1)) = false := by simpa using h
   rw [e]
   refine ⟨_, 0, rfl, rfl, fun _ => ?_⟩
   unfold okB
   simp only
   omega
theorem grow_both {h : Box} (hh : okB h) : ∃ b e, geom_Grow h 10 = some (b, e) ∧ ref_BoxError (⟨W (h.X - 10), W (h.Y - 10), W (h.W_ + 20), W (h.H + 20)⟩ : Box) = some e ∧ (e = 0 → b = (⟨W (h.X - 10), W (h.Y - 10), W (h.W_ + 20), W (h.H + 20)⟩ : Box) ∧ okB b) := by
 obtain ⟨x1, x2, y1, y2, w1, w2, g1, g2⟩ := id hh
 unfold geom_Grow
 simp only [bnd_eq]
 have e2 : W (2 * 10) = 20 := Wk (by omega) (by omega)
 rw [CheckBox_eq, boxErr_zero.2 hh, BoxError_eq, e2]
 rw [Wk (n := h.X - 10) (by omega) (by omega), Wk (n := h.Y - 10) (by omega) (by omega), Wk (n := h.W_ + 20) (by omega) (by omega), Wk (n := h.H + 20) (by omega) (by omega)]
 simp only [Option.bind_some, decide_true, Bool.not_true, cond_false]
 have e3 : (decide ((10 : Int) < -20000) || decide ((20000 : Int) < 10)) = false := by decide
 rw [e3, cond_false]
 have e4 : (decide (h.W_ + 20 < 1) || decide (h.H + 20 < 1)) = false := by
  rw [decide_eq_false (by omega), decide_eq_false (by omega)]; rfl
 rw [e4, cond_false, CheckBox_eq, Option.bind_some]
 by_cases h0 : boxErr (⟨h.X - 10, h.Y - 10, h.W_ + 20, h.H + 20⟩ : Box) = 0
 ·
  rw [h0]
  exact ⟨_, 0, rfl, rfl, fun _ => ⟨rfl, boxErr_zero.1 h0⟩⟩
 ·
  rw [decide_eq_false h0]
  exact ⟨_, _, rfl, rfl, fun h => absurd h h0⟩
theorem box_step {d : Doc} (hl : d.Nodes.length ≤ 500) (hd : (d.Nodes.map (·.Id)).Nodup) (hid : ∀ n ∈ d.Nodes, n.Id ≠ Str.nil) (hb : ∀ n ∈ d.Nodes, n.Kind ≠ 6 → okB n.Box)
  {i : Nat} (hi : i < d.Nodes.length) (R : Int → (Box × Int) × Box) (hR : ∀ c ∈ idxs d.Nodes d.Nodes[i].Id, (R c).1.2 = 0 → (R c).1.1 = (R c).2 ∧ okB (R c).2) :
  ∃ b e b', (e = 0 → b = b' ∧ okB b') ∧ ∀ (slf : Page_view × Int → Option (Box × Int)) (slf' : Doc × Str → Option (Box × Int)),
   (d.Nodes[i].Kind = 6 → ∀ c ∈ idxs d.Nodes d.Nodes[i].Id, slf (viewD d, c) = some (R c).1 ∧ slf' (d, (gx d.Nodes c).Id) = some ((R c).2, (R c).1.2)) →
   page_view_boxOf_body slf (viewD d, (i : Int)) = some (b, e) ∧ ref_BoxOfNode_body slf' (d, d.Nodes[i].Id) = some (b', e) := by
 have hin : inR d.Nodes (i : Int) := ⟨by omega, by omega⟩
 have hn := List.getElem_mem hi
 have hv : (viewD d).d.Nodes = d.Nodes := rfl
 have hvm : (viewD d).members = memM d.Nodes := rfl
 by_cases hk : d.Nodes[i].Kind = 6
 case neg =>
  refine ⟨d.Nodes[i].Box, 0, d.Nodes[i].Box, fun _ => ⟨rfl, hb _ hn hk⟩, fun slf slf' _ => ⟨?_, ?_⟩⟩
  ·
   unfold page_view_boxOf_body
   simp only [bnd_eq]
   rw [hv, need_of hin, gx_nat hi, decide_eq_false hk]; rfl
  ·
   unfold ref_BoxOfNode_body
   simp only [bnd_eq]
   rw [NodeAt_eq (by omega), nodeAt_of hd hi, Option.bind_some, need_of hin, gx_nat hi, decide_eq_false hk]; rfl
 generalize hks : idxs d.Nodes d.Nodes[i].Id = ks at *
 have hkl : ks.length ≤ 500 := by
  rw [← hks]; unfold idxs
  rw [List.length_map]
  refine Nat.le_trans (List.length_filter_le _ _) ?_
  simp; omega
 let err : Nat → Int := fun k => (R (gx ks (k : Int))).1.2
 let E := firstErr ((List.range ks.length).map err)
 have loop1 : ∀ (slf : Page_view × Int → Option (Box × Int)), (∀ c ∈ ks, slf (viewD d, c) = some (R c).1) →
   rforE (ks.length : Int) (page_view_boxOf_L1 slf (viewD d, (i : Int)) ks) (fun s => Res.nx s) ([] : List Box) = some (if E = 0 then Res.nx (ks.map (fun c => (R c).1.1)) else Res.ab (zeroB, E)) := fun slf hs => by
  have := rforE_errS (n := ks.length) (step := page_view_boxOf_L1 slf (viewD d, (i : Int)) ks) (fin := fun s => (Res.nx s : Res (List Box) (Box × Int))) (fun k => (ks.take k).map (fun c => (R c).1.1)) err (fun e => Res.ab (zeroB, e)) (by omega) (fun k hk _ => by
   unfold page_view_boxOf_L1
   have hink : inR ks (k : Int) := ⟨by omega, by omega⟩
   rw [need_of hink, hs _ (gx_mem hink), Option.bind_some]
   by_cases h : err k = 0
   ·
    have h' : (R (gx ks (k : Int))).1.2 = 0 := h
    rw [if_pos h, h']
    simp only [decide_true, Bool.not_true, cond_false]
    rw [need_of (by show _ ≤ _; simp; omega), List.take_succ_eq_append_getElem hk, List.map_append, gx_nat hk]
    rfl
   ·
    have h' : ¬ (R (gx ks (k : Int))).1.2 = 0 := h
    rw [if_neg h, decide_eq_false h']
    rfl)
  simp only [List.take_zero, List.map_nil, List.take_length] at this
  exact this
 have loop2 : ∀ (slf' : Doc × Str → Option (Box × Int)), (∀ c ∈ ks, slf' (d, (gx d.Nodes c).Id) = some ((R c).2, (R c).1.2)) →
   rforE ((ks.map (gx d.Nodes)).length : Int) (ref_BoxOfNode_L1 slf' (d, d.Nodes[i].Id) (ks.map (gx d.Nodes))) (fun s => Res.nx s) ([] : List Box) = some (if E = 0 then Res.nx (ks.map (fun c => (R c).2)) else Res.ab (zeroB, E)) := fun slf' hs => by
  rw [List.length_map]
  have := rforE_errS (n := ks.length) (step := ref_BoxOfNode_L1 slf' (d, d.Nodes[i].Id) (ks.map (gx d.Nodes))) (fin := fun s => (Res.nx s : Res (List Box) (Box × Int))) (fun k => (ks.take k).map (fun c => (R c).2)) err (fun e => Res.ab (zeroB, e)) (by omega) (fun k hk _ => by
   unfold ref_BoxOfNode_L1
   have hink : inR ks (k : Int) := ⟨by omega, by omega⟩
   have hg : gx (ks.map (gx d.Nodes)) (k : Int) = gx d.Nodes (gx ks (k : Int)) := by rw [gx_nat (by simpa using hk), gx_nat hk]; simp
   rw [need_of ⟨by omega, by simp; omega⟩, bnd_eq, hg, hs _ (gx_mem hink), Option.bind_some]
   by_cases h : err k = 0
   ·
    have h' : (R (gx ks (k : Int))).1.2 = 0 := h
    rw [if_pos h, h']
    simp only [decide_true, Bool.not_true, cond_false]
    rw [need_of (by show _ ≤ _; simp; omega), List.take_succ_eq_append_getElem hk, List.map_append, gx_nat hk]
    rfl
   ·
    have h' : ¬ (R (gx ks (k : Int))).1.2 = 0 := h
    rw [if_neg h, decide_eq_false h']
    rfl)
  simp only [List.take_zero, List.map_nil, List.take_length] at this
  exact this
 have hfil : d.Nodes.filter (fun n => decide (n.Parent = d.Nodes[i].Id)) = ks.map (gx d.Nodes) := by rw [← hks]; exact idxs_map.symm
 have r1 : ∀ slf, page_view_boxOf_body slf (viewD d, (i : Int)) = bindR (σ := (List Box)) (ρ := (Box × Int)) (rforE (ks.length : Int) (page_view_boxOf_L1 slf (viewD d, (i : Int)) ks) (fun s => Res.nx s) ([] : List Box)) fun j =>
   Option.bind (geom_Hull j) fun r2 => bif !decide (r2.2 = 0) then some (zeroB, r2.2) else Option.bind (geom_Grow r2.1 10) fun r3 => some (r3.1, r3.2) := fun slf => by
  unfold page_view_boxOf_body
  simp only [bnd_eq]
  rw [hv, hvm, need_of hin, gx_nat hi, decide_eq_true hk, memM_getD (hid _ hn), hks]
  rfl
 have r2 : ∀ slf', ref_BoxOfNode_body slf' (d, d.Nodes[i].Id) = bindR (σ := (List Box)) (ρ := (Box × Int)) (rforE ((ks.map (gx d.Nodes)).length : Int) (ref_BoxOfNode_L1 slf' (d, d.Nodes[i].Id) (ks.map (gx d.Nodes))) (fun s => Res.nx s) ([] : List Box)) fun j =>
   Option.bind (ref_HullOf j) fun r4 => bif !decide (r4.2 = 0) then some (zeroB, r4.2) else Option.bind (ref_BoxError (⟨W (r4.1.X - 10), W (r4.1.Y - 10), W (r4.1.W_ + 20), W (r4.1.H + 20)⟩ : Box)) fun r5 => some ((⟨W (r4.1.X - 10), W (r4.1.Y - 10), W (r4.1.W_ + 20), W (r4.1.H + 20)⟩ : Box), r5) := fun slf' => by
  unfold ref_BoxOfNode_body
  simp only [bnd_eq]
  rw [NodeAt_eq (by omega), nodeAt_of hd hi, Option.bind_some, need_of hin, gx_nat hi, decide_eq_true hk, members_eq hl, Option.bind_some, hfil]
  rfl
 by_cases hE : E = 0
 case neg =>
  refine ⟨zeroB, E, zeroB, fun h => absurd h hE, fun slf slf' hs => ?_⟩
  rw [r1, r2, loop1 slf (fun c hc => (hs hk c hc).1), loop2 slf' (fun c hc => (hs hk c hc).2), if_neg hE, if_neg hE]
  exact ⟨rfl, rfl⟩
 have hz : ∀ c ∈ ks, (R c).1.2 = 0 := fun c hc => by
  obtain ⟨k, hk', rfl⟩ := List.mem_iff_getElem.1 hc
  have := firstErr_zero.1 hE (err k) (List.mem_map.2 ⟨k, by simpa using hk', rfl⟩)
  show (R ks[k]).1.2 = 0
  rw [← gx_nat hk']; exact this
 have hsame : ks.map (fun c => (R c).1.1) = ks.map (fun c => (R c).2) := List.map_congr_left fun c hc => (hR c hc (hz c hc)).1
 obtain ⟨b, e, h1, h2, h3⟩ := hull_both (l := ks.map (fun c => (R c).2)) (fun b hb => by
  obtain ⟨c, hc, rfl⟩ := List.mem_map.1 hb
  exact (hR c hc (hz c hc)).2) (by simp; omega)
 by_cases he : e = 0
 case neg =>
  refine ⟨zeroB, e, zeroB, fun h => absurd h he, fun slf slf' hs => ?_⟩
  rw [r1, r2, loop1 slf (fun c hc => (hs hk c hc).1), loop2 slf' (fun c hc => (hs hk c hc).2), if_pos hE, if_pos hE, bindR_nx, bindR_nx, hsame, h1, h2, Option.bind_some, Option.bind_some, decide_eq_false he]
  exact ⟨rfl, rfl⟩
 obtain ⟨b2, e2, g1, g2, g3⟩ := grow_both (h3 he)
 refine ⟨b2, e2, _, fun h => ⟨(g3 h).1, (g3 h).1 ▸ (g3 h).2⟩, fun slf slf' hs => ?_⟩
 rw [r1, r2, loop1 slf (fun c hc => (hs hk c hc).1), loop2 slf' (fun c hc => (hs hk c hc).2), if_pos hE, if_pos hE, bindR_nx, bindR_nx, hsame, h1, h2, Option.bind_some, Option.bind_some, decide_eq_true he]
 simp only [Bool.not_true, cond_false]
 rw [g1, g2]
 exact ⟨rfl, rfl⟩
def Dp (l : List DNode) (n : DNode) (m : Nat) : Prop := (anc l n m).Parent = Str.nil ∧ ∀ j, j < m → (anc l n j).Parent ≠ Str.nil
theorem Dp.uni {l : List DNode} {n : DNode} {m m' : Nat} (h : Dp l n m) (h' : Dp l n m') : m = m' := by
 rcases Nat.lt_trichotomy m m' with c | c | c
 ·
  exact absurd h.1 (h'.2 m c)
 ·
  exact c
 ·
  exact absurd h'.1 (h.2 m' c)
theorem par_at {l : List DNode} (hd : (l.map (·.Id)).Nodup) {i : Nat} (hi : i < l.length) {c : DNode} (hc : c.Parent = l[i].Id) : par l c = l[i] := by
 unfold par
 rw [hc, nodeAt_of hd hi, gx_nat hi]
theorem anc_par {l : List DNode} {c : DNode} : ∀ k, anc l c (k + 1) = anc l (par l c) k
 | 0 => rfl
 | k + 1 => by
  show par l (anc l c (k + 1)) = par l (anc l (par l c) k)
  rw [anc_par k]
theorem Dp.kid {l : List DNode} {c : DNode} {m : Nat} (hc : c.Parent ≠ Str.nil) (h : Dp l (par l c) m) : Dp l c (m + 1) := by
 refine ⟨by rw [anc_par]; exact h.1, fun j hj => ?_⟩
 cases j with
 | zero => exact hc
 | succ j => rw [anc_par]; exact h.2 j (by omega)
theorem box_both {d : Doc} (hl : d.Nodes.length ≤ 500) (hd : (d.Nodes.map (·.Id)).Nodup) (hid : ∀ n ∈ d.Nodes, n.Id ≠ Str.nil) (hb : ∀ n ∈ d.Nodes, n.Kind ≠ 6 → okB n.Box) (hdp : ∀ n ∈ d.Nodes, ∃ k, k ≤ 8 ∧ Dp d.Nodes n k)
  {i : Nat} (hi : i < d.Nodes.length) : ∃ b e b', page_view_boxOf (viewD d) (i : Int) = some (b, e) ∧ ref_BoxOfNode d d.Nodes[i].Id = some (b', e) ∧ (e = 0 → b = b' ∧ okB b') := by
 have key : ∀ (f m : Nat) (i : Nat) (hi : i < d.Nodes.length), Dp d.Nodes d.Nodes[i] m → 9 ≤ m + f → ∃ b e b', (e = 0 → b = b' ∧ okB b') ∧
   ∀ N, f ≤ N → fixN page_view_boxOf_body N (viewD d, (i : Int)) = some (b, e) ∧ fixN ref_BoxOfNode_body N (d, d.Nodes[i].Id) = some (b', e) := by
  intro f
  induction f with
  | zero =>
   intro m i hi hm hf
   obtain ⟨k, hk, hk2⟩ := hdp _ (List.getElem_mem hi)
   have := hm.uni hk2
   omega
  | succ f ih =>
   intro m i hi hm hf
   have hkid : ∀ c ∈ idxs d.Nodes d.Nodes[i].Id, ∃ (x : (Box × Int) × Box), (x.1.2 = 0 → x.1.1 = x.2 ∧ okB x.2) ∧ ∀ N, f ≤ N → fixN page_view_boxOf_body N (viewD d, c) = some x.1 ∧ fixN ref_BoxOfNode_body N (d, (gx d.Nodes c).Id) = some (x.2, x.1.2) := fun c hc => by
    obtain ⟨hin, hp⟩ := idxs_mem.1 hc
    obtain ⟨j, rfl⟩ : ∃ j : Nat, c = j := ⟨c.toNat, by have := hin.1; omega⟩
    have hj : j < d.Nodes.length := by have := hin.2; omega
    rw [gx_nat hj] at hp ⊢
    have hpe := par_at hd hi hp
    obtain ⟨b, e, b', h1, h2⟩ := ih (m + 1) j hj (Dp.kid (by rw [hp]; exact hid _ (List.getElem_mem hi)) (by rw [hpe]; exact hm)) (by omega)
    exact ⟨((b, e), b'), h1, h2⟩
   let R : Int → (Box × Int) × Box := fun c => if h : c ∈ idxs d.Nodes d.Nodes[i].Id then (hkid c h).choose else ((zeroB, 0), zeroB)
   have hR : ∀ c (h : c ∈ idxs d.Nodes d.Nodes[i].Id), R c = (hkid c h).choose := fun c h => dif_pos h
   obtain ⟨b, e, b', h1, h2⟩ := box_step hl hd hid hb hi R (fun c hc => by rw [hR c hc]; exact (hkid c hc).choose_spec.1)
   refine ⟨b, e, b', h1, fun N hN => ?_⟩
   obtain ⟨N, rfl⟩ : ∃ q, N = q + 1 := ⟨N - 1, by omega⟩
   exact h2 (fixN page_view_boxOf_body N) (fixN ref_BoxOfNode_body N) (fun _ c hc => by rw [hR c hc]; exact (hkid c hc).choose_spec.2 N (by omega))
 obtain ⟨k, hk, hk2⟩ := hdp _ (List.getElem_mem hi)
 obtain ⟨b, e, b', h1, h2⟩ := key 9 k i hi hk2 (by omega)
 exact ⟨b, e, b', fixp_of 9 (fun N hN => (h2 N hN).1), fixp_of 9 (fun N hN => (h2 N hN).2), h1⟩
theorem fe_if {c : Prop} [Decidable c] {e : Int} {l : List Int} (he : e ≠ 0) : firstErr ((if c then 0 else e) :: l) = if c then firstErr l else e := by
 by_cases h : c <;> simp [h, he]
theorem fe_if2 {c : Prop} [Decidable c] {e : Int} {l : List Int} (he : e ≠ 0) : firstErr ((if c then e else 0) :: l) = if c then e else firstErr l := by
 by_cases h : c <;> simp [h, he]
theorem fe_app : ∀ (l m : List Int), firstErr (l ++ m) = if firstErr l = 0 then firstErr m else firstErr l
 | [], m => by simp
 | e :: l, m => by
  rw [List.cons_append, firstErr_cons, firstErr_cons, fe_app l m]
  by_cases h : e = 0 <;> simp [h]
def clsErr (s : Str) : Int := if s = Str.nil ∨ nameB s = true then 0 else 5
def nodeErr (n : DNode) (tw : Bool) : Int :=
 firstErr [if nameB n.Id = true then 0 else 5, if tw = true then 6 else 0, if 1 ≤ n.Kind ∧ n.Kind ≤ 6 then 0 else 1, if n.Kind = 6 then (if n.Box = zeroB then 0 else 2) else boxErr n.Box, textErr n.Text, clsErr n.Class]
theorem cls_page (s : Str) {k : Bool → Option Int} : (Option.bind (gd (!decide (s = Str.nil)) (page_isName s)) fun r => bif (!decide (s = Str.nil)) && !r then some 5 else some 0) = some (clsErr s) := by
 unfold clsErr
 rw [isName_eq]
 by_cases h : s = Str.nil
 ·
  simp [h, gd]
 ·
  rw [decide_eq_false h, Bool.not_false, gd_true, Option.bind_some]
  cases nameB s <;> simp [h]
theorem checkNode_eq (n : DNode) (tw : Bool) : page_checkNode n tw = some (nodeErr n tw) := by
 unfold page_checkNode nodeErr
 rw [isName_eq, Option.bind_some, fe_if (by decide), fe_if2 (by decide), fe_if (by decide), firstErr_cons]
 cases nameB n.Id with
 | false => rfl
 | true =>
  cases tw with
  | true => rfl
  | false =>
   simp only [Bool.not_true, cond_false, if_true, Bool.false_eq_true, if_false]
   by_cases hk : 1 ≤ n.Kind ∧ n.Kind ≤ 6
   case neg =>
    have : (decide (n.Kind < 1) || decide (6 < n.Kind)) = true := by simp; omega
    rw [this, if_neg hk]; rfl
   have : (decide (n.Kind < 1) || decide (6 < n.Kind)) = false := by simp; omega
   rw [this, if_pos hk, cond_false]
   have hz : (⟨(0 : Int), (0 : Int), (0 : Int), (0 : Int)⟩ : Box) = zeroB := rfl
   rw [hz]
   have last : (Option.bind (shape_CheckText n.Text) fun e2 => bif !decide (e2 = 0) then some e2 else Option.bind (gd (!decide (n.Class = Str.nil)) (page_isName n.Class)) fun r2 => bif (!decide (n.Class = Str.nil)) && !r2 then some 5 else some 0) = some (firstErr [textErr n.Text, clsErr n.Class]) := by
    rw [CheckText_eq, Option.bind_some, cls_page (k := fun _ => none)]
    by_cases h : textErr n.Text = 0
    ·
     simp [h]
    ·
     simp [h]
   by_cases h6 : n.Kind = 6
   ·
    rw [decide_eq_true h6, if_pos h6]
    by_cases hb : n.Box = zeroB
    ·
     rw [decide_eq_true hb, if_pos hb]
     simp only [Bool.not_true, Bool.and_false, cond_false, bindR_nx, if_true]
     exact last
    ·
     rw [decide_eq_false hb, if_neg hb]; simp
   ·
    rw [decide_eq_false h6, if_neg h6]
    simp only [Bool.false_and, cond_false, Bool.not_false, cond_true]
    rw [CheckBox_eq, Option.bind_some]
    by_cases hb : boxErr n.Box = 0
    ·
     rw [decide_eq_true hb, if_pos hb]
     simp only [Bool.not_true, cond_false, bindR_nx]
     exact last
    ·
     rw [decide_eq_false hb, if_neg hb]
     simp
theorem classError_eq {s : Str} (hs : fits s) : ref_classError s = some (clsErr s) := by
 unfold ref_classError clsErr
 rw [NameOf_eq hs]
 by_cases h : s = Str.nil
 ·
  simp [h, gd, When_eq]
 ·
  rw [decide_eq_false h, Bool.not_false, gd_true, Option.bind_some, When_eq]
  cases nameB s <;> simp [h]
theorem nodeError_eq {d : Doc} (hl : d.Nodes.length ≤ 500) (hf : ∀ n ∈ d.Nodes, fits n.Id ∧ fits n.Text ∧ fits n.Class) {i : Nat} (hi : i < d.Nodes.length) :
  ref_nodeError d (i : Int) = some (nodeErr d.Nodes[i] (decide (d.Nodes[i].Id ∈ (d.Nodes.take i).map (·.Id)))) := by
 obtain ⟨f1, f2, f3⟩ := hf _ (List.getElem_mem hi)
 unfold ref_nodeError
 rw [need_of ⟨by omega, by omega⟩, gx_nat hi, bnd_eq, need_of ⟨by omega, by omega, by omega⟩]
 have hseg : seg d.Nodes 0 (i : Int) = d.Nodes.take i := by simp [seg]
 rw [hseg, ContainsFunc_Node_eq (d.Nodes.take i) (fun x0 => ref_nodeError_1 x0 d.Nodes[i]) (fun m => decide (m.Id = d.Nodes[i].Id)) (by simp; omega) (fun x _ => rfl), Option.bind_some, NameOf_eq f1, Option.bind_some, When_eq, Option.bind_some, When_eq, Option.bind_some, In_eq, Option.bind_some, When_eq, Option.bind_some, First_eq (by simp), Option.bind_some]
 have htw : (d.Nodes.take i).any (fun m => decide (m.Id = d.Nodes[i].Id)) = decide (d.Nodes[i].Id ∈ (d.Nodes.take i).map (·.Id)) := by
  rw [Bool.eq_iff_iff, List.any_eq_true, decide_eq_true_eq, List.mem_map]
  simp
 rw [htw]
 generalize decide (d.Nodes[i].Id ∈ (d.Nodes.take i).map (·.Id)) = tw
 generalize d.Nodes[i] = n at *
 have e1 : nodeErr n tw = if firstErr [if nameB n.Id = true then (0 : Int) else 5, if tw = true then (6 : Int) else 0, if 1 ≤ n.Kind ∧ n.Kind ≤ 6 then (0 : Int) else 1] = 0 then firstErr [if n.Kind = 6 then (if n.Box = zeroB then (0 : Int) else 2) else boxErr n.Box, textErr n.Text, clsErr n.Class] else firstErr [if nameB n.Id = true then (0 : Int) else 5, if tw = true then (6 : Int) else 0, if 1 ≤ n.Kind ∧ n.Kind ≤ 6 then (0 : Int) else 1] := fe_app [_, _, _] [_, _, _]
 have e2 : firstErr [if (!nameB n.Id) = true then (5 : Int) else 0, if tw = true then (6 : Int) else 0, if (!decide (1 ≤ n.Kind ∧ n.Kind ≤ 6)) = true then (1 : Int) else 0] = firstErr [if nameB n.Id = true then (0 : Int) else 5, if tw = true then (6 : Int) else 0, if 1 ≤ n.Kind ∧ n.Kind ≤ 6 then (0 : Int) else 1] := by
  cases nameB n.Id <;> by_cases h : 1 ≤ n.Kind ∧ n.Kind ≤ 6 <;> simp [h]
 rw [e2, e1]
 generalize firstErr [if nameB n.Id = true then (0 : Int) else 5, if tw = true then (6 : Int) else 0, if 1 ≤ n.Kind ∧ n.Kind ≤ 6 then (0 : Int) else 1] = E
 by_cases hE : E = 0
 ·
  rw [decide_eq_true hE, if_pos hE, Bool.not_true, cond_false, When_eq, Option.bind_some, BoxError_eq, TextError_eq f2, classError_eq f3]
  have hz : (⟨(0 : Int), (0 : Int), (0 : Int), (0 : Int)⟩ : Box) = zeroB := rfl
  rw [hz]
  by_cases h6 : n.Kind = 6
  ·
   rw [decide_eq_true h6, if_pos h6]
   simp only [Bool.not_true, cond_false, Option.bind_some]
   rw [First_eq (by simp), Option.bind_some]
   by_cases hb : n.Box = zeroB <;> simp [hb]
  ·
   rw [decide_eq_false h6, if_neg h6]
   simp only [Bool.not_false, cond_true, Option.bind_some]
   rw [First_eq (by simp), Option.bind_some]
 ·
  rw [decide_eq_false hE, if_neg hE]; rfl
def endErr (l : List DNode) (y : DEnd) : Int := if nodeAt l y.Node < 0 then 10 else if (gx l (nodeAt l y.Node)).Kind = 6 then 1 else if (1 ≤ y.Side ∧ y.Side ≤ 4) ∧ 0 ≤ y.At ∧ y.At ≤ 1000 then 0 else 3
def edgeErr (l : List DNode) (x : DEdge) (tw : Bool) : Int :=
 firstErr [if nameB x.Id = true then 0 else 5, if tw = true then 6 else 0, endErr l x.From, endErr l x.To, if 50 < x.Bends.length then 4 else 0, ptsErr x.Bends, textErr x.Text, clsErr x.Class]
theorem nodeAt_in {l : List DNode} {id : Str} (h : ¬ nodeAt l id < 0) : inR l (nodeAt l id) ∧ (gx l (nodeAt l id)).Id = id :=
 nodeAt_pos (Classical.byContradiction fun hne => h (nodeAt_neg.2 (fun n hn e => hne ⟨n, hn, e⟩)))
theorem checkEnd_eq (d : Doc) (y : DEnd) : page_view_checkEnd (viewD d) y = some (endErr d.Nodes y) := by
 unfold page_view_checkEnd endErr
 have hvn : (viewD d).number = numM d.Nodes := rfl
 have hv : (viewD d).d.Nodes = d.Nodes := rfl
 rw [hvn, hv, numM_has]
 by_cases h : nodeAt d.Nodes y.Node < 0
 ·
  rw [if_pos h, decide_eq_false (by omega)]; rfl
 ·
  rw [if_neg h, decide_eq_true (by omega), numM_getD (by omega), Bool.not_true, cond_false, need_of (nodeAt_in h).1]
  by_cases h6 : (gx d.Nodes (nodeAt d.Nodes y.Node)).Kind = 6
  ·
   rw [if_pos h6, decide_eq_true h6]; rfl
  ·
   rw [if_neg h6, decide_eq_false h6, cond_false]
   by_cases hs : (1 ≤ y.Side ∧ y.Side ≤ 4) ∧ 0 ≤ y.At ∧ y.At ≤ 1000
   ·
    have : (decide (y.Side < 1) || decide (4 < y.Side) || decide (y.At < 0) || decide (1000 < y.At)) = false := by simp; omega
    rw [this, if_pos hs]; rfl
   ·
    have : (decide (y.Side < 1) || decide (4 < y.Side) || decide (y.At < 0) || decide (1000 < y.At)) = true := by simp; omega
    rw [this, if_neg hs]; rfl
theorem checkEdge_eq (d : Doc) (x : DEdge) (tw : Bool) : page_view_checkEdge (viewD d) x tw = some (edgeErr d.Nodes x tw) := by
 unfold page_view_checkEdge edgeErr
 rw [isName_eq, Option.bind_some, fe_if (by decide), fe_if2 (by decide)]
 cases nameB x.Id with
 | false => rfl
 | true =>
  cases tw with
  | true => rfl
  | false =>
   simp only [Bool.not_true, cond_false, if_true, Bool.false_eq_true, if_false, bnd_eq]
   rw [rforE_err (endErr d.Nodes) (fun e => (Res.ab e : Res Unit Int)) (by simp) (fun i hi => by
    unfold page_view_checkEdge_L1
    rw [need_of hi, bnd_eq, checkEnd_eq, Option.bind_some]
    by_cases h : endErr d.Nodes (gx [x.From, x.To] i) = 0 <;> simp [h])]
   rw [show [endErr d.Nodes x.From, endErr d.Nodes x.To, if 50 < x.Bends.length then (4 : Int) else 0, ptsErr x.Bends, textErr x.Text, clsErr x.Class] = [x.From, x.To].map (endErr d.Nodes) ++ [if 50 < x.Bends.length then (4 : Int) else 0, ptsErr x.Bends, textErr x.Text, clsErr x.Class] from rfl, fe_app]
   by_cases hE : firstErr ([x.From, x.To].map (endErr d.Nodes)) = 0
   case neg => rw [if_neg hE, if_neg hE]; rfl
   rw [if_pos hE, if_pos hE, bindR_nx, fe_if2 (by decide)]
   by_cases h50 : 50 < x.Bends.length
   ·
    rw [if_pos h50, decide_eq_true (by omega)]; rfl
   rw [if_neg h50, decide_eq_false (by omega), cond_false, CheckPoints_eq, Option.bind_some, firstErr_cons]
   by_cases hp : ptsErr x.Bends = 0
   case neg => rw [if_neg hp, decide_eq_false hp]; rfl
   rw [if_pos hp, decide_eq_true hp, Bool.not_true, cond_false, CheckText_eq, Option.bind_some, firstErr_cons]
   by_cases ht : textErr x.Text = 0
   case neg => rw [if_neg ht, decide_eq_false ht]; rfl
   rw [if_pos ht, decide_eq_true ht, Bool.not_true, cond_false, cls_page (k := fun _ => none)]
   by_cases h2 : clsErr x.Class = 0 <;> simp [h2]
theorem PortError_eq2 (s a : Int) : ref_PortError s a = some (if (1 ≤ s ∧ s ≤ 4) ∧ 0 ≤ a ∧ a ≤ 1000 then 0 else 3) := by
 unfold ref_PortError
 rw [In_eq, In_eq, Option.bind_some]
 by_cases h1 : 1 ≤ s ∧ s ≤ 4
 ·
  rw [decide_eq_true h1]
  simp only [Bool.not_true, Bool.not_false, gd_true, Option.bind_some, Bool.false_or]
  rw [When_eq]
  by_cases h2 : 0 ≤ a ∧ a ≤ 1000 <;> simp [h1, h2]
 ·
  rw [decide_eq_false h1, if_neg (fun h => h1 h.1)]
  simp [gd, When_eq]
theorem edgeError_eq {d : Doc} (hl : d.Nodes.length ≤ 500) (hel : d.Edges.length ≤ 1000) (hf : ∀ x ∈ d.Edges, fits x.Id ∧ fits x.Text ∧ fits x.Class) {i : Nat} (hi : i < d.Edges.length) :
  ref_edgeError d (i : Int) = some (edgeErr d.Nodes d.Edges[i] (decide (d.Edges[i].Id ∈ d.Nodes.map (·.Id) ++ (d.Edges.take i).map (·.Id)))) := by
 obtain ⟨f1, f2, f3⟩ := hf _ (List.getElem_mem hi)
 have hll : (d.Nodes.length : Int) ≤ 9223372036854775807 := by omega
 unfold ref_edgeError
 rw [need_of ⟨by omega, by omega⟩, gx_nat hi, bnd_eq, NodeAt_eq hll, Option.bind_some, need_of (fun _ => ⟨by omega, by omega, by omega⟩)]
 have hseg : seg d.Edges 0 (i : Int) = d.Edges.take i := by simp [seg]
 rw [hseg, ContainsFunc_Edge_eq (d.Edges.take i) (fun x0 => ref_edgeError_1 x0 d.Edges[i]) (fun m => decide (m.Id = d.Edges[i].Id)) (by simp; omega) (fun x _ => rfl)]
 have htw : (decide (0 ≤ nodeAt d.Nodes d.Edges[i].Id) || (d.Edges.take i).any (fun m => decide (m.Id = d.Edges[i].Id))) = decide (d.Edges[i].Id ∈ d.Nodes.map (·.Id) ++ (d.Edges.take i).map (·.Id)) := by
  rw [Bool.eq_iff_iff, Bool.or_eq_true, List.any_eq_true, decide_eq_true_eq, decide_eq_true_eq, List.mem_append, List.mem_map, List.mem_map]
  refine or_congr ?_ (by simp)
  constructor
  ·
   intro h
   obtain ⟨h1, h2⟩ := nodeAt_in (l := d.Nodes) (id := d.Edges[i].Id) (by omega)
   exact ⟨_, gx_mem h1, h2⟩
  ·
   rintro ⟨n, hn, e⟩
   have := (nodeAt_pos ⟨n, hn, e⟩).1.1
   exact this
 have hgd : ∀ {k : Bool → Option Int}, (Option.bind (gd (!(decide (0 ≤ nodeAt d.Nodes d.Edges[i].Id))) (some ((d.Edges.take i).any (fun m => decide (m.Id = d.Edges[i].Id))))) fun r2 => k (decide (0 ≤ nodeAt d.Nodes d.Edges[i].Id) || r2)) = k (decide (d.Edges[i].Id ∈ d.Nodes.map (·.Id) ++ (d.Edges.take i).map (·.Id))) := fun {k} => by
  rw [← htw]
  cases decide (0 ≤ nodeAt d.Nodes d.Edges[i].Id) <;> simp [gd]
 rw [hgd (k := fun tw => Option.bind (ref_NameOf d.Edges[i].Id) fun r3 => Option.bind (ref_When (!r3) 5) fun r4 => Option.bind (ref_When tw 6) fun r5 => Option.bind (ref_First [r4, r5]) fun e1 =>
  bif !decide (e1 = 0) then some e1 else bnd [d.Edges[i].From, d.Edges[i].To] fun v2 => bindR (rforE (v2.length : Int) (ref_edgeError_L1 d v2) (fun s => Res.nx s) ()) fun j_12 =>
   bif decide (50 < (d.Edges[i].Bends.length : Int)) then some 4 else Option.bind (ref_PointsError d.Edges[i].Bends) fun r8 => Option.bind (ref_TextError d.Edges[i].Text) fun r9 => Option.bind (ref_classError d.Edges[i].Class) fun r10 => Option.bind (ref_First [r8, r9, r10]) fun r11 => some r11)]
 generalize decide (d.Edges[i].Id ∈ d.Nodes.map (·.Id) ++ (d.Edges.take i).map (·.Id)) = tw
 generalize d.Edges[i] = x at *
 simp only [NameOf_eq f1, Option.bind_some, When_eq]
 rw [First_eq (by simp), Option.bind_some]
 have eR : edgeErr d.Nodes x tw = if nameB x.Id = true then (if tw = true then 6 else firstErr [endErr d.Nodes x.From, endErr d.Nodes x.To, if 50 < x.Bends.length then 4 else 0, ptsErr x.Bends, textErr x.Text, clsErr x.Class]) else 5 := by
  unfold edgeErr
  rw [fe_if (by decide), fe_if2 (by decide)]
 rw [eR]
 cases nameB x.Id with
 | false => rfl
 | true =>
  cases tw with
  | true => rfl
  | false =>
   have e0 : firstErr [if (!true) = true then (5 : Int) else 0, if false = true then (6 : Int) else 0] = 0 := by simp
   rw [e0]
   simp only [decide_true, Bool.not_true, cond_false, if_true, Bool.false_eq_true, if_false, bnd_eq]
   rw [rforE_err (endErr d.Nodes) (fun e => (Res.ab e : Res Unit Int)) (by simp) (fun i hi => by
    unfold ref_edgeError_L1
    rw [need_of hi, bnd_eq, NodeAt_eq hll, Option.bind_some]
    generalize gx [x.From, x.To] i = y
    unfold endErr
    by_cases h : nodeAt d.Nodes y.Node < 0
    ·
     rw [if_pos h, decide_eq_true h]; rfl
    ·
     rw [if_neg h, decide_eq_false h, cond_false, need_of (nodeAt_in h).1, When_eq, Option.bind_some, PortError_eq2, Option.bind_some, First_eq (by simp), Option.bind_some]
     by_cases h6 : (gx d.Nodes (nodeAt d.Nodes y.Node)).Kind = 6
     ·
      simp [h6]
     ·
      by_cases hs : (1 ≤ y.Side ∧ y.Side ≤ 4) ∧ 0 ≤ y.At ∧ y.At ≤ 1000
      ·
       simp [h6, hs]
      ·
       simp only [if_neg h6, if_neg hs, decide_eq_false h6]; simp)]
   rw [show [endErr d.Nodes x.From, endErr d.Nodes x.To, if 50 < x.Bends.length then (4 : Int) else 0, ptsErr x.Bends, textErr x.Text, clsErr x.Class] = [x.From, x.To].map (endErr d.Nodes) ++ [if 50 < x.Bends.length then (4 : Int) else 0, ptsErr x.Bends, textErr x.Text, clsErr x.Class] from rfl, fe_app]
   by_cases hE : firstErr ([x.From, x.To].map (endErr d.Nodes)) = 0
   case neg => rw [if_neg hE, if_neg hE]; rfl
   rw [if_pos hE, if_pos hE, bindR_nx, fe_if2 (by decide)]
   by_cases h50 : 50 < x.Bends.length
   ·
    rw [if_pos h50, decide_eq_true (by omega)]; rfl
   rw [if_neg h50, decide_eq_false (by omega), cond_false, PointsError_eq, Option.bind_some, TextError_eq f2, Option.bind_some, classError_eq f3, Option.bind_some, First_eq (by simp), Option.bind_some]
def knM (l : List Str) : GMap Str Bool := ⟨fun id => if id ∈ l then some true else none⟩
theorem knM_set {l : List Str} {x : Str} : (knM l).set x true = knM (l ++ [x]) := by
 unfold knM GMap.set
 congr 1
 funext id
 by_cases h : id = x
 ·
  simp [h]
 ·
  simp [h]
theorem knM_getD {l : List Str} {x : Str} : (knM l).getD x false = decide (x ∈ l) := by
 unfold knM GMap.getD
 by_cases h : x ∈ l <;> simp [h]
structure Right (d : Doc) : Prop where
 nl : d.Nodes.length ≤ 500
 el : d.Edges.length ≤ 1000
 node : ∀ (i : Nat) (h : i < d.Nodes.length), nodeErr d.Nodes[i] (decide (d.Nodes[i].Id ∈ (d.Nodes.take i).map (·.Id))) = 0
 tree : ∀ n ∈ d.Nodes, n.Parent ≠ Str.nil → ∃ g ∈ d.Nodes, g.Id = n.Parent ∧ (par d.Nodes n).Kind = 6
 deep : ∀ n ∈ d.Nodes, ∃ k, k ≤ 8 ∧ Dp d.Nodes n k
 full : ∀ n ∈ d.Nodes, n.Kind = 6 → idxs d.Nodes n.Id ≠ []
 edge : ∀ (i : Nat) (h : i < d.Edges.length), edgeErr d.Nodes d.Edges[i] (decide (d.Edges[i].Id ∈ d.Nodes.map (·.Id) ++ (d.Edges.take i).map (·.Id))) = 0
 box : ∀ (i : Nat) (h : i < d.Nodes.length), ∃ b, page_view_boxOf (viewD d) (i : Int) = some (b, 0) ∧ ref_BoxOfNode d d.Nodes[i].Id = some (b, 0) ∧ okB b
theorem nodeErr_zero {n : DNode} {tw : Bool} (h : nodeErr n tw = 0) : nameB n.Id = true ∧ tw = false ∧ (1 ≤ n.Kind ∧ n.Kind ≤ 6) ∧ (n.Kind ≠ 6 → okB n.Box) := by
 have := firstErr_zero.1 h
 have h1 := this (if nameB n.Id = true then 0 else 5) (by simp)
 have h2 := this (if tw = true then 6 else 0) (by simp)
 have h3 := this (if 1 ≤ n.Kind ∧ n.Kind ≤ 6 then 0 else 1) (by simp)
 have h4 := this (if n.Kind = 6 then (if n.Box = zeroB then 0 else 2) else boxErr n.Box) (by simp)
 refine ⟨?_, ?_, ?_, fun hk => ?_⟩
 ·
  apply Classical.byContradiction; intro hc; rw [if_neg hc] at h1; cases h1
 ·
  cases tw with
  | false => rfl
  | true => simp at h2
 ·
  apply Classical.byContradiction; intro hc; rw [if_neg hc] at h3; cases h3
 ·
  rw [if_neg hk] at h4; exact boxErr_zero.1 h4
theorem nodup_of_tw : ∀ {l : List DNode}, (∀ (i : Nat) (h : i < l.length), l[i].Id ∉ (l.take i).map (·.Id)) → (l.map (·.Id)).Nodup := fun {l} h => by
 rw [List.nodup_iff_pairwise_ne, List.pairwise_iff_getElem]
 intro i j hi hj hij e
 simp only [List.length_map] at hi hj
 simp only [List.getElem_map] at e
 refine h j hj (List.mem_map.2 ⟨l[i], ?_, e⟩)
 have : l[i] = (l.take j)[i]'(by simp; omega) := by simp
 rw [this]; exact List.getElem_mem _
theorem Check_both {d : Doc} (hf : fits d) : ∃ e, page_Check d = some e ∧ ref_DocError d = some e ∧ (e = 0 → Right d) := by
 have hfn : ∀ n ∈ d.Nodes, fits n.Id ∧ fits n.Text ∧ fits n.Class := fun n hn => by
  have := hf.1.2 n hn
  exact ⟨this.1, this.2.2.2.1, this.2.2.2.2.1⟩
 have hfe : ∀ x ∈ d.Edges, fits x.Id ∧ fits x.Text ∧ fits x.Class := fun x hx => by
  have := hf.2.2 x hx
  exact ⟨this.1, this.2.2.2.2.1, this.2.2.2.2.2⟩
 unfold page_Check ref_DocError
 by_cases hsz : 500 < d.Nodes.length ∨ 1000 < d.Edges.length
 ·
  have : (decide (500 < (d.Nodes.length : Int)) || decide (1000 < (d.Edges.length : Int))) = true := by simp; omega
  rw [this]
  exact ⟨4, rfl, rfl, fun h => by cases h⟩
 have hl : d.Nodes.length ≤ 500 := by omega
 have hel : d.Edges.length ≤ 1000 := by omega
 have : (decide (500 < (d.Nodes.length : Int)) || decide (1000 < (d.Edges.length : Int))) = false := by simp; omega
 rw [this, cond_false, cond_false, bnd_eq]
 let nE : Nat → Int := fun i => nodeErr (gx d.Nodes (i : Int)) (decide ((gx d.Nodes (i : Int)).Id ∈ (d.Nodes.take i).map (·.Id)))
 have k0 : (GMap.nil : GMap Str Bool) = knM ((d.Nodes.take 0).map (·.Id)) := by simp [knM, GMap.nil]
 rw [k0]
 have p1 := rforE_errS (n := d.Nodes.length) (step := page_Check_L1 d) (fin := fun s => (Res.nx s : Res (GMap Str Bool) Int)) (fun k => knM ((d.Nodes.take k).map (·.Id))) nE (fun e => Res.ab e) (by omega) (fun i hi _ => by
  unfold page_Check_L1
  rw [need_of ⟨by omega, by omega⟩, bnd_eq, knM_getD, checkNode_eq, Option.bind_some]
  show (bif !decide (nE i = 0) then _ else _) = _
  by_cases h : nE i = 0
  ·
   rw [decide_eq_true h, if_pos h, knM_set, List.take_succ_eq_append_getElem hi, List.map_append, gx_nat hi]; rfl
  ·
   rw [decide_eq_false h, if_neg h]; rfl)
 have q1 := rforE_errS (n := d.Nodes.length) (step := ref_DocError_L1 d) (fin := fun s => (Res.nx s : Res Unit Int)) (fun _ => ()) nE (fun e => Res.ab e) (by omega) (fun i hi _ => by
  unfold ref_DocError_L1
  rw [nodeError_eq hl hfn hi, Option.bind_some, ← gx_nat hi]
  show (bif !decide (nE i = 0) then some (Res.ab (Res.ab (nE i))) else _) = _
  by_cases h : nE i = 0
  ·
   rw [decide_eq_true h, if_pos h]; rfl
  ·
   rw [decide_eq_false h, if_neg h]; rfl)
 rw [p1, q1]
 by_cases h1 : firstErr ((List.range d.Nodes.length).map nE) = 0
 case neg => rw [if_neg h1, if_neg h1]; exact ⟨_, rfl, rfl, fun h => absurd h h1⟩
 rw [if_pos h1, if_pos h1, bindR_nx, bindR_nx, List.take_length]
 have hnode : ∀ (i : Nat) (h : i < d.Nodes.length), nodeErr d.Nodes[i] (decide (d.Nodes[i].Id ∈ (d.Nodes.take i).map (·.Id))) = 0 := fun i h => by
  have := firstErr_zero.1 h1 (nE i) (List.mem_map.2 ⟨i, by simpa using h, rfl⟩)
  rw [← gx_nat h]; exact this
 have hd : (d.Nodes.map (·.Id)).Nodup := nodup_of_tw fun i h => by
  have := (nodeErr_zero (hnode i h)).2.1
  exact of_decide_eq_false this
 have hat : ∀ n ∈ d.Nodes, nameB n.Id = true ∧ (n.Kind ≠ 6 → okB n.Box) := fun n hn => by
  obtain ⟨i, hi, rfl⟩ := List.mem_iff_getElem.1 hn
  have := nodeErr_zero (hnode i hi)
  exact ⟨this.1, this.2.2.2⟩
 have hid : ∀ n ∈ d.Nodes, n.Id ≠ Str.nil := fun n hn => nameB_ne (hat n hn).1
 have hbx : ∀ n ∈ d.Nodes, n.Kind ≠ 6 → okB n.Box := fun n hn => (hat n hn).2
 rw [viewOf_eq hl hd, Option.bind_some, Option.bind_some]
 obtain ⟨e, t1, t2, t3⟩ := tree_both hl hid
 rw [t1, t2, Option.bind_some, Option.bind_some]
 by_cases he : e = 0
 case neg => rw [decide_eq_false he]; exact ⟨e, rfl, rfl, fun h => absurd h he⟩
 rw [decide_eq_true he, Bool.not_true, cond_false, cond_false]
 obtain ⟨htree, hdeep, hfull⟩ := t3 he
 have hdp : ∀ n ∈ d.Nodes, ∃ k, k ≤ 8 ∧ Dp d.Nodes n k := fun n hn => by
  obtain ⟨k, a, b, c⟩ := hdeep n hn
  exact ⟨k, a, b, c⟩
 let eE : Nat → Int := fun i => edgeErr d.Nodes (gx d.Edges (i : Int)) (decide ((gx d.Edges (i : Int)).Id ∈ d.Nodes.map (·.Id) ++ (d.Edges.take i).map (·.Id)))
 have k1 : knM (d.Nodes.map (·.Id)) = knM (d.Nodes.map (·.Id) ++ (d.Edges.take 0).map (·.Id)) := by simp
 rw [k1]
 have p2 := rforE_errS (n := d.Edges.length) (step := page_Check_L2 d (viewD d)) (fin := fun s => (Res.nx s : Res (GMap Str Bool) Int)) (fun k => knM (d.Nodes.map (·.Id) ++ (d.Edges.take k).map (·.Id))) eE (fun e => Res.ab e) (by omega) (fun i hi _ => by
  unfold page_Check_L2
  rw [need_of ⟨by omega, by omega⟩, bnd_eq, knM_getD, checkEdge_eq, Option.bind_some]
  show (bif !decide (eE i = 0) then _ else _) = _
  by_cases h : eE i = 0
  ·
   rw [decide_eq_true h, if_pos h, knM_set, List.take_succ_eq_append_getElem hi, List.map_append, gx_nat hi, List.append_assoc]; rfl
  ·
   rw [decide_eq_false h, if_neg h]; rfl)
 have q2 := rforE_errS (n := d.Edges.length) (step := ref_DocError_L2 d) (fin := fun s => (Res.nx s : Res Unit Int)) (fun _ => ()) eE (fun e => Res.ab e) (by omega) (fun i hi _ => by
  unfold ref_DocError_L2
  rw [edgeError_eq hl hel hfe hi, Option.bind_some, ← gx_nat hi]
  show (bif !decide (eE i = 0) then some (Res.ab (Res.ab (eE i))) else _) = _
  by_cases h : eE i = 0
  ·
   rw [decide_eq_true h, if_pos h]; rfl
  ·
   rw [decide_eq_false h, if_neg h]; rfl)
 rw [p2, q2]
 by_cases h2 : firstErr ((List.range d.Edges.length).map eE) = 0
 case neg => rw [if_neg h2, if_neg h2]; exact ⟨_, rfl, rfl, fun h => absurd h h2⟩
 rw [if_pos h2, if_pos h2, bindR_nx, bindR_nx]
 have hbox : ∀ i : Nat, ∃ x : (Box × Int) × Box, i < d.Nodes.length → page_view_boxOf (viewD d) (i : Int) = some x.1 ∧ ref_BoxOfNode d (gx d.Nodes (i : Int)).Id = some (x.2, x.1.2) ∧ (x.1.2 = 0 → x.1.1 = x.2 ∧ okB x.2) := fun i => by
  by_cases hi : i < d.Nodes.length
  ·
   obtain ⟨b, e, b', g1, g2, g3⟩ := box_both hl hd hid hbx hdp hi
   exact ⟨((b, e), b'), fun _ => ⟨g1, by rw [gx_nat hi]; exact g2, g3⟩⟩
  ·
   exact ⟨((zeroB, 0), zeroB), fun h => absurd h hi⟩
 let bE : Nat → Int := fun i => (hbox i).choose.1.2
 have p3 := rforE_errS (n := d.Nodes.length) (step := page_Check_L3 (viewD d)) (fin := fun s => (Res.nx s : Res Unit Int)) (fun _ => ()) bE (fun e => Res.ab e) (by omega) (fun i hi _ => by
  unfold page_Check_L3
  rw [((hbox i).choose_spec hi).1, Option.bind_some]
  show (bif !decide (bE i = 0) then some (Res.ab (Res.ab (bE i))) else _) = _
  by_cases h : bE i = 0
  ·
   rw [decide_eq_true h, if_pos h]; rfl
  ·
   rw [decide_eq_false h, if_neg h]; rfl)
 have q3 := rforE_errS (n := d.Nodes.length) (step := ref_DocError_L3 d) (fin := fun s => (Res.nx s : Res Unit Int)) (fun _ => ()) bE (fun e => Res.ab e) (by omega) (fun i hi _ => by
  unfold ref_DocError_L3
  rw [need_of ⟨by omega, by omega⟩, bnd_eq, ((hbox i).choose_spec hi).2.1, Option.bind_some]
  show (bif !decide (bE i = 0) then some (Res.ab (Res.ab (bE i))) else _) = _
  by_cases h : bE i = 0
  ·
   rw [decide_eq_true h, if_pos h]; rfl
  ·
   rw [decide_eq_false h, if_neg h]; rfl)
 rw [p3, q3]
 by_cases h3 : firstErr ((List.range d.Nodes.length).map bE) = 0
 case neg => rw [if_neg h3]; exact ⟨_, rfl, rfl, fun h => absurd h h3⟩
 rw [if_pos h3]
 refine ⟨0, rfl, rfl, fun _ => ⟨hl, hel, hnode, htree, hdp, hfull, fun i h => ?_, fun i h => ?_⟩⟩
 ·
  have := firstErr_zero.1 h2 (eE i) (List.mem_map.2 ⟨i, by simpa using h, rfl⟩)
  rw [← gx_nat h]; exact this
 ·
  have hz := firstErr_zero.1 h3 (bE i) (List.mem_map.2 ⟨i, by simpa using h, rfl⟩)
  obtain ⟨g1, g2, g3⟩ := (hbox i).choose_spec h
  have hz' : (hbox i).choose.1.2 = 0 := hz
  generalize (hbox i).choose = x at *
  obtain ⟨⟨b, e⟩, b'⟩ := x
  simp only at hz' g1 g2 g3
  subst hz'
  obtain ⟨rfl, g4⟩ := g3 rfl
  rw [gx_nat h] at g2
  exact ⟨b, g1, g2, g4⟩
section
section
variable {d : Doc}
theorem Right.hd (h : Right d) : (d.Nodes.map (·.Id)).Nodup := nodup_of_tw fun i hi => of_decide_eq_false (nodeErr_zero (h.node i hi)).2.1
theorem Right.at (h : Right d) {n : DNode} (hn : n ∈ d.Nodes) : nameB n.Id = true ∧ (1 ≤ n.Kind ∧ n.Kind ≤ 6) ∧ (n.Kind ≠ 6 → okB n.Box) := by
 obtain ⟨i, hi, rfl⟩ := List.mem_iff_getElem.1 hn
 have := nodeErr_zero (h.node i hi)
 exact ⟨this.1, this.2.2.1, this.2.2.2⟩
theorem Right.hid (h : Right d) {n : DNode} (hn : n ∈ d.Nodes) : n.Id ≠ Str.nil := nameB_ne (h.at hn).1
theorem Right.parIn (h : Right d) : ParIn d.Nodes := fun n hn hne => by
 obtain ⟨g, h1, h2, _⟩ := h.tree n hn hne
 exact ⟨g, h1, h2⟩
theorem Right.at_Id (h : Right d) {i j : Nat} (hi : i < d.Nodes.length) (hj : j < d.Nodes.length) (e : d.Nodes[i].Id = d.Nodes[j].Id) : i = j := by
 have h1 := nodeAt_of h.hd hi
 have h2 := nodeAt_of h.hd hj
 rw [e] at h1
 omega
theorem Right.viewOf (h : Right d) : page_viewOf d = some (some (viewD d)) := viewOf_eq h.nl h.hd
def Bel (l : List DNode) (n : DNode) (g : Str) : Prop := ∃ k, (∀ j, j ≤ k → (anc l n j).Parent ≠ Str.nil) ∧ (anc l n k).Parent = g
open Classical in
noncomputable def belB (l : List DNode) (n : DNode) (g : Str) : Bool := decide (Bel l n g)
theorem belB_iff {l : List DNode} {n : DNode} {g : Str} : belB l n g = true ↔ Bel l n g := by unfold belB; simp
end
theorem IsBelow_eq {d : Doc} (h : Right d) {i : Nat} (hi : i < d.Nodes.length) (g : Str) : ref_IsBelow d d.Nodes[i].Id g = some (belB d.Nodes d.Nodes[i] g) := by
 have hll : (d.Nodes.length : Int) ≤ 9223372036854775807 := by have := h.nl; omega
 have hn := List.getElem_mem hi
 unfold ref_IsBelow
 rw [NodeAt_eq hll, nodeAt_of h.hd hi, Option.bind_some, need_of ⟨by omega, by omega⟩, gx_nat hi, bnd_eq]
 obtain ⟨m, _, hm⟩ := h.deep _ hn
 have step : ∀ k, (∀ j, j ≤ k → (anc d.Nodes d.Nodes[i] j).Parent ≠ Str.nil) → (anc d.Nodes d.Nodes[i] k).Parent ≠ g → ref_IsBelow_L1 d g (anc d.Nodes d.Nodes[i] k).Parent = some (.again (anc d.Nodes d.Nodes[i] (k + 1)).Parent) := fun k hk hg => by
  have hmem := anc_mem h.parIn hn k (fun j hj => hk j (by omega))
  have hex := h.parIn _ hmem (hk k (Nat.le_refl _))
  unfold ref_IsBelow_L1
  rw [decide_eq_false (hk k (Nat.le_refl _)), decide_eq_false hg, NodeAt_eq hll]
  simp only [Bool.not_false, cond_true, cond_false, Option.bind_some, bnd_eq]
  rw [need_of (nodeAt_pos hex).1]
  rfl
 by_cases hb : Bel d.Nodes d.Nodes[i] g
 ·
  obtain ⟨k, hk1, hk2⟩ := id hb
  obtain ⟨e, h1, h2⟩ := loop_nat (body := ref_IsBelow_L1 d g) (fun k => (anc d.Nodes d.Nodes[i] k).Parent) (fun e => e = Res.ab true) 0 k (by omega) (fun j _ hj => by
   by_cases hg : (anc d.Nodes d.Nodes[i] j).Parent = g
   ·
    right
    refine ⟨_, ?_, rfl⟩
    unfold ref_IsBelow_L1
    rw [decide_eq_false (hk1 j (by omega)), decide_eq_true hg]; rfl
   ·
    exact .inl (step j (fun q hq => hk1 q (by omega)) hg)) ⟨_, by
    unfold ref_IsBelow_L1
    rw [decide_eq_false (hk1 k (Nat.le_refl _)), decide_eq_true hk2]; rfl, rfl⟩
  rw [show d.Nodes[i].Parent = (anc d.Nodes d.Nodes[i] 0).Parent from rfl, h1, h2, belB_iff.2 hb]
  rfl
 ·
  obtain ⟨e, h1, h2⟩ := loop_nat (body := ref_IsBelow_L1 d g) (fun k => (anc d.Nodes d.Nodes[i] k).Parent) (fun e => e = Res.nx ()) 0 m (by omega) (fun j _ hj => by
   have hk : ∀ q, q ≤ j → (anc d.Nodes d.Nodes[i] q).Parent ≠ Str.nil := fun q hq => hm.2 q (by omega)
   exact .inl (step j hk (fun hg => hb ⟨j, hk, hg⟩))) ⟨_, by
    unfold ref_IsBelow_L1
    rw [decide_eq_true hm.1]; rfl, rfl⟩
  have : belB d.Nodes d.Nodes[i] g = false := by
   cases q : belB d.Nodes d.Nodes[i] g with
   | false => rfl
   | true => exact absurd (belB_iff.1 q) hb
  rw [show d.Nodes[i].Parent = (anc d.Nodes d.Nodes[i] 0).Parent from rfl, h1, h2, this]
  rfl
section
variable {d : Doc}
noncomputable def subB (l : List DNode) (k j : Nat) : Bool := decide (j = k) || belB l (gx l (j : Int)) (gx l (k : Int)).Id
theorem kid_iff {h : Right d} {k : Nat} (hk : k < d.Nodes.length) {c : Int} : c ∈ idxs d.Nodes d.Nodes[k].Id ↔ ∃ j : Nat, ∃ hj : j < d.Nodes.length, c = j ∧ d.Nodes[j].Parent = d.Nodes[k].Id := by
 rw [idxs_mem]
 constructor
 ·
  rintro ⟨⟨h1, h2⟩, h3⟩
  refine ⟨c.toNat, by omega, by omega, ?_⟩
  rw [show c = ((c.toNat : Nat) : Int) by omega, gx_nat (by omega)] at h3
  exact h3
 ·
  rintro ⟨j, hj, rfl, h3⟩
  exact ⟨⟨by omega, by omega⟩, by rw [gx_nat hj]; exact h3⟩
theorem sub_step (h : Right d) {k j : Nat} (hk : k < d.Nodes.length) (hj : j < d.Nodes.length) :
  subB d.Nodes k j = (decide (j = k) || (idxs d.Nodes d.Nodes[k].Id).any (fun c => subB d.Nodes c.toNat j)) := by
 unfold subB
 congr 1
 rw [Bool.eq_iff_iff, List.any_eq_true, gx_nat hk, gx_nat hj, belB_iff]
 constructor
 ·
  rintro ⟨q, h1, h2⟩
  have hmem := anc_mem h.parIn (List.getElem_mem hj) q (fun t ht => h1 t (by omega))
  obtain ⟨c, hc, he⟩ := List.mem_iff_getElem.1 hmem
  refine ⟨(c : Int), (kid_iff (h := h) hk).2 ⟨c, hc, rfl, by rw [he]; exact h2⟩, ?_⟩
  rw [show (c : Int).toNat = c by omega]
  cases q with
  | zero =>
   have e : d.Nodes[c] = d.Nodes[j] := he
   have : c = j := h.at_Id hc hj (by rw [e])
   simp [this]
  | succ q =>
   rw [Bool.or_eq_true]
   right
   rw [belB_iff, gx_nat hc]
   refine ⟨q, fun t ht => h1 t (by omega), ?_⟩
   have := (par_mem h.parIn (anc_mem h.parIn (List.getElem_mem hj) q (fun t ht => h1 t (by omega))) (h1 q (by omega))).2
   rw [← this]
   show (anc d.Nodes d.Nodes[j] (q + 1)).Id = _
   rw [← he]
 ·
  rintro ⟨c, hc, hs⟩
  obtain ⟨t, ht, rfl, hp⟩ := (kid_iff (h := h) hk).1 hc
  have hkid : d.Nodes[k].Id ≠ Str.nil := h.hid (List.getElem_mem hk)
  rw [show (t : Int).toNat = t by omega, Bool.or_eq_true, decide_eq_true_eq, belB_iff] at hs
  rcases hs with rfl | ⟨q, h1, h2⟩
  ·
   refine ⟨0, fun q hq => ?_, hp⟩
   have : q = 0 := by omega
   subst this
   show d.Nodes[j].Parent ≠ _
   rw [hp]; exact hkid
  ·
   rw [gx_nat ht] at h2
   have e : anc d.Nodes d.Nodes[j] (q + 1) = d.Nodes[t] := par_at h.hd ht h2
   refine ⟨q + 1, fun r hr => ?_, by rw [e]; exact hp⟩
   rcases Nat.lt_or_eq_of_le hr with c | c
   ·
    exact h1 r (by omega)
   ·
    rw [c, e, hp]; exact hkid
def MK (n : Nat) (P : Nat → Bool) : List Bool := (List.range n).map P
theorem MK_len {n : Nat} {P : Nat → Bool} : (MK n P).length = n := by simp [MK]
theorem MK_congr {n : Nat} {P Q : Nat → Bool} (h : ∀ j, j < n → P j = Q j) : MK n P = MK n Q := List.map_congr_left fun j hj => h j (by simpa using hj)
theorem MK_at {n : Nat} {P : Nat → Bool} {j : Nat} (hj : j < n) : gx (MK n P) (j : Int) = P j := by
 rw [gx_nat (by simpa [MK] using hj)]; simp [MK]
theorem MK_set {n : Nat} {P : Nat → Bool} {k : Nat} (v : Bool) : (MK n P).set k v = MK n (fun j => if j = k then v else P j) := by
 unfold MK
 apply List.ext_getElem
 ·
  simp
 ·
  intro i h1 h2
  rw [List.getElem_set]
  simp only [List.getElem_map, List.getElem_range]
  by_cases h : k = i
  ·
   simp [h]
  ·
   have : ¬ i = k := fun e => h e.symm
   simp [h, this]
theorem below_eq (h : Right d) {k : Nat} (hk : k < d.Nodes.length) (P : Nat → Bool) : page_view_below (viewD d) (k : Int) (MK d.Nodes.length P) = some (MK d.Nodes.length (fun j => P j || subB d.Nodes k j)) := by
 have hv : (viewD d).d.Nodes = d.Nodes := rfl
 have hvm : (viewD d).members = memM d.Nodes := rfl
 have key : ∀ (f m k : Nat) (hk : k < d.Nodes.length), Dp d.Nodes d.Nodes[k] m → 9 ≤ m + f → ∀ (P : Nat → Bool) N, f ≤ N → fixN page_view_below_body N (viewD d, (k : Int), MK d.Nodes.length P) = some (MK d.Nodes.length (fun j => P j || subB d.Nodes k j)) := by
  intro f
  induction f with
  | zero =>
   intro m k hk hm hf
   obtain ⟨q, hq, hq2⟩ := h.deep _ (List.getElem_mem hk)
   have := hm.uni hq2
   omega
  | succ f ih =>
   intro m k hk hm hf P N hN
   obtain ⟨N, rfl⟩ : ∃ q, N = q + 1 := ⟨N - 1, by omega⟩
   show page_view_below_body (fixN page_view_below_body N) _ = _
   have ih' := fun m k hk hm hf P => ih m k hk hm hf P N (by omega)
   generalize fixN page_view_below_body N = slf at ih' ⊢
   have hin : inR d.Nodes (k : Int) := ⟨by omega, by omega⟩
   unfold page_view_below_body
   simp only [bnd_eq]
   rw [need_of ⟨by omega, by rw [MK_len]; omega⟩, hv, hvm, need_of hin, gx_nat hk, memM_getD (h.hid (List.getElem_mem hk)), show (k : Int).toNat = k by omega, MK_set]
   generalize hks : idxs d.Nodes d.Nodes[k].Id = ks
   have hkl : (ks.length : Int) ≤ 9223372036854775807 := by
    rw [← hks]; unfold idxs
    rw [List.length_map]
    have := List.length_filter_le (fun (i : Nat) => decide ((gx d.Nodes (i : Int)).Parent = d.Nodes[k].Id)) (List.range d.Nodes.length)
    have := h.nl
    simp at *
    omega
   obtain ⟨s, h1, h2⟩ := rfor_inv (n := (ks.length : Int)) (step := page_view_below_L1 slf (viewD d, (k : Int), MK d.Nodes.length P) ks) (s0 := MK d.Nodes.length (fun j => if j = k then true else P j))
    (fun t s => s = MK d.Nodes.length (fun j => (if j = k then true else P j) || (ks.take t).any (fun c => subB d.Nodes c.toNat j))) hkl (by simp) (fun t s ht hI => by
     subst hI
     have ht' : t < ks.length := by omega
     unfold page_view_below_L1
     rw [need_of ⟨by omega, by omega⟩, gx_nat ht']
     have hmem : ks[t] ∈ idxs d.Nodes d.Nodes[k].Id := by rw [hks]; exact List.getElem_mem ht'
     obtain ⟨c, hc, hce, hcp⟩ := (kid_iff (h := h) hk).1 hmem
     have hpe := par_at h.hd hk hcp
     rw [hce, ih' (m + 1) c hc (Dp.kid (by rw [hcp]; exact h.hid (List.getElem_mem hk)) (by rw [hpe]; exact hm)) (by omega) _, Option.bind_some]
     refine ⟨_, rfl, MK_congr fun j hj => ?_⟩
     rw [List.take_succ_eq_append_getElem ht', List.any_append, hce]
     simp [Bool.or_assoc])
   rw [h1, h2]
   have : (ks.length : Int).toNat = ks.length := by omega
   rw [this, List.take_length, Option.bind_some]
   congr 1
   refine MK_congr fun j hj => ?_
   rw [sub_step h hk hj, hks]
   by_cases e : j = k <;> simp [e]
 obtain ⟨m, hm, hm2⟩ := h.deep _ (List.getElem_mem hk)
 exact fixp_of 9 (fun N hN => key 9 m k hk hm2 (by omega) P N hN)
end
end
theorem slook_bad {d : Doc} {e : Int} (hc : page_Check d = some e) (he : e ≠ 0) : page_look d = some (none, e) := by
 unfold page_look
 rw [hc, Option.bind_some, decide_eq_false he]; rfl
theorem slook_ok {d : Doc} (hc : page_Check d = some 0) (h : Right d) : page_look d = some (some (viewD d), 0) := by
 unfold page_look
 rw [hc, Option.bind_some, h.viewOf]; rfl
theorem nodeAt_natS {l : List DNode} {id : Str} (h : ¬ nodeAt l id < 0) : ∃ i : Nat, ∃ hi : i < l.length, nodeAt l id = i ∧ l[i].Id = id := by
 obtain ⟨⟨h1, h2⟩, h3⟩ := nodeAt_in h
 refine ⟨(nodeAt l id).toNat, by omega, by omega, ?_⟩
 rw [show nodeAt l id = (((nodeAt l id).toNat : Nat) : Int) by omega, gx_nat (by omega)] at h3
 exact h3
theorem filter_flatS {α β : Type} (q : α → Bool) (f : α → β) : ∀ xs : List α, xs.flatMap (fun i => if q i = true then [f i] else []) = (xs.filter q).map f
 | [] => rfl
 | x :: xs => by
  rw [List.flatMap_cons, filter_flatS q f xs, List.filter_cons]
  by_cases h : q x = true <;> simp [h]
theorem range_gxS {α : Type} [Inhabited α] (l : List α) : (List.range l.length).map (fun (i : Nat) => gx l (i : Int)) = l := by
 apply List.ext_getElem
 ·
  simp
 ·
  intro i h1 h2
  simp [gx_nat h2]
theorem Index_string_eq (s : List Str) (v : Str) (hl : (s.length : Int) ≤ 9223372036854775807) : slices_Index_string s v = some (match s.findIdx? (fun x => decide (v = x)) with | some i => (i : Int) | none => -1) := by
 unfold slices_Index_string
 rw [rforE_index (fun x => decide (v = x)) hl (fun i h => by unfold slices_Index_string_L1; rw [need_of ⟨by omega, by omega⟩, gx_nat h]; cases decide (v = s[i]) <;> rfl)]
 cases s.findIdx? (fun x => decide (v = x)) <;> rfl
theorem Contains_string_eq (s : List Str) (v : Str) (hl : (s.length : Int) ≤ 9223372036854775807) : slices_Contains_string s v = some (decide (v ∈ s)) := by
 unfold slices_Contains_string
 rw [Index_string_eq s v hl, Option.bind_some]
 have : decide (v ∈ s) = s.any (fun x => decide (v = x)) := by
  rw [Bool.eq_iff_iff, List.any_eq_true, decide_eq_true_eq]
  simp
 rw [this]
 exact congrArg some idx_any
theorem IndexFunc_string_eq (s : List Str) (f : Str → Option Bool) (p : Str → Bool) (hl : (s.length : Int) ≤ 9223372036854775807) (hf : ∀ x ∈ s, f x = some (p x)) :
  slices_IndexFunc_string s f = some (match s.findIdx? p with | some i => (i : Int) | none => -1) := by
 unfold slices_IndexFunc_string
 rw [rforE_index p hl (fun i h => by unfold slices_IndexFunc_string_L1; rw [need_of ⟨by omega, by omega⟩, gx_nat h, hf _ (List.getElem_mem h)]; simp only [bind_sm]; cases p s[i] <;> rfl)]
 cases s.findIdx? p <;> rfl
theorem ContainsFunc_string_eq (s : List Str) (f : Str → Option Bool) (p : Str → Bool) (hl : (s.length : Int) ≤ 9223372036854775807) (hf : ∀ x ∈ s, f x = some (p x)) :
  slices_ContainsFunc_string s f = some (s.any p) := by
 unfold slices_ContainsFunc_string
 rw [IndexFunc_string_eq s f p hl hf, bind_sm]
 exact congrArg some idx_any
def selE (l : List DNode) (ids : List Str) (k : Nat) : Int := if nodeAt l (gx ids (k : Int)) < 0 then 10 else if gx ids (k : Int) ∈ ids.take k then 6 else 0
def selErr (l : List DNode) (ids : List Str) : Int := firstErr ((List.range ids.length).map (selE l ids))
noncomputable def rootB (l : List DNode) (ids : List Str) (n : DNode) : Bool := decide (n.Id ∈ ids) && !ids.any (fun g => belB l n g)
noncomputable def tchB (l : List DNode) (ids : List Str) (n : DNode) : Bool := ids.any (fun g => decide (n.Id = g) || belB l n g)
noncomputable def rootL (l : List DNode) (ids : List Str) : List Int := ((List.range l.length).filter (fun (i : Nat) => rootB l ids (gx l (i : Int)))).map (fun (i : Nat) => (i : Int))
theorem rootL_mem {l : List DNode} {ids : List Str} {k : Int} (h : k ∈ rootL l ids) : ∃ j : Nat, ∃ hj : j < l.length, k = j ∧ rootB l ids l[j] = true := by
 obtain ⟨j, hj, rfl⟩ := List.mem_map.1 h
 obtain ⟨h1, h2⟩ := List.mem_filter.1 hj
 have h1' : j < l.length := by simpa using h1
 exact ⟨j, h1', rfl, by rw [← gx_nat h1']; exact h2⟩
theorem mem_rootL {l : List DNode} {ids : List Str} {j : Nat} (hj : j < l.length) (h : rootB l ids l[j] = true) : (j : Int) ∈ rootL l ids :=
 List.mem_map.2 ⟨j, List.mem_filter.2 ⟨by simpa using hj, by rw [gx_nat hj]; exact h⟩, rfl⟩
theorem rootL_len {l : List DNode} {ids : List Str} (hl : l.length ≤ 500) : (rootL l ids).length ≤ 500 := by
 unfold rootL
 rw [List.length_map]
 refine Nat.le_trans (List.length_filter_le _ _) ?_
 simp; omega
theorem SelectionError_eq {d : Doc} (hl : d.Nodes.length ≤ 500) {ids : List Str} (hi : (ids.length : Int) ≤ 9223372036854775807) : ref_SelectionError d ids = some (selErr d.Nodes ids) := by
 unfold ref_SelectionError
 have := rforE_errS (n := ids.length) (step := ref_SelectionError_L1 d ids) (fin := fun s => (Res.nx s : Res Unit Int)) (fun _ => ()) (selE d.Nodes ids) (fun e => Res.ab e) hi (fun i hi' _ => by
  unfold ref_SelectionError_L1
  rw [need_of ⟨by omega, by omega⟩, bnd_eq, NodeAt_eq (by omega), Option.bind_some, When_eq, Option.bind_some, need_of ⟨by omega, by omega, by omega⟩]
  have hseg : seg ids 0 (i : Int) = ids.take i := by simp [seg]
  rw [hseg, Contains_string_eq _ _ (by simp; omega), Option.bind_some, When_eq, Option.bind_some, First_eq (by simp), Option.bind_some]
  have e : firstErr [if decide (nodeAt d.Nodes (gx ids (i : Int)) < 0) = true then (10 : Int) else 0, if decide (gx ids (i : Int) ∈ ids.take i) = true then (6 : Int) else 0] = selE d.Nodes ids i := by
   unfold selE
   by_cases h1 : nodeAt d.Nodes (gx ids (i : Int)) < 0
   ·
    simp [h1]
   ·
    by_cases h2 : gx ids (i : Int) ∈ ids.take i
    ·
     simp [h1, h2]
    ·
     simp [h1, h2]
  rw [e]
  by_cases h : selE d.Nodes ids i = 0
  ·
   rw [decide_eq_true h, if_pos h]; rfl
  ·
   rw [decide_eq_false h, if_neg h]; rfl)
 rw [this]
 by_cases h : selErr d.Nodes ids = 0
 ·
  have h' : firstErr ((List.range ids.length).map (selE d.Nodes ids)) = 0 := h
  rw [if_pos h', h]; rfl
 ·
  have h' : ¬ firstErr ((List.range ids.length).map (selE d.Nodes ids)) = 0 := h
  rw [if_neg h']; rfl
theorem under_eq {d : Doc} (h : Right d) (ids : List Str) {i : Nat} (hi : i < d.Nodes.length) :
  loop (page_selected_L3 d (viewD d) (MK d.Nodes.length (fun j => decide ((gx d.Nodes (j : Int)).Id ∈ ids)))) (false, d.Nodes[i]) = some (ids.any (fun g => belB d.Nodes d.Nodes[i] g)) := by
 have hn := List.getElem_mem hi
 obtain ⟨m, _, hm⟩ := h.deep _ hn
 let U : Nat → Bool := fun k => (List.range k).any (fun j => decide ((anc d.Nodes d.Nodes[i] j).Parent ∈ ids))
 obtain ⟨e, h1, h2⟩ := loop_nat (body := page_selected_L3 d (viewD d) (MK d.Nodes.length (fun j => decide ((gx d.Nodes (j : Int)).Id ∈ ids)))) (fun k => (U k, anc d.Nodes d.Nodes[i] k)) (fun e => e = U m) 0 m (by omega) (fun k _ hk => by
  left
  have hne := hm.2 k hk
  have hmem := anc_mem h.parIn hn k (fun j hj => hm.2 j (by omega))
  obtain ⟨t, ht, ha, hid⟩ := nodeAt_natS (l := d.Nodes) (id := (anc d.Nodes d.Nodes[i] k).Parent) (by
   have := (nodeAt_pos (h.parIn _ hmem hne)).1.1
   omega)
  have hvn : (viewD d).number = numM d.Nodes := rfl
  unfold page_selected_L3
  simp only [bnd_eq]
  rw [decide_eq_false hne, Bool.not_false, cond_true, hvn, numM_getD (by omega), ha, need_of (fun _ => ⟨by omega, by rw [MK_len]; omega⟩), MK_at ht, need_of ⟨by omega, by omega⟩]
  have e1 : U (k + 1) = (U k || decide ((gx d.Nodes (t : Int)).Id ∈ ids)) := by
   show (List.range (k + 1)).any _ = _
   rw [List.range_succ, List.any_append, gx_nat ht, hid]
   simp [U]
  have e2 : anc d.Nodes d.Nodes[i] (k + 1) = gx d.Nodes (t : Int) := by
   show gx d.Nodes (nodeAt d.Nodes (anc d.Nodes d.Nodes[i] k).Parent) = _
   rw [ha]
  rw [e1, e2]) ⟨_, by
  unfold page_selected_L3
  simp only
  rw [decide_eq_true hm.1]; rfl, rfl⟩
 have h0 : ((false, d.Nodes[i]) : Bool × DNode) = (U 0, anc d.Nodes d.Nodes[i] 0) := rfl
 rw [h0, h1, h2]
 congr 1
 rw [Bool.eq_iff_iff, List.any_eq_true, List.any_eq_true]
 constructor
 ·
  rintro ⟨j, hj, hx⟩
  have hj' : j < m := by simpa using hj
  exact ⟨_, of_decide_eq_true hx, belB_iff.2 ⟨j, fun q hq => hm.2 q (by omega), rfl⟩⟩
 ·
  rintro ⟨g, hg, hx⟩
  obtain ⟨k, k1, k2⟩ := belB_iff.1 hx
  have hk : k < m := by
   apply Classical.byContradiction
   intro hc
   exact k1 m (by omega) hm.1
  exact ⟨k, by simpa using hk, by rw [k2]; exact decide_eq_true hg⟩
theorem selected_bad {d : Doc} {e : Int} (hc : page_Check d = some e) (he : e ≠ 0) (ids : List Str) : page_selected d ids = some (none, [], e) := by
 unfold page_selected
 rw [slook_bad hc he, Option.bind_some, decide_eq_false he]; rfl
theorem selected_eq {d : Doc} (hc : page_Check d = some 0) (h : Right d) {ids : List Str} (hi : (ids.length : Int) ≤ 9223372036854775807) :
  page_selected d ids = some (if selErr d.Nodes ids = 0 then (some (viewD d), rootL d.Nodes ids, 0) else (none, [], selErr d.Nodes ids)) := by
 have hnl := h.nl
 have hv : (viewD d).d.Nodes = d.Nodes := rfl
 have hvn : (viewD d).number = numM d.Nodes := rfl
 unfold page_selected
 rw [slook_ok hc h, Option.bind_some]
 simp only [decide_true, Bool.not_true, cond_false, bnd_eq, Option.bind_some]
 rw [need_of ⟨by omega, by omega, by omega⟩]
 have hrep : List.replicate (d.Nodes.length : Int).toNat false = MK d.Nodes.length (fun j => decide ((gx d.Nodes (j : Int)).Id ∈ ids.take 0)) := by
  unfold MK
  rw [show (d.Nodes.length : Int).toNat = d.Nodes.length by omega]
  simp only [List.take_zero, List.not_mem_nil, decide_false, List.map_const', List.length_range]
 rw [hrep]
 have := rforE_errS (n := ids.length) (step := page_selected_L1 (viewD d) ids) (fin := fun s => (Res.nx s : Res (List Bool) ((Option Page_view) × (List Int) × Int))) (fun k => MK d.Nodes.length (fun j => decide ((gx d.Nodes (j : Int)).Id ∈ ids.take k))) (selE d.Nodes ids) (fun e => Res.ab (none, [], e)) hi (fun i hi' _ => by
  unfold page_selected_L1
  rw [need_of ⟨by omega, by omega⟩, bnd_eq, hvn, numM_has]
  unfold selE
  by_cases h1 : nodeAt d.Nodes (gx ids (i : Int)) < 0
  ·
   rw [decide_eq_false (by omega), if_pos h1]; rfl
  ·
   obtain ⟨t, ht, ha, hid⟩ := nodeAt_natS h1
   rw [if_neg h1, decide_eq_true (by omega), Bool.not_true, cond_false, numM_getD (by omega), ha, need_of ⟨by omega, by rw [MK_len]; omega⟩, MK_at ht, gx_nat ht, hid]
   by_cases h2 : gx ids (i : Int) ∈ ids.take i
   ·
    rw [if_pos h2, decide_eq_true h2]; rfl
   ·
    rw [if_neg h2, decide_eq_false h2, cond_false, need_of ⟨by omega, by rw [MK_len]; omega⟩, if_pos rfl, show (t : Int).toNat = t by omega, MK_set]
    congr 2
    refine MK_congr fun j hj => ?_
    have hm1 : ∀ x, decide (x ∈ ids.take (i + 1)) = (decide (x ∈ ids.take i) || decide (x = ids[i])) := fun x => by
     rw [Bool.eq_iff_iff, Bool.or_eq_true, decide_eq_true_eq, decide_eq_true_eq, decide_eq_true_eq, List.take_succ_eq_append_getElem hi', List.mem_append, List.mem_singleton]
    rw [hm1]
    by_cases hjt : j = t
    ·
     subst hjt
     rw [if_pos rfl, gx_nat ht, hid, gx_nat hi', decide_eq_true (rfl : ids[i] = ids[i]), Bool.or_true]
    ·
     rw [if_neg hjt]
     have : (gx d.Nodes (j : Int)).Id ≠ ids[i] := fun e => by
      rw [gx_nat hj, ← gx_nat hi', ← hid] at e
      exact hjt (h.at_Id hj ht e)
     rw [decide_eq_false this, Bool.or_false])
 rw [this]
 by_cases hs : selErr d.Nodes ids = 0
 case neg =>
  have hs' : ¬ firstErr ((List.range ids.length).map (selE d.Nodes ids)) = 0 := hs
  rw [if_neg hs', if_neg hs]; rfl
 have hs' : firstErr ((List.range ids.length).map (selE d.Nodes ids)) = 0 := hs
 rw [if_pos hs', if_pos hs, bindR_nx, List.take_length]
 obtain ⟨s, g1, g2⟩ := rfor_inv (n := (d.Nodes.length : Int)) (step := page_selected_L2 d (viewD d) (MK d.Nodes.length (fun j => decide ((gx d.Nodes (j : Int)).Id ∈ ids)))) (s0 := ([] : List Int))
  (fun k s => s = ((List.range k).filter (fun (i : Nat) => rootB d.Nodes ids (gx d.Nodes (i : Int)))).map (fun (i : Nat) => (i : Int)) ∧ s.length ≤ k) (by omega) (by simp) (fun k s hk hI => by
  have hk' : k < d.Nodes.length := by omega
  obtain ⟨rfl, hle⟩ := hI
  unfold page_selected_L2
  rw [need_of ⟨by omega, by omega⟩, bnd_eq, gx_nat hk', under_eq h ids hk', Option.bind_some, need_of ⟨by omega, by rw [MK_len]; omega⟩, MK_at hk', gx_nat hk', List.range_succ, List.filter_append, List.map_append]
  have hr : rootB d.Nodes ids (gx d.Nodes (k : Int)) = (decide (d.Nodes[k].Id ∈ ids) && !ids.any (fun g => belB d.Nodes d.Nodes[k] g)) := by rw [gx_nat hk']; rfl
  rw [← hr]
  cases hp : rootB d.Nodes ids (gx d.Nodes (k : Int)) with
  | false => refine ⟨_, rfl, by simp [hp], by omega⟩
  | true =>
   rw [cond_true, need_of (by show _ ≤ _; simp at hle ⊢; omega)]
   refine ⟨_, rfl, by simp [hp], by simp at hle ⊢; omega⟩)
 rw [g1, g2.1, show (d.Nodes.length : Int).toNat = d.Nodes.length by omega]
 rfl
theorem RootsOf_eq {d : Doc} (h : Right d) {ids : List Str} (hi : (ids.length : Int) ≤ 9223372036854775807) : ref_RootsOf d ids = some ((rootL d.Nodes ids).map (fun k => (gx d.Nodes k).Id)) := by
 have hnl := h.nl
 unfold ref_RootsOf
 rw [rfor_gather (fun n => if rootB d.Nodes ids n = true then [n.Id] else []) [] (fun a _ => by split <;> simp) (by simp; omega) (fun k s hk hs => by
  unfold ref_RootsOf_L1
  obtain ⟨j, rfl⟩ : ∃ j : Nat, k = j := ⟨k.toNat, by have := hk.1; omega⟩
  have hj : j < d.Nodes.length := by have := hk.2; omega
  rw [need_of hk, bnd_eq, gx_nat hj, Contains_string_eq _ _ hi, Option.bind_some, ContainsFunc_string_eq ids (fun x0 => ref_RootsOf_1 x0 d d.Nodes[j]) (fun g => belB d.Nodes d.Nodes[j] g) hi (fun g _ => by
   unfold ref_RootsOf_1
   rw [IsBelow_eq h hj]; rfl)]
  unfold rootB
  cases decide (d.Nodes[j].Id ∈ ids) with
  | false => simp [gd]
  | true =>
   rw [gd_true, Option.bind_some]
   cases ids.any (fun g => belB d.Nodes d.Nodes[j] g) with
   | true => simp
   | false =>
    simp only [Bool.not_false, Bool.and_self, cond_true, if_true]
    rw [need_of (by show _ ≤ _; simp; omega)])]
 simp only [List.nil_append, Option.bind_some]
 congr 1
 have hg : ∀ g : DNode → List Str, d.Nodes.flatMap g = (List.range d.Nodes.length).flatMap (fun (j : Nat) => g (gx d.Nodes (j : Int))) := fun g => by
  have e := List.flatMap_map (f := fun (j : Nat) => gx d.Nodes (j : Int)) (g := g) (l := List.range d.Nodes.length)
  rw [range_gxS] at e
  exact e
 rw [hg, filter_flatS (fun (j : Nat) => rootB d.Nodes ids (gx d.Nodes (j : Int))) (fun (j : Nat) => (gx d.Nodes (j : Int)).Id)]
 unfold rootL
 rw [List.map_map]
 rfl
theorem roots_tch {d : Doc} (h : Right d) (ids : List Str) {j : Nat} (hj : j < d.Nodes.length) : (rootL d.Nodes ids).any (fun k => subB d.Nodes k.toNat j) = tchB d.Nodes ids d.Nodes[j] := by
 have hn := List.getElem_mem hj
 obtain ⟨m, _, hm⟩ := h.deep _ hn
 unfold tchB
 rw [Bool.eq_iff_iff, List.any_eq_true, List.any_eq_true]
 constructor
 ·
  rintro ⟨k, hk, hs⟩
  obtain ⟨t, ht, rfl, hr⟩ := rootL_mem hk
  rw [show (t : Int).toNat = t by omega] at hs
  unfold rootB at hr
  rw [Bool.and_eq_true] at hr
  refine ⟨_, of_decide_eq_true hr.1, ?_⟩
  unfold subB at hs
  rw [Bool.or_eq_true, decide_eq_true_eq, gx_nat hj, gx_nat ht] at hs
  rw [Bool.or_eq_true, decide_eq_true_eq]
  rcases hs with rfl | hs
  ·
   exact .inl rfl
  ·
   exact .inr hs
 ·
  rintro ⟨g, hg, hx⟩
  have main : ∀ (t q : Nat), q + t = m → (anc d.Nodes d.Nodes[j] q).Id ∈ ids → ∃ k ∈ rootL d.Nodes ids, subB d.Nodes k.toNat j = true := by
   intro t
   induction t using Nat.strongRecOn with
   | _ t ih =>
    intro q hq hin
    by_cases hup : ∃ q', q < q' ∧ q' ≤ m ∧ (anc d.Nodes d.Nodes[j] q').Id ∈ ids
    ·
     obtain ⟨q', a1, a2, a3⟩ := hup
     exact ih (m - q') (by omega) q' (by omega) a3
    ·
     have hmem := anc_mem h.parIn hn q (fun s hs => hm.2 s (by omega))
     obtain ⟨k, hk, he⟩ := List.mem_iff_getElem.1 hmem
     refine ⟨(k : Int), mem_rootL hk ?_, ?_⟩
     ·
      unfold rootB
      rw [Bool.and_eq_true, he, decide_eq_true_eq, Bool.not_eq_true', List.any_eq_false]
      refine ⟨hin, fun g hg hb => ?_⟩
      obtain ⟨s, s1, s2⟩ := belB_iff.1 hb
      rw [← anc_add] at s2
      have hs : q + s < m := by
       apply Classical.byContradiction
       intro hc
       have := s1 (m - q) (by omega)
       rw [← anc_add, show q + (m - q) = m by omega] at this
       exact this hm.1
      have e := (par_mem h.parIn (anc_mem h.parIn hn (q + s) (fun r hr => hm.2 r (by omega))) (hm.2 (q + s) hs)).2
      exact hup ⟨q + s + 1, by omega, by omega, by
       show (par d.Nodes (anc d.Nodes d.Nodes[j] (q + s))).Id ∈ ids
       rw [e, s2]; exact hg⟩
     ·
      rw [show (k : Int).toNat = k by omega]
      unfold subB
      rw [Bool.or_eq_true, decide_eq_true_eq, gx_nat hj, gx_nat hk, belB_iff]
      cases q with
      | zero => exact .inl (h.at_Id hj hk (by rw [he]; rfl))
      | succ q =>
       right
       refine ⟨q, fun s hs => hm.2 s (by omega), ?_⟩
       have e := (par_mem h.parIn (anc_mem h.parIn hn q (fun r hr => hm.2 r (by omega))) (hm.2 q (by omega))).2
       rw [he]
       exact e.symm
  rw [Bool.or_eq_true, decide_eq_true_eq, belB_iff] at hx
  rcases hx with hx | ⟨q, q1, q2⟩
  ·
   exact main m 0 (by omega) (by show d.Nodes[j].Id ∈ ids; rw [hx]; exact hg)
  ·
   have hq : q < m := by
    apply Classical.byContradiction
    intro hc
    exact q1 m (by omega) hm.1
   have e := (par_mem h.parIn (anc_mem h.parIn hn q (fun r hr => hm.2 r (by omega))) (hm.2 q hq)).2
   exact main (m - (q + 1)) (q + 1) (by omega) (by
    show (par d.Nodes (anc d.Nodes d.Nodes[j] q)).Id ∈ ids
    rw [e, q2]; exact hg)
theorem Touched_eq {d : Doc} (h : Right d) {ids : List Str} (hi : (ids.length : Int) ≤ 9223372036854775807) : ∃ m, ref_Touched d ids = some m ∧ ∀ (j : Nat) (hj : j < d.Nodes.length), m.getD d.Nodes[j].Id false = tchB d.Nodes ids d.Nodes[j] := by
 have hnl := h.nl
 unfold ref_Touched
 obtain ⟨s, g1, g2⟩ := rfor_inv (n := (d.Nodes.length : Int)) (step := ref_Touched_L1 d ids) (s0 := (GMap.nil : GMap Str Bool)) (fun k s => ∀ (j : Nat) (hj : j < d.Nodes.length), j < k → s.f d.Nodes[j].Id = some (tchB d.Nodes ids d.Nodes[j])) (by omega) (fun j hj hk => by omega) (fun k s hk hI => by
  have hk' : k < d.Nodes.length := by omega
  unfold ref_Touched_L1
  rw [need_of ⟨by omega, by omega⟩, bnd_eq, gx_nat hk', ContainsFunc_string_eq ids (fun x0 => ref_Touched_1 x0 d.Nodes[k] d) (fun g => decide (d.Nodes[k].Id = g) || belB d.Nodes d.Nodes[k] g) hi (fun g _ => by
   unfold ref_Touched_1
   rw [IsBelow_eq h hk']
   by_cases e : d.Nodes[k].Id = g
   ·
    rw [decide_eq_true e]; simp [gd]
   ·
    rw [decide_eq_false e]; simp [gd]), Option.bind_some]
  refine ⟨_, rfl, fun j hj hjk => ?_⟩
  show (if d.Nodes[j].Id = d.Nodes[k].Id then some _ else s.f d.Nodes[j].Id) = _
  by_cases e : j = k
  ·
   subst e
   rw [if_pos rfl]; rfl
  ·
   rw [if_neg (fun hid => e (h.at_Id hj hk' hid))]
   exact hI j hj (by omega))
 rw [bnd_eq, g1]
 refine ⟨s, rfl, fun j hj => ?_⟩
 unfold GMap.getD
 rw [g2 j hj (by omega)]; rfl
theorem rforE_none {α σ O : Type} {step : Int → σ → Option (Res σ O)} {fin : σ → O} {s : σ} : rforE (([] : List α).length : Int) step fin s = some (fin s) := by
 rw [rforE_eq (by simp)]; rfl
theorem pages_eq : law_pages = some true := by
 unfold law_pages
 have e1 : page_Check (⟨([] : (List DNode)), ([] : (List DEdge))⟩ : Doc) = some 0 := by
  unfold page_Check
  dsimp only
  rw [bnd_eq, rforE_none, bindR_nx, viewOf_eq (by simp) (by simp), Option.bind_some, Option.bind_some]
  have : page_view_checkGroups (viewD ⟨[], []⟩) = some 0 := by
   unfold page_view_checkGroups
   have hv : (viewD ⟨[], []⟩).d.Nodes = [] := rfl
   rw [hv, rforE_none, bindR_nx, rforE_none, bindR_nx, rforE_none, bindR_nx, rforE_none, bindR_nx]
  rw [this, Option.bind_some, rforE_none, bindR_nx, rforE_none, bindR_nx]
  rfl
 have e2 : page_Check (⟨[(⟨Str.nil, (0 : Int), (⟨(0 : Int), (0 : Int), (0 : Int), (0 : Int)⟩ : Box), Str.nil, Str.nil, Str.nil, false⟩ : DNode)], ([] : (List DEdge))⟩ : Doc) = some 5 := by
  unfold page_Check
  simp only [List.length_nil, List.length_cons, bnd_eq]
  rw [rforE_eq (by simp)]
  have : ((0 + 1 : Nat) : Int).toNat = 1 := rfl
  rw [this]
  simp only [rgoE]
  have : page_Check_L1 (⟨[(⟨Str.nil, (0 : Int), (⟨(0 : Int), (0 : Int), (0 : Int), (0 : Int)⟩ : Box), Str.nil, Str.nil, Str.nil, false⟩ : DNode)], ([] : (List DEdge))⟩ : Doc) 0 GMap.nil = some (Res.ab (Res.ab 5)) := by
   unfold page_Check_L1
   rw [need_of ⟨by omega, by simp⟩, bnd_eq, checkNode_eq]
   simp [gx, nodeErr, nameB, Str.nil]
  rw [this]
  rfl
 rw [e1, Option.bind_some]
 simp only [decide_true, gd_true]
 rw [e2]
 rfl
theorem Clone_Node_eq {l : List DNode} (h : l.length ≤ 1073741824) : slices_Clone_Node l = some l := by
 unfold slices_Clone_Node
 rw [need_of (by simpa [room_iff] using h), bnd_eq, List.nil_append]
 exact nilc_eq fun e => by rw [e]
theorem Clone_Edge_eq {l : List DEdge} (h : l.length ≤ 1073741824) : slices_Clone_Edge l = some l := by
 unfold slices_Clone_Edge
 rw [need_of (by simpa [room_iff] using h), bnd_eq, List.nil_append]
 exact nilc_eq fun e => by rw [e]
theorem Clone_Point_eq {l : List Point} (h : l.length ≤ 1073741824) : slices_Clone_Point l = some l := by
 unfold slices_Clone_Point
 rw [need_of (by simpa [room_iff] using h), bnd_eq, List.nil_append]
 exact nilc_eq fun e => by rw [e]
theorem Right.bends {d : Doc} (h : Right d) {x : DEdge} (hx : x ∈ d.Edges) : x.Bends.length ≤ 50 := by
 obtain ⟨i, hi, rfl⟩ := List.getElem_of_mem hx
 have := h.edge i hi
 unfold edgeErr at this
 have h4 := firstErr_zero.1 this (if 50 < d.Edges[i].Bends.length then 4 else 0) (by simp)
 by_cases c : 50 < d.Edges[i].Bends.length
 ·
  rw [if_pos c] at h4; cases h4
 ·
  omega
theorem set_selfE {l : List DEdge} {i : Nat} (hi : i < l.length) {x : DEdge} (hx : x = l[i]) : l.set i x = l := by
 subst hx; exact List.set_getElem_self hi
theorem cloned_eq {d : Doc} (h : Right d) : page_cloned d = some d := by
 unfold page_cloned
 have hn := h.nl
 have he := h.el
 rw [bnd_eq, Clone_Node_eq (by omega), Clone_Edge_eq (by omega), Option.bind_some, Option.bind_some]
 obtain ⟨s, h1, h2⟩ := rfor_inv (n := (d.Edges.length : Int)) (step := page_cloned_L1) (s0 := d.Edges) (fun _ s => s = d.Edges) (by omega) rfl (fun i s hi hs => by
  subst hs
  have hi' : i < d.Edges.length := by omega
  refine ⟨d.Edges, ?_, rfl⟩
  unfold page_cloned_L1
  rw [need_of ⟨by omega, by omega⟩, gx_nat hi', Clone_Point_eq (by have := h.bends (List.getElem_mem hi'); omega), Option.bind_some, need_of ⟨by omega, by omega⟩]
  rw [show ((i : Int).toNat) = i from rfl, set_selfE hi' rfl])
 rw [h1, Option.bind_some, h2]
theorem Copied_eq {d : Doc} (h : Right d) : ref_Copied d = some d := by
 unfold ref_Copied
 have hn := h.nl
 have he := h.el
 rw [bnd_eq, Clone_Node_eq (by omega), Clone_Edge_eq (by omega), Option.bind_some, Option.bind_some]
 obtain ⟨s, h1, h2⟩ := rfor_inv (n := (d.Edges.length : Int)) (step := ref_Copied_L1) (s0 := d.Edges) (fun _ s => s = d.Edges) (by omega) rfl (fun i s hi hs => by
  subst hs
  have hi' : i < d.Edges.length := by omega
  refine ⟨d.Edges, ?_, rfl⟩
  unfold ref_Copied_L1
  rw [need_of ⟨by omega, by omega⟩, gx_nat hi', Clone_Point_eq (by have := h.bends (List.getElem_mem hi'); omega), Option.bind_some, need_of ⟨by omega, by omega⟩]
  rw [show ((i : Int).toNat) = i from rfl, set_selfE hi' rfl])
 rw [h1, Option.bind_some, h2]
theorem Equal_Node_refl {l : List DNode} (hl : (l.length : Int) ≤ 9223372036854775807) : slices_Equal_Node l l = some true := by
 unfold slices_Equal_Node
 simp only [decide_true, Bool.not_true, cond_false]
 rw [rforE_same rfl hl (fun i hi => by
  unfold slices_Equal_Node_L1
  rw [need_of ⟨by omega, by omega⟩, need_of ⟨by omega, by omega⟩, gx_nat hi]
  simp)]
 simp
theorem SameDoc_refl {d : Doc} (hn : (d.Nodes.length : Int) ≤ 9223372036854775807) (he : (d.Edges.length : Int) ≤ 9223372036854775807) (hb : ∀ x ∈ d.Edges, (x.Bends.length : Int) ≤ 9223372036854775807) : ref_SameDoc d d = some true := by
 unfold ref_SameDoc
 rw [Equal_Node_refl hn, Option.bind_some, gd_true]
 have : slices_EqualFunc_Edge d.Edges d.Edges ref_SameDoc_1 = some true := by
  unfold slices_EqualFunc_Edge
  simp only [decide_true, Bool.not_true, cond_false]
  rw [rforE_any (fun _ => false) (Res.ab false) he (fun i hi => by
   unfold slices_EqualFunc_Edge_L1
   have hs : ref_SameDoc_1 (gx d.Edges i) (gx d.Edges i) = some true := by
    unfold ref_SameDoc_1
    rw [Equal_Point_eq _ _ (hb _ (gx_mem hi))]
    simp
   rw [need_of hi, bnd_eq, need_of hi, bnd_eq, hs]; rfl)]
  simp
 rw [this]; rfl
theorem docIs_bad {w : Int} (hw : w ≠ 0) (r : Doc) : law_docIs ⟨[], []⟩ w w r = some true := by
 unfold law_docIs
 rw [decide_eq_false hw]; simp
theorem docIs_ok {d : Doc} (hn : (d.Nodes.length : Int) ≤ 9223372036854775807) (he : (d.Edges.length : Int) ≤ 9223372036854775807) (hb : ∀ x ∈ d.Edges, (x.Bends.length : Int) ≤ 9223372036854775807) : law_docIs d 0 0 d = some true := by
 unfold law_docIs
 simp only [decide_true, Bool.not_true, cond_false, gd_true]
 rw [SameDoc_refl hn he hb]; rfl
section
section
open Classical
end
end
theorem rfor_sets {α : Type} [Inhabited α] {l : List α} {step : Int → List α → Option (List α)} (g : Nat → α → α) (hl : (l.length : Int) ≤ 9223372036854775807)
  (h : ∀ (i : Nat) (s : List α), i < l.length → s.length = l.length → gx s (i : Int) = gx l (i : Int) → step i s = some (s.set i (g i (gx l (i : Int))))) :
  rfor (l.length : Int) step l = some ((List.range l.length).map fun (i : Nat) => g i (gx l (i : Int))) := by
 obtain ⟨s, h1, h2, h3⟩ := rfor_inv (n := (l.length : Int)) (step := step) (s0 := l) (fun k s => s.length = l.length ∧ ∀ j : Nat, j < l.length → gx s (j : Int) = if j < k then g j (gx l (j : Int)) else gx l (j : Int)) hl ⟨rfl, fun j hj => by rw [if_neg (by omega)]⟩ (fun i s hi hI => by
  obtain ⟨i1, i2⟩ := hI
  have hi' : i < l.length := by omega
  refine ⟨_, h i s hi' i1 (by rw [i2 i hi', if_neg (by omega)]), by simpa using i1, fun j hj => ?_⟩
  rw [gx_nat (by simpa [i1] using hj), List.getElem_set]
  by_cases e : i = j
  ·
   subst e; rw [if_pos rfl, if_pos (by omega)]
  ·
   rw [if_neg e]
   have := i2 j hj
   rw [gx_nat (by omega)] at this
   rw [this]
   by_cases c : j < i
   ·
    rw [if_pos c, if_pos (by omega)]
   ·
    rw [if_neg c, if_neg (by omega)])
 rw [h1]
 congr 1
 refine List.ext_getElem (by simpa using h2) fun j a1 a2 => ?_
 have := h3 j (by omega)
 rw [gx_nat a1, if_pos (by omega)] at this
 rw [this]; simp
theorem range_mapS {α β : Type} [Inhabited α] (l : List α) (g : α → β) : (List.range l.length).map (fun (i : Nat) => g (gx l (i : Int))) = l.map g := by
 conv => rhs; rw [← range_gxS l]
 rw [List.map_map]; rfl
theorem gx_setS {α : Type} [Inhabited α] {s : List α} {i : Nat} (h : i < s.length) (x : α) : gx (s.set i x) (i : Int) = x := by
 rw [gx_nat (by simpa using h)]; simp
theorem set_gxS {α : Type} [Inhabited α] {s : List α} {i : Nat} (h : i < s.length) {x : α} (hx : x = gx s (i : Int)) : s.set i x = s := by
 rw [hx, gx_nat h]; exact List.set_getElem_self h
theorem fe_anyB {b : Nat → Bool} {e : Int} (he : e ≠ 0) : ∀ l : List Nat, firstErr (l.map (fun i => if b i = true then e else 0)) = if l.any b = true then e else 0
 | [] => rfl
 | x :: l => by
  rw [List.map_cons, firstErr_cons, fe_anyB he l, List.any_cons]
  cases h : b x with
  | true => simp [he]
  | false => simp
def mvP (dx dy : Int) (p : Point) : Point := ⟨W (p.X + dx), W (p.Y + dy)⟩
def mvN (dx dy : Int) (n : DNode) : DNode := if n.Kind = 6 then n else { n with Box := { n.Box with X := W (n.Box.X + dx), Y := W (n.Box.Y + dy) } }
def mvE (dx dy : Int) (x : DEdge) : DEdge := { x with Bends := x.Bends.map (mvP dx dy) }
def stN (P : Nat → Bool) (dx dy : Int) (l : List DNode) : List DNode := (List.range l.length).map fun (i : Nat) => if P i = true then mvN dx dy (gx l (i : Int)) else gx l (i : Int)
def endsP (L : List DNode) (P : Nat → Bool) (x : DEdge) : Bool := P (nodeAt L x.From.Node).toNat && P (nodeAt L x.To.Node).toNat
def stE (L : List DNode) (P : Nat → Bool) (dx dy : Int) (l : List DEdge) : List DEdge := l.map fun x => if endsP L P x = true then mvE dx dy x else x
theorem stN_len {P : Nat → Bool} {dx dy : Int} {l : List DNode} : (stN P dx dy l).length = l.length := by simp [stN]
def EndsIn (L : List DNode) (x : DEdge) : Prop := inR L (nodeAt L x.From.Node) ∧ inR L (nodeAt L x.To.Node)
theorem Right.endsIn {d : Doc} (h : Right d) {x : DEdge} (hx : x ∈ d.Edges) : EndsIn d.Nodes x := by
 obtain ⟨i, hi, rfl⟩ := List.getElem_of_mem hx
 have := h.edge i hi
 unfold edgeErr at this
 have h1 := firstErr_zero.1 this (endErr d.Nodes d.Edges[i].From) (by simp)
 have h2 := firstErr_zero.1 this (endErr d.Nodes d.Edges[i].To) (by simp)
 have key : ∀ y : DEnd, endErr d.Nodes y = 0 → inR d.Nodes (nodeAt d.Nodes y.Node) := fun y hy => by
  refine (nodeAt_in fun hc => ?_).1
  unfold endErr at hy
  rw [if_pos hc] at hy; cases hy
 exact ⟨key _ h1, key _ h2⟩
theorem shifted_eq {l : List Point} (hl : l.length ≤ 1000000) (dx dy : Int) : ref_shifted l dx dy = some (l.map (mvP dx dy)) := by
 unfold ref_shifted
 rw [rfor_gather (fun p => [mvP dx dy p]) [] (fun a _ => by simp) (by simp; omega) (fun i s hk hs => by
  unfold ref_shifted_L1
  rw [need_of hk, bnd_eq, need_of (by show _ ≤ _; simp; omega)]; rfl), ← List.map_eq_flatMap]
 simp
theorem shiftN_eq (P : Nat → Bool) (dx dy : Int) {l : List DNode} (hl : l.length ≤ 100000) : rfor (l.length : Int) (page_view_shift_L1 dx dy (MK l.length P)) l = some (stN P dx dy l) := by
 refine rfor_sets (fun i n => if P i = true then mvN dx dy n else n) (by omega) fun i s hi hs hg => ?_
 unfold page_view_shift_L1
 have his : i < s.length := by omega
 have hin : ∀ x, inR (s.set i x) (i : Int) := fun x => ⟨by omega, by simp; omega⟩
 rw [need_of ⟨by omega, by omega⟩, need_of ⟨by omega, by rw [MK_len]; omega⟩, MK_at hi, hg]
 simp only [Int.toNat_natCast]
 by_cases c : P i = true ∧ ¬ (gx l (i : Int)).Kind = 6
 ·
  have e : (P i && !decide ((gx l (i : Int)).Kind = 6)) = true := by simp [c]
  rw [e, cond_true, bnd_eq, bnd_eq, need_of (hin _), need_of (hin _), need_of (hin _), need_of (hin _), gx_setS his, List.set_set, if_pos c.1]
  unfold mvN
  rw [if_neg c.2]
 ·
  have e : (P i && !decide ((gx l (i : Int)).Kind = 6)) = false := by
   rw [Bool.eq_false_iff]; intro hh; exact c (by simpa using hh)
  rw [e, cond_false]
  congr 1
  refine (set_gxS his ?_).symm
  rw [hg]
  by_cases hp : P i = true
  ·
   rw [if_pos hp]
   unfold mvN
   rw [if_pos (Classical.byContradiction fun hk => c ⟨hp, hk⟩)]
  ·
   rw [if_neg hp]
theorem shiftP_eq (dx dy : Int) {l : List Point} (hl : l.length ≤ 100000) : rfor (l.length : Int) (page_view_shift_L3 dx dy) l = some (l.map (mvP dx dy)) := by
 rw [rfor_sets (fun _ p => mvP dx dy p) (by omega) fun i s hi hs hg => ?_]
 ·
  rw [range_mapS]
 ·
  unfold page_view_shift_L3
  rw [need_of ⟨by omega, by omega⟩, need_of ⟨by omega, by omega⟩, bnd_eq, need_of ⟨by omega, by omega⟩, hg]
  rfl
theorem shiftE_eq {d : Doc} (hn : d.Nodes.length ≤ 500) (P : Nat → Bool) (dx dy : Int) {l : List DEdge} (hl : l.length ≤ 100000) (he : ∀ x ∈ l, EndsIn d.Nodes x) (hb : ∀ x ∈ l, x.Bends.length ≤ 1000) :
  rfor (l.length : Int) (page_view_shift_L2 (viewD d) dx dy (MK d.Nodes.length P)) l = some (stE d.Nodes P dx dy l) := by
 rw [rfor_sets (fun _ x => if endsP d.Nodes P x = true then mvE dx dy x else x) (by omega) fun i s hi hs hg => ?_]
 ·
  exact congrArg some (range_mapS l (fun x => if endsP d.Nodes P x = true then mvE dx dy x else x))
 ·
  have his : i < s.length := by omega
  have hx : gx l (i : Int) ∈ l := gx_mem ⟨by omega, by omega⟩
  obtain ⟨⟨f1, f2⟩, t1, t2⟩ := he _ hx
  have hb' := hb _ hx
  have hvn : (viewD d).number = numM d.Nodes := rfl
  unfold page_view_shift_L2
  rw [need_of ⟨by omega, by omega⟩, need_of ⟨by omega, by omega⟩, bnd_eq, hg, hvn, numM_getD f1, numM_getD t1]
  generalize gx l (i : Int) = x at *
  obtain ⟨a, ha⟩ := Int.eq_ofNat_of_zero_le f1
  obtain ⟨b, hb2⟩ := Int.eq_ofNat_of_zero_le t1
  have ha' : a < d.Nodes.length := by omega
  have hb3 : b < d.Nodes.length := by omega
  have hE : endsP d.Nodes P x = (P a && P b) := by unfold endsP; rw [ha, hb2]; rfl
  rw [hE, ha, hb2, need_of ⟨by omega, by rw [MK_len]; omega⟩, need_of (fun _ => ⟨by omega, by rw [MK_len]; omega⟩), MK_at ha', MK_at hb3]
  simp only [Int.toNat_natCast]
  cases hc : P a && P b with
  | true => rw [cond_true, shiftP_eq dx dy (by omega), bind_sm, if_pos rfl]; rfl
  | false => rw [cond_false, if_neg (by simp)]
theorem shift_eq {d D : Doc} (hn : d.Nodes.length ≤ 500) (P : Nat → Bool) (dx dy : Int) (hD : D.Nodes.length = d.Nodes.length) (hl : D.Edges.length ≤ 100000) (he : ∀ x ∈ D.Edges, EndsIn d.Nodes x) (hb : ∀ x ∈ D.Edges, x.Bends.length ≤ 1000) :
  page_view_shift (viewD d) D (MK d.Nodes.length P) dx dy = some (stN P dx dy D.Nodes, stE d.Nodes P dx dy D.Edges) := by
 unfold page_view_shift
 have := shiftN_eq P dx dy (l := D.Nodes) (by omega)
 rw [hD] at this
 rw [hD, this, bind_sm, shiftE_eq hn P dx dy hl he hb]; rfl
noncomputable def stepP (d : Doc) (st : Page_step) (j : Nat) : Bool := st.roots.any fun k => subB d.Nodes k.toNat j
noncomputable def stepD (d : Doc) (D : Doc) (st : Page_step) : Doc := ⟨stN (stepP d st) st.dx st.dy D.Nodes, stE d.Nodes (stepP d st) st.dx st.dy D.Edges⟩
def farS (st : Page_step) : Bool := decide (st.dx < -2000000 ∨ 2000000 < st.dx) || decide (st.dy < -2000000 ∨ 2000000 < st.dy)
noncomputable def lockS (d : Doc) (st : Page_step) : Bool := !(decide (st.dx = 0) && decide (st.dy = 0)) && (List.range d.Nodes.length).any fun (j : Nat) => stepP d st j && (gx d.Nodes (j : Int)).Locked
def RootsIn (d : Doc) (st : Page_step) : Prop := st.roots.length ≤ 100000 ∧ ∀ k ∈ st.roots, ∃ j : Nat, j < d.Nodes.length ∧ k = j
theorem marks_eq {d : Doc} (h : Right d) {st : Page_step} (hs : RootsIn d st) : page_view_marks (viewD d) st = some (MK d.Nodes.length (stepP d st)) := by
 have hnl := h.nl
 have hv : (viewD d).d.Nodes = d.Nodes := rfl
 obtain ⟨hs1, hs2⟩ := hs
 unfold page_view_marks
 simp only [hv, bnd_eq]
 rw [need_of ⟨by omega, by omega, by omega⟩]
 have hrep : List.replicate (d.Nodes.length : Int).toNat false = MK d.Nodes.length (fun _ => false) := by
  unfold MK
  rw [show (d.Nodes.length : Int).toNat = d.Nodes.length by omega, List.map_const', List.length_range]
 obtain ⟨mk, g1, g2⟩ := rfor_inv (n := (st.roots.length : Int)) (step := page_view_marks_L1 st (viewD d)) (s0 := MK d.Nodes.length (fun _ => false)) (fun k s => s = MK d.Nodes.length (fun j => (st.roots.take k).any (fun c => subB d.Nodes c.toNat j))) (by omega) (by simp) (fun k s hk hI => by
  subst hI
  have hk' : k < st.roots.length := by omega
  unfold page_view_marks_L1
  obtain ⟨j, hj, e⟩ := hs2 _ (List.getElem_mem hk')
  rw [need_of ⟨by omega, by omega⟩, gx_nat hk', e, below_eq h hj, bind_sm]
  refine ⟨_, rfl, MK_congr fun t ht => ?_⟩
  rw [List.take_succ_eq_append_getElem hk', List.any_append, e]
  simp)
 rw [hrep, g1, bind_sm, g2, show (st.roots.length : Int).toNat = st.roots.length by omega, List.take_length]
 rfl
theorem far_eqM (n : Int) : page_far n = some (decide (n < -2000000 ∨ 2000000 < n)) := by
 unfold page_far
 simp
theorem fold_keeps {d : Doc} (h : Right d) : ∀ (steps : List Page_step) (D : Doc), D.Nodes.length = d.Nodes.length → D.Edges.length ≤ 1000 → (∀ x ∈ D.Edges, EndsIn d.Nodes x) → (∀ x ∈ D.Edges, x.Bends.length ≤ 50) →
  (steps.foldl (stepD d) D).Nodes.length = d.Nodes.length ∧ (steps.foldl (stepD d) D).Edges.length ≤ 1000 ∧ (∀ x ∈ (steps.foldl (stepD d) D).Edges, EndsIn d.Nodes x) ∧ ∀ x ∈ (steps.foldl (stepD d) D).Edges, x.Bends.length ≤ 50
 | [], D, h1, h2, h3, h4 => ⟨h1, h2, h3, h4⟩
 | st :: r, D, h1, h2, h3, h4 => by
  rw [List.foldl_cons]
  refine fold_keeps h r _ (by simp [stepD, stN_len, h1]) (by simp [stepD, stE, h2]) (fun x hx => ?_) (fun x hx => ?_)
  ·
   obtain ⟨y, hy, rfl⟩ := List.mem_map.1 (show x ∈ D.Edges.map _ from hx)
   have := h3 y hy
   split
   ·
    exact this
   ·
    exact this
  ·
   obtain ⟨y, hy, rfl⟩ := List.mem_map.1 (show x ∈ D.Edges.map _ from hx)
   have := h4 y hy
   split
   ·
    simpa [mvE] using this
   ·
    exact this
theorem moved_eq {d : Doc} (h : Right d) {steps : List Page_step} (hs : ∀ st ∈ steps, RootsIn d st) (hl : steps.length ≤ 1000) :
  page_view_moved (viewD d) steps = if steps.any (lockS d) = true then some (⟨[], []⟩, 12) else if steps.any farS = true then some (⟨[], []⟩, 3) else
   Option.bind (page_Check (steps.foldl (stepD d) d)) fun e => some (if e = 0 then (steps.foldl (stepD d) d, 0) else (⟨[], []⟩, e)) := by
 have hv : (viewD d).d = d := rfl
 have hnl := h.nl
 unfold page_view_moved
 rw [bnd_eq, rforE_any (l := steps) (lockS d) (Res.ab ((⟨[], []⟩ : Doc), (12 : Int))) (by omega) (fun i hi => by
  have hin := gx_mem hi
  unfold page_view_moved_L1
  rw [need_of hi, bnd_eq]
  generalize gx steps i = st at *
  unfold lockS
  cases hz : decide (st.dx = 0) && decide (st.dy = 0) with
  | true => simp
  | false =>
   rw [cond_false, marks_eq h (hs st hin), bind_sm]
   have hE := rforE_errS (n := d.Nodes.length) (step := page_view_moved_L2 (viewD d) (MK d.Nodes.length (stepP d st))) (fin := fun s => (Res.nx s : Res Unit (Res Unit (Doc × Int)))) (fun _ => ()) (fun (j : Nat) => if (stepP d st j && (gx d.Nodes (j : Int)).Locked) = true then (12 : Int) else 0) (fun e => Res.ab (Res.ab (⟨[], []⟩, e))) (by omega) (fun j hj _ => by
    unfold page_view_moved_L2
    rw [hv, need_of ⟨by omega, by omega⟩, bnd_eq, need_of ⟨by omega, by rw [MK_len]; omega⟩, MK_at hj]
    cases stepP d st j && (gx d.Nodes (j : Int)).Locked with
    | true => simp [bnd_eq]
    | false => simp)
   rw [hv, hE, fe_anyB (b := fun (j : Nat) => stepP d st j && (gx d.Nodes (j : Int)).Locked) (by decide)]
   simp only [Bool.not_false, Bool.true_and]
   cases (List.range d.Nodes.length).any fun (j : Nat) => stepP d st j && (gx d.Nodes (j : Int)).Locked with
   | true => simp
   | false => simp)]
 cases hlk : steps.any (lockS d) with
 | true => rfl
 | false =>
  rw [if_neg (by simp), bindR_nx, rforE_any (l := steps) farS (Res.ab ((⟨[], []⟩ : Doc), (3 : Int))) (by omega) (fun i hi => by
   unfold page_view_moved_L3
   rw [need_of hi, bnd_eq, far_eqM, far_eqM, bind_sm]
   generalize gx steps i = st at *
   unfold farS
   by_cases c : st.dx < -2000000 ∨ 2000000 < st.dx
   ·
    rw [decide_eq_true c]; simp [gd, bnd_eq]
   ·
    rw [decide_eq_false c]
    simp only [Bool.not_false, gd_true, bind_sm, Bool.false_or]
    by_cases c2 : st.dy < -2000000 ∨ 2000000 < st.dy
    ·
     rw [decide_eq_true c2]; simp [bnd_eq]
    ·
     rw [decide_eq_false c2]; simp)]
  cases hfr : steps.any farS with
  | true => rfl
  | false =>
   rw [if_neg (by simp), bindR_nx, hv, cloned_eq h, bind_sm]
   obtain ⟨s, g1, g2⟩ := rfor_inv (n := (steps.length : Int)) (step := page_view_moved_L4 d (viewD d) steps) (s0 := (d.Nodes, d.Edges)) (fun k s => s = (((steps.take k).foldl (stepD d) d).Nodes, ((steps.take k).foldl (stepD d) d).Edges)) (by omega) rfl (fun k s hk hI => by
    subst hI
    have hk' : k < steps.length := by omega
    obtain ⟨a1, a2, a3, a4⟩ := fold_keeps h (steps.take k) d rfl h.el (fun x hx => h.endsIn hx) (fun x hx => h.bends hx)
    unfold page_view_moved_L4
    rw [need_of ⟨by omega, by omega⟩, bnd_eq, gx_nat hk', marks_eq h (hs _ (List.getElem_mem hk')), bind_sm]
    have := shift_eq (d := d) (D := (steps.take k).foldl (stepD d) d) hnl (stepP d steps[k]) steps[k].dx steps[k].dy a1 (by omega) a3 (fun x hx => by have := a4 x hx; omega)
    refine ⟨_, (by rw [show ({ d with Nodes := ((steps.take k).foldl (stepD d) d).Nodes, Edges := ((steps.take k).foldl (stepD d) d).Edges } : Doc) = (steps.take k).foldl (stepD d) d from rfl, this, bind_sm]), ?_⟩
    rw [List.take_succ_eq_append_getElem hk', List.foldl_append]; rfl)
   rw [g1, bind_sm, g2, show (steps.length : Int).toNat = steps.length by omega, List.take_length]
   simp only [if_false, Bool.false_eq_true]
   have e : ({ d with Nodes := (steps.foldl (stepD d) d).Nodes, Edges := (steps.foldl (stepD d) d).Edges } : Doc) = steps.foldl (stepD d) d := rfl
   rw [e]
   cases page_Check (steps.foldl (stepD d) d) with
   | none => rfl
   | some c =>
    rw [bind_sm, bind_sm]
    by_cases hc : c = 0
    ·
     simp [hc, bnd_eq]
    ·
     simp [hc, bnd_eq]
theorem mfoldE_none {K V σ O : Type} {step : K → V → σ → Option (Res σ O)} {fin : σ → O} : ∀ {l : List (K × V)} {s : σ}, (∀ x ∈ l, ∀ s, step x.1 x.2 s = some (.nx s)) → mfoldE step fin l s = some (fin s)
 | [], s, _ => rfl
 | x :: l, s, h => by
  rw [mfoldE, h x (by simp) s, Option.bind_some]
  exact mfoldE_none (fun y hy => h y (by simp [hy]))
theorem mfoldE_one {K V σ O : Type} {step : K → V → σ → Option (Res σ O)} {fin : σ → O} {k0 : K} {v0 : V} : ∀ {l : List (K × V)} {s : σ}, (l.map (·.1)).Nodup → (k0, v0) ∈ l → (∀ x ∈ l, x.1 ≠ k0 → ∀ s, step x.1 x.2 s = some (.nx s)) →
  mfoldE step fin l s = (step k0 v0 s).bind (fun r => match r with | .nx s' => some (fin s') | .ab o => some o)
 | [], s, _, hm, _ => by cases hm
 | x :: l, s, hn, hm, h => by
  rw [List.map_cons, List.nodup_cons] at hn
  rcases List.mem_cons.1 hm with rfl | hm'
  ·
   rw [mfoldE]
   have : ∀ s', mfoldE step fin l s' = some (fin s') := fun s' => mfoldE_none (fun y hy => h y (by simp [hy]) (fun e => hn.1 (by rw [← e]; exact List.mem_map_of_mem (f := (·.1)) hy)))
   congr 1
   funext r
   cases r with
   | nx s' => exact this s'
   | ab o => rfl
  ·
   have hx : x.1 ≠ k0 := fun e => hn.1 (by rw [e]; exact List.mem_map_of_mem (f := (·.1)) hm')
   rw [mfoldE, h x (by simp) hx s, Option.bind_some]
   exact mfoldE_one hn.2 hm' (fun y hy => h y (by simp [hy]))
theorem sub_anc {d : Doc} (h : Right d) {k j : Nat} (hk : k < d.Nodes.length) (hj : j < d.Nodes.length) (hs : subB d.Nodes k j = true) : ∃ q, (∀ s, s < q → (anc d.Nodes d.Nodes[j] s).Parent ≠ Str.nil) ∧ anc d.Nodes d.Nodes[j] q = d.Nodes[k] := by
 unfold subB at hs
 rw [Bool.or_eq_true, decide_eq_true_eq, gx_nat hj, gx_nat hk, belB_iff] at hs
 rcases hs with rfl | ⟨q, h1, h2⟩
 ·
  exact ⟨0, fun s hs => by omega, rfl⟩
 ·
  refine ⟨q + 1, fun s hs => h1 s (by omega), ?_⟩
  obtain ⟨p1, p2⟩ := par_mem h.parIn (anc_mem h.parIn (List.getElem_mem hj) q (fun t ht => h1 t (by omega))) (h1 q (by omega))
  obtain ⟨c, hc, he⟩ := List.mem_iff_getElem.1 p1
  have : c = k := h.at_Id hc hk (by rw [he, p2, h2])
  subst this
  exact he.symm
theorem bel_of_anc {d : Doc} {n : DNode} {q : Nat} {g : DNode} (hp : ParIn d.Nodes) (hn : n ∈ d.Nodes) (h1 : ∀ s, s < q + 1 → (anc d.Nodes n s).Parent ≠ Str.nil) (h2 : anc d.Nodes n (q + 1) = g) : belB d.Nodes n g.Id = true := by
 rw [belB_iff]
 refine ⟨q, fun s hs => h1 s (by omega), ?_⟩
 have := (par_mem hp (anc_mem hp hn q (fun t ht => h1 t (by omega))) (h1 q (by omega))).2
 rw [← this, ← h2]; rfl
theorem roots_one {d : Doc} (h : Right d) (ids : List Str) {a b : Int} (ha : a ∈ rootL d.Nodes ids) (hb : b ∈ rootL d.Nodes ids) {j : Nat} (hj : j < d.Nodes.length) (sa : subB d.Nodes a.toNat j = true) (sb : subB d.Nodes b.toNat j = true) : a = b := by
 obtain ⟨k, hk, rfl, rk⟩ := rootL_mem ha
 obtain ⟨t, ht, rfl, rt⟩ := rootL_mem hb
 simp only [Int.toNat_natCast] at sa sb
 obtain ⟨p, p1, p2⟩ := sub_anc h hk hj sa
 obtain ⟨q, q1, q2⟩ := sub_anc h ht hj sb
 unfold rootB at rk rt
 rw [Bool.and_eq_true, decide_eq_true_eq, Bool.not_eq_true', List.any_eq_false] at rk rt
 rcases Nat.lt_trichotomy p q with c | c | c
 ·
  exfalso
  obtain ⟨e, rfl⟩ : ∃ e, q = p + (e + 1) := ⟨q - p - 1, by omega⟩
  refine rk.2 _ rt.1 (bel_of_anc h.parIn (List.getElem_mem hk) (q := e) (fun s hs => ?_) ?_)
  ·
   rw [← p2, ← anc_add]; exact q1 _ (by omega)
  ·
   rw [← p2, ← anc_add]; exact q2
 ·
  subst c
  rw [p2] at q2
  have : k = t := h.at_Id hk ht (by rw [q2])
  rw [this]
 ·
  exfalso
  obtain ⟨e, rfl⟩ : ∃ e, p = q + (e + 1) := ⟨p - q - 1, by omega⟩
  refine rt.2 _ rk.1 (bel_of_anc h.parIn (List.getElem_mem ht) (q := e) (fun s hs => ?_) ?_)
  ·
   rw [← q2, ← anc_add]; exact p1 _ (by omega)
  ·
   rw [← q2, ← anc_add]; exact p2
theorem rootL_nodup {l : List DNode} {ids : List Str} : (rootL l ids).Nodup := by
 unfold rootL
 have h : ((List.range l.length).filter (fun (i : Nat) => rootB l ids (gx l (i : Int)))).Nodup := (List.nodup_range (n := l.length)).sublist List.filter_sublist
 have h2 : ((List.range l.length).filter (fun (i : Nat) => rootB l ids (gx l (i : Int)))).Pairwise (fun (a b : Nat) => (a : Int) ≠ (b : Int)) := List.Pairwise.imp (fun {a b} (hne : a ≠ b) => by omega) h
 exact List.pairwise_map.2 h2
structure ApartR (d : Doc) (R : List Int) : Prop where
 isIn : ∀ k ∈ R, ∃ j : Nat, j < d.Nodes.length ∧ k = j
 nodup : R.Nodup
 one : ∀ a ∈ R, ∀ b ∈ R, ∀ j : Nat, j < d.Nodes.length → subB d.Nodes a.toNat j = true → subB d.Nodes b.toNat j = true → a = b
theorem rootL_apart {d : Doc} (h : Right d) (ids : List Str) : ApartR d (rootL d.Nodes ids) :=
 ⟨fun k hk => by obtain ⟨j, hj, e, _⟩ := rootL_mem hk; exact ⟨j, hj, e⟩, rootL_nodup, fun a ha b hb j hj => roots_one h ids ha hb hj⟩
noncomputable def rootOf (d : Doc) (R : List Int) (j : Nat) : Option Int := R.find? fun k => subB d.Nodes k.toNat j
noncomputable def rootOfE (d : Doc) (R : List Int) (x : DEdge) : Option Int := R.find? fun k => endsP d.Nodes (fun j => subB d.Nodes k.toNat j) x
noncomputable def mvR (f : Int → Int × Int) (o : Option Int) (n : DNode) : DNode := match o with | some k => mvN (f k).1 (f k).2 n | none => n
noncomputable def mvRE (f : Int → Int × Int) (o : Option Int) (x : DEdge) : DEdge := match o with | some k => mvE (f k).1 (f k).2 x | none => x
noncomputable def docM (d : Doc) (R : List Int) (f : Int → Int × Int) : Doc := ⟨(List.range d.Nodes.length).map fun (j : Nat) => mvR f (rootOf d R j) (gx d.Nodes (j : Int)), d.Edges.map fun x => mvRE f (rootOfE d R x) x⟩
def stepsR (R : List Int) (f : Int → Int × Int) : List Page_step := R.map fun k => ⟨[k], (f k).1, (f k).2⟩
theorem find_snoc {α : Type} {p : α → Bool} {R : List α} {k : α} (hn : k ∉ R) (hu : ∀ a ∈ R, p a = true → p k = true → a = k) : (R ++ [k]).find? p = if p k = true then some k else R.find? p := by
 rw [List.find?_append]
 by_cases h : p k = true
 ·
  have : R.find? p = none := List.find?_eq_none.2 fun a ha hp => hn (by rw [← hu a ha hp h]; exact ha)
  rw [this, if_pos h, List.find?_cons_of_pos h]; rfl
 ·
  rw [if_neg h, List.find?_cons_of_neg h]
  cases R.find? p <;> rfl
theorem find_none_of {α : Type} {p : α → Bool} {R : List α} {k : α} (hn : k ∉ R) (hu : ∀ a ∈ R, p a = true → p k = true → a = k) (h : p k = true) : R.find? p = none :=
 List.find?_eq_none.2 fun a ha hp => hn (by rw [← hu a ha hp h]; exact ha)
theorem snoc_ind2 {α : Type} {P : List α → Prop} (h0 : P []) (h1 : ∀ l a, P l → P (l ++ [a])) (l : List α) : P l := by
 have : ∀ m : List α, P m.reverse := by
  intro m
  induction m with
  | nil => exact h0
  | cons x m ih => rw [List.reverse_cons]; exact h1 _ _ ih
 have := this l.reverse
 rwa [List.reverse_reverse] at this
theorem fold_docM {d : Doc} (h : Right d) (f : Int → Int × Int) (R : List Int) : ApartR d R → (stepsR R f).foldl (stepD d) d = docM d R f := by
 induction R using snoc_ind2 with
 | h0 =>
  intro _
  have e1 : (List.range d.Nodes.length).map (fun (j : Nat) => mvR f (rootOf d [] j) (gx d.Nodes (j : Int))) = d.Nodes := range_gxS d.Nodes
  have e2 : d.Edges.map (fun x => mvRE f (rootOfE d [] x) x) = d.Edges := List.map_id _
  unfold docM
  rw [e1, e2]; rfl
 | h1 R k ih =>
  intro hA
  have hA' : ApartR d R := ⟨fun a ha => hA.isIn a (by simp [ha]), (List.nodup_append.1 hA.nodup).1, fun a ha b hb => hA.one a (by simp [ha]) b (by simp [hb])⟩
  have hk : k ∉ R := fun hc => (List.nodup_append.1 hA.nodup).2.2 k hc k (by simp) rfl
  have hu : ∀ j : Nat, j < d.Nodes.length → ∀ a ∈ R, subB d.Nodes a.toNat j = true → subB d.Nodes k.toNat j = true → a = k := fun j hj a ha => hA.one a (by simp [ha]) k (by simp) j hj
  rw [stepsR, List.map_append, List.foldl_append]
  rw [show (R.map fun k => (⟨[k], (f k).1, (f k).2⟩ : Page_step)) = stepsR R f from rfl, ih hA']
  simp only [List.map_cons, List.map_nil, List.foldl_cons, List.foldl_nil]
  have hP : stepP d ⟨[k], (f k).1, (f k).2⟩ = fun j => subB d.Nodes k.toNat j := by funext j; simp [stepP]
  unfold stepD
  rw [hP]
  have hlen : (docM d R f).Nodes.length = d.Nodes.length := by simp [docM]
  have e1 : stN (fun j => subB d.Nodes k.toNat j) (f k).1 (f k).2 (docM d R f).Nodes = (docM d (R ++ [k]) f).Nodes := by
   unfold stN
   rw [hlen]
   refine List.map_congr_left fun j hj => ?_
   have hj' : j < d.Nodes.length := by simpa using hj
   have hg : gx (docM d R f).Nodes (j : Int) = mvR f (rootOf d R j) (gx d.Nodes (j : Int)) := by
    rw [gx_nat (by omega)]; simp [docM]
   rw [hg]
   unfold rootOf
   rw [find_snoc hk (hu j hj')]
   by_cases hs : subB d.Nodes k.toNat j = true
   ·
    rw [if_pos hs, if_pos hs, find_none_of hk (hu j hj') hs]; rfl
   ·
    rw [if_neg hs, if_neg hs]
  have e2 : stE d.Nodes (fun j => subB d.Nodes k.toNat j) (f k).1 (f k).2 (docM d R f).Edges = (docM d (R ++ [k]) f).Edges := by
   unfold stE docM
   simp only
   rw [List.map_map]
   refine List.map_congr_left fun x hx => ?_
   obtain ⟨⟨f1, f2⟩, t1, t2⟩ := h.endsIn hx
   have huE : ∀ a ∈ R, endsP d.Nodes (fun j => subB d.Nodes a.toNat j) x = true → endsP d.Nodes (fun j => subB d.Nodes k.toNat j) x = true → a = k := fun a ha h1 h2 => by
    unfold endsP at h1 h2
    rw [Bool.and_eq_true] at h1 h2
    exact hu _ (by omega) a ha h1.1 h2.1
   have hE : endsP d.Nodes (fun j => subB d.Nodes k.toNat j) (mvRE f (rootOfE d R x) x) = endsP d.Nodes (fun j => subB d.Nodes k.toNat j) x := by
    unfold mvRE
    cases rootOfE d R x <;> rfl
   show (if endsP d.Nodes (fun j => subB d.Nodes k.toNat j) (mvRE f (rootOfE d R x) x) = true then mvE (f k).1 (f k).2 (mvRE f (rootOfE d R x) x) else mvRE f (rootOfE d R x) x) = mvRE f (rootOfE d (R ++ [k]) x) x
   rw [hE]
   unfold rootOfE
   rw [find_snoc hk huE]
   by_cases hs : endsP d.Nodes (fun j => subB d.Nodes k.toNat j) x = true
   ·
    rw [if_pos hs, if_pos hs, find_none_of hk huE hs]; rfl
   ·
    rw [if_neg hs, if_neg hs]
  rw [e1, e2]
noncomputable def docA (d : Doc) (ids : List Str) (dx dy : Int) : Doc :=
 ⟨(List.range d.Nodes.length).map fun (j : Nat) => if tchB d.Nodes ids (gx d.Nodes (j : Int)) = true then mvN dx dy (gx d.Nodes (j : Int)) else gx d.Nodes (j : Int),
  d.Edges.map fun x => if endsP d.Nodes (fun j => tchB d.Nodes ids (gx d.Nodes (j : Int))) x = true then mvE dx dy x else x⟩
theorem fold_docA {d : Doc} (h : Right d) (ids : List Str) (dx dy : Int) : [(⟨rootL d.Nodes ids, dx, dy⟩ : Page_step)].foldl (stepD d) d = docA d ids dx dy := by
 have hP : ∀ j, j < d.Nodes.length → stepP d ⟨rootL d.Nodes ids, dx, dy⟩ j = tchB d.Nodes ids (gx d.Nodes (j : Int)) := fun j hj => by
  rw [gx_nat hj, ← roots_tch h ids hj]; rfl
 simp only [List.foldl_cons, List.foldl_nil]
 unfold stepD docA
 have e1 : stN (stepP d ⟨rootL d.Nodes ids, dx, dy⟩) dx dy d.Nodes = (List.range d.Nodes.length).map fun (j : Nat) => if tchB d.Nodes ids (gx d.Nodes (j : Int)) = true then mvN dx dy (gx d.Nodes (j : Int)) else gx d.Nodes (j : Int) :=
  List.map_congr_left fun j hj => by rw [hP j (by simpa using hj)]
 have e2 : stE d.Nodes (stepP d ⟨rootL d.Nodes ids, dx, dy⟩) dx dy d.Edges = d.Edges.map fun x => if endsP d.Nodes (fun j => tchB d.Nodes ids (gx d.Nodes (j : Int))) x = true then mvE dx dy x else x :=
  List.map_congr_left fun x hx => by
   obtain ⟨⟨f1, f2⟩, t1, t2⟩ := h.endsIn hx
   unfold endsP
   rw [hP _ (by omega), hP _ (by omega)]
 simp only
 rw [e1, e2]
theorem StepError_eqM (dx dy : Int) : ref_StepError dx dy = some (if (-2000000 ≤ dx ∧ dx ≤ 2000000) ∧ -2000000 ≤ dy ∧ dy ≤ 2000000 then 0 else 3) := by
 unfold ref_StepError
 rw [In_eq, In_eq, bind_sm]
 by_cases h1 : -2000000 ≤ dx ∧ dx ≤ 2000000
 ·
  rw [decide_eq_true h1]
  simp only [Bool.not_true, Bool.not_false, gd_true, bind_sm, Bool.false_or]
  rw [When_eq]
  by_cases h2 : -2000000 ≤ dy ∧ dy ≤ 2000000 <;> simp [h1, h2]
 ·
  rw [decide_eq_false h1, if_neg (fun h => h1 h.1)]
  simp [gd, When_eq]
noncomputable def lockA (d : Doc) (ids : List Str) (dx dy : Int) : Bool := !(decide (dx = 0) && decide (dy = 0)) && (List.range d.Nodes.length).any fun (j : Nat) => tchB d.Nodes ids (gx d.Nodes (j : Int)) && (gx d.Nodes (j : Int)).Locked
theorem MoveAll_eq {d : Doc} (h : Right d) {ids : List Str} (hi : (ids.length : Int) ≤ 9223372036854775807) (dx dy : Int) :
  ref_MoveAll d ids dx dy = if lockA d ids dx dy = true then some (⟨[], []⟩, 12) else if (-2000000 ≤ dx ∧ dx ≤ 2000000) ∧ -2000000 ≤ dy ∧ dy ≤ 2000000 then
   Option.bind (ref_DocError (docA d ids dx dy)) fun e => some (if e = 0 then (docA d ids dx dy, 0) else (⟨[], []⟩, e)) else some (⟨[], []⟩, 3) := by
 have hnl := h.nl
 obtain ⟨tm, tm1, tm2⟩ := Touched_eq h hi
 unfold ref_MoveAll
 rw [bnd_eq, tm1, bind_sm, Copied_eq h, bind_sm]
 let okD : Bool := decide ((-2000000 ≤ dx ∧ dx ≤ 2000000) ∧ -2000000 ≤ dy ∧ dy ≤ 2000000)
 let nw : Nat → DNode := fun j => if (tchB d.Nodes ids (gx d.Nodes (j : Int)) && okD) = true then mvN dx dy (gx d.Nodes (j : Int)) else gx d.Nodes (j : Int)
 let S : Nat → List DNode := fun k => (List.range d.Nodes.length).map fun (j : Nat) => if j < k then nw j else gx d.Nodes (j : Int)
 have hS0 : S 0 = d.Nodes := by
  show (List.range d.Nodes.length).map _ = _
  conv => rhs; rw [← range_gxS d.Nodes]
  exact List.map_congr_left fun j _ => if_neg (by omega)
 have hSl : ∀ k, (S k).length = d.Nodes.length := fun k => by simp [S]
 have hSg : ∀ k j, j < d.Nodes.length → gx (S k) (j : Int) = if j < k then nw j else gx d.Nodes (j : Int) := fun k j hj => by
  rw [gx_nat (by rw [hSl]; exact hj)]; simp [S]
 have hSs : ∀ k, k < d.Nodes.length → (S k).set k (nw k) = S (k + 1) := fun k hk => by
  refine List.ext_getElem (by simp [hSl]) fun j a1 a2 => ?_
  have hj : j < d.Nodes.length := by rw [hSl] at a2; exact a2
  rw [List.getElem_set]
  simp only [S, List.getElem_map, List.getElem_range]
  by_cases e : k = j
  ·
   subst e; rw [if_pos rfl, if_pos (by omega)]
  ·
   rw [if_neg e]
   by_cases c : j < k
   ·
    rw [if_pos c, if_pos (by omega)]
   ·
    rw [if_neg c, if_neg (by omega)]
 have hE := rforE_errS (n := d.Nodes.length) (step := ref_MoveAll_L1 d dx dy tm) (fin := fun s => (Res.nx s : Res (List DNode) (Doc × Int))) S (fun (j : Nat) => if (tchB d.Nodes ids (gx d.Nodes (j : Int)) && (gx d.Nodes (j : Int)).Locked && !(decide (dx = 0) && decide (dy = 0))) = true then (12 : Int) else 0) (fun e => Res.ab (⟨[], []⟩, e)) (by omega) (fun i hi' _ => by
  have hin : ∀ (k : Nat) x, inR ((S k).set i x) (i : Int) := fun k x => ⟨by omega, by simp [hSl]; omega⟩
  have hin0 : inR (S i) (i : Int) := ⟨by omega, by rw [hSl]; omega⟩
  unfold ref_MoveAll_L1
  rw [need_of ⟨by omega, by omega⟩, bnd_eq, gx_nat hi', tm2 i hi', ← gx_nat hi']
  have hgS : gx (S i) (i : Int) = gx d.Nodes (i : Int) := by rw [hSg i i hi', if_neg (by omega)]
  have hil : i < (S i).length := by rw [hSl]; exact hi'
  rw [← hSs i hi']
  cases ht : tchB d.Nodes ids (gx d.Nodes (i : Int)) with
  | false =>
   have e : nw i = gx d.Nodes (i : Int) := by simp [nw, ht]
   simp only [Bool.not_false, cond_true, Bool.false_and, Bool.false_eq_true, if_false]
   rw [e, set_gxS hil hgS.symm]
   exact congrArg some (if_pos trivial).symm
  | true =>
   simp only [Bool.not_true, cond_false, Bool.true_and]
   have hz : ((!decide (dx = 0)) || (!decide (dy = 0))) = !(decide (dx = 0) && decide (dy = 0)) := by cases decide (dx = 0) <;> cases decide (dy = 0) <;> rfl
   rw [hz]
   cases hL : ((gx d.Nodes (i : Int)).Locked && !(decide (dx = 0) && decide (dy = 0))) with
   | true => simp [bnd_eq]
   | false =>
    simp only [cond_false, Bool.false_eq_true, if_false]
    rw [In_eq, In_eq]
    by_cases hK : (gx d.Nodes (i : Int)).Kind = 6
    ·
     have e : nw i = gx d.Nodes (i : Int) := by
      show (if _ then mvN dx dy _ else _) = _
      unfold mvN; rw [if_pos hK]; simp
     rw [decide_eq_true hK, e, set_gxS hil hgS.symm]
     simp [gd]
    ·
     rw [decide_eq_false hK]
     simp only [Bool.not_false, gd_true, bind_sm, Bool.true_and]
     by_cases h1 : -2000000 ≤ dx ∧ dx ≤ 2000000
     ·
      rw [decide_eq_true h1]
      simp only [gd_true, bind_sm, Bool.true_and]
      by_cases h2 : -2000000 ≤ dy ∧ dy ≤ 2000000
      ·
       have e : nw i = mvN dx dy (gx d.Nodes (i : Int)) := by
        have : okD = true := decide_eq_true ⟨h1, h2⟩
        simp [nw, ht, this]
       rw [decide_eq_true h2, cond_true, need_of hin0, bnd_eq, need_of hin0, bnd_eq, Int.toNat_natCast, need_of (hin i _), bnd_eq, need_of (hin i _), gx_setS hil, List.set_set, hgS, e]
       unfold mvN
       rw [if_neg hK]
       exact congrArg some (if_pos trivial).symm
      ·
       have e : nw i = gx d.Nodes (i : Int) := by
        have : okD = false := decide_eq_false (fun hh => h2 hh.2)
        simp [nw, this]
       rw [decide_eq_false h2, cond_false, e, set_gxS hil hgS.symm]
       exact congrArg some (if_pos trivial).symm
     ·
      have e : nw i = gx d.Nodes (i : Int) := by
       have : okD = false := decide_eq_false (fun hh => h1 hh.1)
       simp [nw, this]
      rw [decide_eq_false h1, e, set_gxS hil hgS.symm]
      simp [gd])
 rw [hS0] at hE
 rw [hE, fe_anyB (b := fun (j : Nat) => tchB d.Nodes ids (gx d.Nodes (j : Int)) && (gx d.Nodes (j : Int)).Locked && !(decide (dx = 0) && decide (dy = 0))) (by decide)]
 have hlk : ((List.range d.Nodes.length).any fun (j : Nat) => tchB d.Nodes ids (gx d.Nodes (j : Int)) && (gx d.Nodes (j : Int)).Locked && !(decide (dx = 0) && decide (dy = 0))) = lockA d ids dx dy := by
  unfold lockA
  cases !(decide (dx = 0) && decide (dy = 0)) <;> simp
 rw [hlk]
 cases lockA d ids dx dy with
 | true => simp
 | false =>
  simp only [if_true, Bool.false_eq_true, if_false]
  rw [bindR_nx, StepError_eqM, bind_sm]
  by_cases hok : (-2000000 ≤ dx ∧ dx ≤ 2000000) ∧ -2000000 ≤ dy ∧ dy ≤ 2000000
  case neg =>
   rw [if_neg hok, if_neg hok]; rfl
  rw [if_pos hok, if_pos hok]
  have hokD : okD = true := decide_eq_true hok
  have hSn : S d.Nodes.length = (docA d ids dx dy).Nodes := List.map_congr_left fun j hj => by
   rw [if_pos (by simpa using hj)]
   simp [nw, hokD]
  rw [rfor_sets (l := d.Edges) (fun _ x => if endsP d.Nodes (fun j => tchB d.Nodes ids (gx d.Nodes (j : Int))) x = true then mvE dx dy x else x) (by have := h.el; omega) (fun i s hi' hs hg => by
   have his : i < s.length := by omega
   have hx : gx d.Edges (i : Int) ∈ d.Edges := gx_mem ⟨by omega, by omega⟩
   obtain ⟨⟨f1, f2⟩, t1, t2⟩ := h.endsIn hx
   have hb := h.bends hx
   obtain ⟨_, q1⟩ := nodeAt_in (l := d.Nodes) (id := (gx d.Edges (i : Int)).From.Node) (by omega)
   obtain ⟨_, q2⟩ := nodeAt_in (l := d.Nodes) (id := (gx d.Edges (i : Int)).To.Node) (by omega)
   unfold ref_MoveAll_L2
   rw [need_of ⟨by omega, by omega⟩, bnd_eq]
   generalize gx d.Edges (i : Int) = x at *
   obtain ⟨a, ha⟩ := Int.eq_ofNat_of_zero_le f1
   obtain ⟨b, hb2⟩ := Int.eq_ofNat_of_zero_le t1
   have ha' : a < d.Nodes.length := by omega
   have hb3 : b < d.Nodes.length := by omega
   have hE : endsP d.Nodes (fun j => tchB d.Nodes ids (gx d.Nodes (j : Int))) x = (tchB d.Nodes ids (gx d.Nodes (a : Int)) && tchB d.Nodes ids (gx d.Nodes (b : Int))) := by unfold endsP; rw [ha, hb2]; rfl
   rw [ha, gx_nat ha'] at q1
   rw [hb2, gx_nat hb3] at q2
   rw [hE, ← q1, ← q2, tm2 a ha', tm2 b hb3, gx_nat ha', gx_nat hb3]
   cases tchB d.Nodes ids d.Nodes[a] && tchB d.Nodes ids d.Nodes[b] with
   | true => rw [cond_true, shifted_eq (by omega), bind_sm, need_of ⟨by omega, by omega⟩, if_pos rfl, hg]; rfl
   | false => rw [cond_false, if_neg (by simp), set_gxS his hg.symm])]
  rw [bind_sm, range_mapS (g := fun x => if endsP d.Nodes (fun j => tchB d.Nodes ids (gx d.Nodes (j : Int))) x = true then mvE dx dy x else x)]
  simp only [decide_true, Bool.not_true, cond_false]
  rw [hSn]
  have e : ({ d with Nodes := (docA d ids dx dy).Nodes, Edges := d.Edges.map fun x => if endsP d.Nodes (fun j => tchB d.Nodes ids (gx d.Nodes (j : Int))) x = true then mvE dx dy x else x } : Doc) = docA d ids dx dy := rfl
  rw [e]
  cases ref_DocError (docA d ids dx dy) with
  | none => rfl
  | some c =>
   rw [bind_sm, bind_sm]
   by_cases hc : c = 0
   ·
    simp [hc, bnd_eq]
   ·
    simp [hc, bnd_eq]
def ptF (p : Int × Int) : Point := ⟨p.1, p.2⟩
def idK (d : Doc) (k : Int) : Str := (gx d.Nodes k).Id
def ByR (d : Doc) (R : List Int) (f : Int → Int × Int) (m : GMap Str Point) : Prop := ∀ id p, m.f id = some p ↔ ∃ k ∈ R, idK d k = id ∧ p = ptF (f k)
theorem idK_inj {d : Doc} (h : Right d) {R : List Int} (hA : ApartR d R) {a b : Int} (ha : a ∈ R) (hb : b ∈ R) (e : idK d a = idK d b) : a = b := by
 obtain ⟨i, hi, rfl⟩ := hA.isIn a ha
 obtain ⟨j, hj, rfl⟩ := hA.isIn b hb
 unfold idK at e
 rw [gx_nat hi, gx_nat hj] at e
 rw [h.at_Id hi hj e]
theorem ByR.lists {d : Doc} (h : Right d) {R : List Int} (hA : ApartR d R) {f : Int → Int × Int} {m : GMap Str Point} (hm : ByR d R f m) : Lists m (R.map fun k => (idK d k, ptF (f k))) := by
 refine ⟨?_, fun k v => ?_⟩
 ·
  rw [List.map_map]
  have : ∀ l : List Int, l.Nodup → (∀ a ∈ l, a ∈ R) → (l.map ((fun x : Str × Point => x.1) ∘ fun k => (idK d k, ptF (f k)))).Nodup := by
   intro l
   induction l with
   | nil => intro _ _; exact List.nodup_nil
   | cons a l ih =>
    intro hn hl
    rw [List.nodup_cons] at hn
    rw [List.map_cons, List.nodup_cons]
    refine ⟨fun hc => ?_, ih hn.2 (fun x hx => hl x (by simp [hx]))⟩
    obtain ⟨b, hb, e⟩ := List.mem_map.1 hc
    have e' : idK d b = idK d a := e
    have := idK_inj h hA (hl b (by simp [hb])) (hl a (by simp)) e'
    subst this
    exact hn.1 hb
  exact this R hA.nodup (fun _ ha => ha)
 ·
  rw [hm]
  constructor
  ·
   intro hx
   obtain ⟨a, ha, e⟩ := List.mem_map.1 hx
   cases e
   exact ⟨a, ha, rfl, rfl⟩
  ·
   rintro ⟨a, ha, rfl, rfl⟩
   exact List.mem_map.2 ⟨a, ha, rfl⟩
theorem ByR.get {d : Doc} (h : Right d) {R : List Int} (hA : ApartR d R) {f : Int → Int × Int} {m : GMap Str Point} (hm : ByR d R f m) {k : Int} (hk : k ∈ R) {z : Point} : m.getD (idK d k) z = ptF (f k) := by
 unfold GMap.getD
 rw [(hm _ _).2 ⟨k, hk, rfl, rfl⟩]; rfl
theorem rootOf_mem {d : Doc} {R : List Int} {j : Nat} {k : Int} (h : rootOf d R j = some k) : k ∈ R ∧ subB d.Nodes k.toNat j = true :=
 ⟨List.mem_of_find?_eq_some h, by have := List.find?_some h; simpa using this⟩
theorem sub_iffM {d : Doc} (h : Right d) {k j : Nat} (hk : k < d.Nodes.length) (hj : j < d.Nodes.length) : subB d.Nodes k j = (decide (d.Nodes[j].Id = d.Nodes[k].Id) || belB d.Nodes d.Nodes[j] d.Nodes[k].Id) := by
 unfold subB
 rw [gx_nat hj, gx_nat hk]
 congr 1
 rw [decide_eq_decide]
 constructor
 ·
  rintro rfl; rfl
 ·
  intro e; exact h.at_Id hj hk e
noncomputable def lockR (d : Doc) (R : List Int) (f : Int → Int × Int) (j : Nat) : Bool := match rootOf d R j with | some k => (gx d.Nodes (j : Int)).Locked && !decide (f k = (0, 0)) | none => false
noncomputable def rmap (d : Doc) (R : List Int) : Nat → GMap Str Str
 | 0 => GMap.nil
 | k + 1 => match rootOf d R k with | some r => (rmap d R k).set (idK d (k : Int)) (idK d r) | none => rmap d R k
theorem rmap_f {d : Doc} (h : Right d) {R : List Int} : ∀ (k : Nat), k ≤ d.Nodes.length → ∀ j : Nat, j < d.Nodes.length → (rmap d R k).f (idK d (j : Int)) = if j < k then (rootOf d R j).map (idK d) else none
 | 0, _, j, _ => by rw [if_neg (by omega)]; rfl
 | k + 1, hk, j, hj => by
  have ih := rmap_f h (R := R) k (by omega) j hj
  have hset : ∀ (m : GMap Str Str) (a v : Str), (m.set a v).f (idK d (j : Int)) = if idK d (j : Int) = a then some v else m.f (idK d (j : Int)) := fun m a v => rfl
  by_cases e : j = k
  ·
   subst e
   rw [if_pos (by omega), rmap]
   cases hr : rootOf d R j with
   | some r => simp only; rw [hset, if_pos rfl]; rfl
   | none => simp only; rw [ih, if_neg (by omega)]; rfl
  ·
   have hne : idK d (j : Int) ≠ idK d (k : Int) := fun hc => e (by unfold idK at hc; rw [gx_nat hj, gx_nat (by omega)] at hc; exact h.at_Id hj (by omega) hc)
   have hlt : (j < k + 1) ↔ j < k := by omega
   rw [rmap]
   cases hr : rootOf d R k with
   | some r => simp only; rw [hset, if_neg hne, ih]; simp only [hlt]
   | none => simp only; rw [ih]; simp only [hlt]
theorem MoveBy_eq {d : Doc} (h : Right d) {R : List Int} (hA : ApartR d R) {f : Int → Int × Int} {m : GMap Str Point} (hm : ByR d R f m) :
  ref_MoveBy d m = if ((List.range d.Nodes.length).any fun j => lockR d R f j) = true then some (⟨[], []⟩, 12) else
   Option.bind (ref_DocError (docM d R f)) fun e => some (if e = 0 then (docM d R f, 0) else (⟨[], []⟩, e)) := by
 have hnl := h.nl
 unfold ref_MoveBy
 rw [bnd_eq, Copied_eq h, bind_sm, bnd_eq]
 let nw : Nat → DNode := fun j => mvR f (rootOf d R j) (gx d.Nodes (j : Int))
 let S : Nat → List DNode := fun k => (List.range d.Nodes.length).map fun (j : Nat) => if j < k then nw j else gx d.Nodes (j : Int)
 have hS0 : S 0 = d.Nodes := by
  show (List.range d.Nodes.length).map _ = _
  conv => rhs; rw [← range_gxS d.Nodes]
  exact List.map_congr_left fun j _ => if_neg (by omega)
 have hSl : ∀ k, (S k).length = d.Nodes.length := fun k => by simp [S]
 have hSg : ∀ k j, j < d.Nodes.length → gx (S k) (j : Int) = if j < k then nw j else gx d.Nodes (j : Int) := fun k j hj => by
  rw [gx_nat (by rw [hSl]; exact hj)]; simp [S]
 have hSs : ∀ k, k < d.Nodes.length → (S k).set k (nw k) = S (k + 1) := fun k hk => by
  refine List.ext_getElem (by simp [hSl]) fun j a1 a2 => ?_
  have hj : j < d.Nodes.length := by rw [hSl] at a2; exact a2
  rw [List.getElem_set]
  simp only [S, List.getElem_map, List.getElem_range]
  by_cases e : k = j
  ·
   subst e; rw [if_pos rfl, if_pos (by omega)]
  ·
   rw [if_neg e]
   by_cases c : j < k
   ·
    rw [if_pos c, if_pos (by omega)]
   ·
    rw [if_neg c, if_neg (by omega)]
 have hE := rforE_errS (n := d.Nodes.length) (step := ref_MoveBy_L1 d m) (fin := fun s => (Res.nx s : Res (List DNode × GMap Str Str) (Doc × Int))) (fun k => (S k, rmap d R k)) (fun (j : Nat) => if lockR d R f j = true then (12 : Int) else 0) (fun e => Res.ab (⟨[], []⟩, e)) (by omega) (fun i hi' _ => by
  have hin : ∀ (k : Nat) x, inR ((S k).set i x) (i : Int) := fun k x => ⟨by omega, by simp [hSl]; omega⟩
  have hin0 : inR (S i) (i : Int) := ⟨by omega, by rw [hSl]; omega⟩
  have hgS : gx (S i) (i : Int) = gx d.Nodes (i : Int) := by rw [hSg i i hi', if_neg (by omega)]
  have hil : i < (S i).length := by rw [hSl]; exact hi'
  unfold ref_MoveBy_L1
  rw [need_of ⟨by omega, by omega⟩, bnd_eq]
  have hact : ∀ k ∈ R, (Option.bind (gd ((!decide ((gx d.Nodes (i : Int)).Id = idK d k))) (ref_IsBelow d (gx d.Nodes (i : Int)).Id (idK d k))) fun r2 => some ((!decide ((gx d.Nodes (i : Int)).Id = idK d k)) && (!r2))) = some (!subB d.Nodes k.toNat i) := fun k hk => by
   obtain ⟨t, ht, rfl⟩ := hA.isIn k hk
   unfold idK
   rw [Int.toNat_natCast, sub_iffM h ht hi', gx_nat hi', gx_nat ht, IsBelow_eq h hi']
   by_cases e : d.Nodes[i].Id = d.Nodes[t].Id
   ·
    rw [decide_eq_true e]; simp [gd]
   ·
    rw [decide_eq_false e]; simp [gd]
  have hgd : ∀ k ∈ R, ∀ (K : Bool → Option (Res ((List DNode) × (GMap Str Str)) (Res ((List DNode) × (GMap Str Str)) (Res ((List DNode) × (GMap Str Str)) (Doc × Int))))), (Option.bind (gd ((!decide ((gx d.Nodes (i : Int)).Id = idK d k))) (ref_IsBelow d (gx d.Nodes (i : Int)).Id (idK d k))) fun r2 => K ((!decide ((gx d.Nodes (i : Int)).Id = idK d k)) && (!r2))) = K (!subB d.Nodes k.toNat i) := fun k hk K => by
   have := hact k hk
   cases hg : gd ((!decide ((gx d.Nodes (i : Int)).Id = idK d k))) (ref_IsBelow d (gx d.Nodes (i : Int)).Id (idK d k)) with
   | none => rw [hg] at this; cases this
   | some r =>
    rw [hg] at this
    simp only [Option.bind_some, Option.some.injEq] at this
    rw [Option.bind_some, this]
  have hno : ∀ k ∈ R, subB d.Nodes k.toNat i = false → ∀ (e : Point) s, ref_MoveBy_L2 d (gx d.Nodes (i : Int)) ((i : Int), (S i, rmap d R i)) (idK d k) e s = some (.nx s) := fun k hk hs e s => by
   unfold ref_MoveBy_L2
   rw [hgd k hk (fun c => bif c then _ else _), hs]; rfl
  have hL0 := hm.lists h hA
  cases hr : rootOf d R i with
  | none =>
   have hall : ∀ k ∈ R, subB d.Nodes k.toNat i = false := fun k hk => by
    have := List.find?_eq_none.1 hr k hk
    simpa using this
   have hlk : lockR d R f i = false := by unfold lockR; rw [hr]
   have hnw : nw i = gx d.Nodes (i : Int) := by show mvR f (rootOf d R i) _ = _; rw [hr]; rfl
   rw [mrangeE_of (e := Res.nx (S i, rmap d R i)) hL0 (fun l hl => mfoldE_none (fun x hx s => by
    obtain ⟨k, hk, e1, e2⟩ := (hm x.1 x.2).1 ((hl.mem x.1 x.2).1 hx)
    rw [← e1]; exact hno k hk (hall k hk) _ _))]
   rw [hlk, ← hSs i hi', hnw, set_gxS hil hgS.symm]
   have : rmap d R (i + 1) = rmap d R i := by rw [rmap, hr]
   rw [this]
   simp
  | some k =>
   obtain ⟨hk, hs⟩ := rootOf_mem hr
   have hoth : ∀ b ∈ R, idK d b ≠ idK d k → subB d.Nodes b.toNat i = false := fun b hb hne => by
    cases hc : subB d.Nodes b.toNat i with
    | false => rfl
    | true => exact absurd (by rw [hA.one b hb k hk i hi' hc hs]) hne
   have hnw : nw i = mvN (f k).1 (f k).2 (gx d.Nodes (i : Int)) := by show mvR f (rootOf d R i) _ = _; rw [hr]; rfl
   have hrm : rmap d R (i + 1) = (rmap d R i).set (idK d (i : Int)) (idK d k) := by rw [rmap, hr]
   have hlk : lockR d R f i = ((gx d.Nodes (i : Int)).Locked && !decide (f k = (0, 0))) := by unfold lockR; rw [hr]
   have hpt : decide (ptF (f k) = (⟨0, 0⟩ : Point)) = decide (f k = (0, 0)) := by
    rw [decide_eq_decide]
    unfold ptF
    rw [Point.mk.injEq, Prod.ext_iff]
   have hstep : ref_MoveBy_L2 d (gx d.Nodes (i : Int)) ((i : Int), (S i, rmap d R i)) (idK d k) (ptF (f k)) (S i, rmap d R i) = some (if lockR d R f i = true then Res.ab (Res.ab (Res.ab (⟨[], []⟩, 12))) else Res.nx (S (i + 1), rmap d R (i + 1))) := by
    unfold ref_MoveBy_L2
    rw [hgd k hk (fun c => bif c then _ else _), hs]
    simp only [Bool.not_true, cond_false]
    rw [hpt, ← hlk]
    cases hl : lockR d R f i with
    | true => simp [bnd_eq]
    | false =>
     rw [cond_false, bnd_eq]
     by_cases hK : (gx d.Nodes (i : Int)).Kind = 6
     ·
      have e : nw i = gx d.Nodes (i : Int) := by rw [hnw]; unfold mvN; rw [if_pos hK]
      rw [decide_eq_true hK, ← hSs i hi', e, set_gxS hil hgS.symm, hrm]
      simp [idK]
     ·
      rw [decide_eq_false hK, ← hSs i hi', hnw, hrm]
      simp only [Bool.not_false, cond_true, Int.toNat_natCast]
      rw [need_of hin0, bnd_eq, need_of hin0, bnd_eq, need_of (hin i _), bnd_eq, need_of (hin i _), gx_setS hil, List.set_set, hgS]
      unfold mvN
      rw [if_neg hK]
      simp [idK, ptF]
   rw [mrangeE_of (e := if lockR d R f i = true then Res.ab (Res.ab (⟨[], []⟩, 12)) else Res.nx (S (i + 1), rmap d R (i + 1))) hL0 (fun l hl => by
    rw [mfoldE_one (k0 := idK d k) (v0 := ptF (f k)) hl.nodup ((hl.mem _ _).2 ((hm _ _).2 ⟨k, hk, rfl, rfl⟩)) (fun x hx hne s => by
     obtain ⟨b, hb, e1, e2⟩ := (hm x.1 x.2).1 ((hl.mem x.1 x.2).1 hx)
     rw [← e1] at hne ⊢
     exact hno b hb (hoth b hb hne) _ _), hstep, Option.bind_some]
    cases lockR d R f i with
    | true => simp
    | false => simp)]
   cases lockR d R f i with
   | true => simp
   | false => simp)
 rw [hS0] at hE
 rw [show ((d.Nodes, (GMap.nil : GMap Str Str)) : List DNode × GMap Str Str) = (d.Nodes, rmap d R 0) from rfl, hE, fe_anyB (b := fun (j : Nat) => lockR d R f j) (by decide)]
 cases hlk : ((List.range d.Nodes.length).any fun (j : Nat) => lockR d R f j) with
 | true => simp
 | false =>
  simp only [if_true, Bool.false_eq_true, if_false]
  rw [bindR_nx]
  have hSn : S d.Nodes.length = (docM d R f).Nodes := List.map_congr_left fun j hj => if_pos (by simpa using hj)
  rw [rfor_sets (l := d.Edges) (fun _ x => mvRE f (rootOfE d R x) x) (by have := h.el; omega) (fun i s hi' hs hg => by
   have his : i < s.length := by omega
   have hx : gx d.Edges (i : Int) ∈ d.Edges := gx_mem ⟨by omega, by omega⟩
   obtain ⟨⟨f1, f2⟩, t1, t2⟩ := h.endsIn hx
   have hb := h.bends hx
   obtain ⟨_, q1⟩ := nodeAt_in (l := d.Nodes) (id := (gx d.Edges (i : Int)).From.Node) (by omega)
   obtain ⟨_, q2⟩ := nodeAt_in (l := d.Nodes) (id := (gx d.Edges (i : Int)).To.Node) (by omega)
   unfold ref_MoveBy_L3
   rw [need_of ⟨by omega, by omega⟩, bnd_eq]
   generalize gx d.Edges (i : Int) = x at *
   obtain ⟨a, ha⟩ := Int.eq_ofNat_of_zero_le f1
   obtain ⟨b, hb2⟩ := Int.eq_ofNat_of_zero_le t1
   have ha' : a < d.Nodes.length := by omega
   have hb3 : b < d.Nodes.length := by omega
   have hE : ∀ k, endsP d.Nodes (fun j => subB d.Nodes k j) x = (subB d.Nodes k a && subB d.Nodes k b) := fun k => by unfold endsP; rw [ha, hb2]; rfl
   rw [ha] at q1
   rw [hb2] at q2
   have r1 := rmap_f h (R := R) d.Nodes.length (Nat.le_refl _) a ha'
   have r2 := rmap_f h (R := R) d.Nodes.length (Nat.le_refl _) b hb3
   rw [if_pos ha'] at r1
   rw [if_pos hb3] at r2
   have n1 : x.From.Node = idK d (a : Int) := q1.symm
   have n2 : x.To.Node = idK d (b : Int) := q2.symm
   simp only [n1, n2]
   have hfd : rootOfE d R x = match rootOf d R a with | some k => if subB d.Nodes k.toNat b = true then some k else none | none => none := by
    unfold rootOfE
    simp only [hE]
    cases hra : rootOf d R a with
    | none =>
     refine List.find?_eq_none.2 fun k hk hc => ?_
     rw [Bool.and_eq_true] at hc
     have := List.find?_eq_none.1 hra k hk
     exact this hc.1
    | some k =>
     obtain ⟨hk, hs1⟩ := rootOf_mem hra
     by_cases c : subB d.Nodes k.toNat b = true
     ·
      simp only [c, if_true]
      cases hf : R.find? (fun k => subB d.Nodes k.toNat a && subB d.Nodes k.toNat b) with
      | none =>
       have := List.find?_eq_none.1 hf k hk
       simp [hs1, c] at this
      | some k' =>
       have h1 := List.find?_some hf
       rw [Bool.and_eq_true] at h1
       rw [hA.one k' (List.mem_of_find?_eq_some hf) k hk a ha' h1.1 hs1]
     ·
      simp only [c, if_false, Bool.false_eq_true]
      refine List.find?_eq_none.2 fun k' hk' hc => ?_
      rw [Bool.and_eq_true] at hc
      have := hA.one k' hk' k hk a ha' hc.1 hs1
      subst this
      exact c hc.2
   cases hra : rootOf d R a with
   | none =>
    rw [hra] at hfd r1
    have hh : (rmap d R d.Nodes.length).has (idK d (a : Int)) = false := by unfold GMap.has; rw [r1]; rfl
    simp only [bnd_eq, hh, Bool.false_and, cond_false]
    simp only at hfd
    rw [hfd]
    show some s = some (s.set i x)
    rw [set_gxS his hg.symm]
   | some k =>
    obtain ⟨hk, hs1⟩ := rootOf_mem hra
    rw [hra] at hfd r1
    have hh : (rmap d R d.Nodes.length).has (idK d (a : Int)) = true := by unfold GMap.has; rw [r1]; rfl
    have hg1 : (rmap d R d.Nodes.length).getD (idK d (a : Int)) Str.nil = idK d k := by unfold GMap.getD; rw [r1]; rfl
    have hg2 : decide ((rmap d R d.Nodes.length).getD (idK d (b : Int)) Str.nil = idK d k) = subB d.Nodes k.toNat b := by
     unfold GMap.getD
     rw [r2, Bool.eq_iff_iff, decide_eq_true_eq]
     cases hrb : rootOf d R b with
     | none =>
      have := List.find?_eq_none.1 hrb k hk
      constructor
      ·
       intro e
       exfalso
       obtain ⟨t, ht, rfl⟩ := hA.isIn k hk
       have e' : Str.nil = idK d (t : Int) := e
       unfold idK at e'
       rw [gx_nat ht] at e'
       exact h.hid (List.getElem_mem ht) e'.symm
      ·
       intro hc; exact absurd hc this
     | some k' =>
      obtain ⟨hk', hs2⟩ := rootOf_mem hrb
      constructor
      ·
       intro e
       have := idK_inj h hA hk' hk e
       subst this
       exact hs2
      ·
       intro hc
       rw [hA.one k hk k' hk' b hb3 hc hs2]; rfl
    simp only [bnd_eq, hh, hg1, Bool.true_and]
    rw [hg2]
    simp only at hfd
    cases hc : subB d.Nodes k.toNat b with
    | false =>
     rw [hc] at hfd
     simp only [Bool.false_eq_true, if_false] at hfd
     rw [cond_false, hfd]
     show some s = some (s.set i x)
     rw [set_gxS his hg.symm]
    | true =>
     rw [hc] at hfd
     simp only [if_true] at hfd
     rw [cond_true, hfd, hm.get h hA hk, shifted_eq (by omega), bind_sm, need_of ⟨by omega, by omega⟩, hg]
     rfl)]
  rw [bind_sm, range_mapS (g := fun x => mvRE f (rootOfE d R x) x)]
  simp only
  rw [hSn]
  have e : ({ d with Nodes := (docM d R f).Nodes, Edges := d.Edges.map fun x => mvRE f (rootOfE d R x) x } : Doc) = docM d R f := rfl
  rw [e]
  cases ref_DocError (docM d R f) with
  | none => rfl
  | some c =>
   rw [bind_sm, bind_sm]
   by_cases hc : c = 0
   ·
    simp [hc, bnd_eq]
   ·
    simp [hc, bnd_eq]
theorem fits_mvN {dx dy : Int} {n : DNode} (h : fits n) : fits (mvN dx dy n) := by
 obtain ⟨h1, h2, ⟨b1, b2, b3, b4⟩, h4, h5, h6, h7⟩ := h
 unfold mvN
 split
 ·
  exact ⟨h1, h2, ⟨b1, b2, b3, b4⟩, h4, h5, h6, h7⟩
 ·
  exact ⟨h1, h2, ⟨W_in _, W_in _, b3, b4⟩, h4, h5, h6, h7⟩
theorem fits_mvE {dx dy : Int} {x : DEdge} (h : fits x) : fits (mvE dx dy x) := by
 obtain ⟨h1, h2, h3, ⟨h4, h5⟩, h6, h7⟩ := h
 refine ⟨h1, h2, h3, ⟨by show (x.Bends.map _).length ≤ _; simpa using h4, fun p hp => ?_⟩, h6, h7⟩
 obtain ⟨q, hq, rfl⟩ := List.mem_map.1 (show p ∈ x.Bends.map (mvP dx dy) from hp)
 exact ⟨W_in _, W_in _⟩
theorem fits_docM {d : Doc} (h : fits d) (R : List Int) (f : Int → Int × Int) : fits (docM d R f) := by
  obtain ⟨⟨h1, h2⟩, h3, h4⟩ := h
  refine ⟨⟨by show ((List.range d.Nodes.length).map _).length ≤ _; simpa using h1, fun n hn => ?_⟩, by show (d.Edges.map _).length ≤ _; simpa using h3, fun x hx => ?_⟩
  · obtain ⟨j, hj, rfl⟩ := List.mem_map.1 (show n ∈ (List.range d.Nodes.length).map _ from hn)
    have hf := h2 _ (gx_mem (l := d.Nodes) (k := (j : Int)) ⟨by omega, by have : j < d.Nodes.length := by simpa using hj
                                                                          omega⟩)
    unfold mvR
    cases rootOf d R j with
    | none => exact hf
    | some k => exact fits_mvN hf
  · obtain ⟨y, hy, rfl⟩ := List.mem_map.1 (show x ∈ d.Edges.map _ from hx)
    unfold mvRE
    cases rootOfE d R y with
    | none => exact h4 y hy
    | some k => exact fits_mvE (h4 y hy)
theorem fits_docA {d : Doc} (h : fits d) (ids : List Str) (dx dy : Int) : fits (docA d ids dx dy) := by
  obtain ⟨⟨h1, h2⟩, h3, h4⟩ := h
  refine ⟨⟨by show ((List.range d.Nodes.length).map _).length ≤ _; simpa using h1, fun n hn => ?_⟩, by show (d.Edges.map _).length ≤ _; simpa using h3, fun x hx => ?_⟩
  · obtain ⟨j, hj, rfl⟩ := List.mem_map.1 (show n ∈ (List.range d.Nodes.length).map _ from hn)
    have hf := h2 _ (gx_mem (l := d.Nodes) (k := (j : Int)) ⟨by omega, by have : j < d.Nodes.length := by simpa using hj
                                                                          omega⟩)
    split
    · exact fits_mvN hf
    · exact hf
  · obtain ⟨y, hy, rfl⟩ := List.mem_map.1 (show x ∈ d.Edges.map _ from hx)
    split
    · exact fits_mvE (h4 y hy)
    · exact h4 y hy
theorem leaf_under {d : Doc} (h : Right d) : ∀ (f m k : Nat) (hk : k < d.Nodes.length), Dp d.Nodes d.Nodes[k] m → 9 ≤ m + f → ∃ j : Nat, ∃ hj : j < d.Nodes.length, d.Nodes[j].Kind ≠ 6 ∧ subB d.Nodes k j = true := by
 intro f
 induction f with
 | zero =>
  intro m k hk hD hm
  obtain ⟨m', h1, h2⟩ := h.deep _ (List.getElem_mem hk)
  have := hD.uni h2
  omega
 | succ f ih =>
  intro m k hk hD hm
  by_cases hK : d.Nodes[k].Kind = 6
  case neg => exact ⟨k, hk, hK, by simp [subB]⟩
  have hne := h.full _ (List.getElem_mem hk) hK
  obtain ⟨c, hc⟩ := List.exists_mem_of_ne_nil _ hne
  obtain ⟨t, ht, rfl, hp⟩ := (kid_iff (h := h) hk).1 hc
  have hpar : par d.Nodes d.Nodes[t] = d.Nodes[k] := par_at h.hd hk hp
  have hDt : Dp d.Nodes d.Nodes[t] (m + 1) := by
   have ha : ∀ s, anc d.Nodes d.Nodes[t] (s + 1) = anc d.Nodes d.Nodes[k] s := fun s => by
    rw [show s + 1 = 1 + s by omega, anc_add]
    show anc d.Nodes (par d.Nodes d.Nodes[t]) s = _
    rw [hpar]
   refine ⟨by rw [ha]; exact hD.1, fun j hj => ?_⟩
   cases j with
   | zero => show d.Nodes[t].Parent ≠ _; rw [hp]; exact h.hid (List.getElem_mem hk)
   | succ j => rw [ha]; exact hD.2 j (by omega)
  obtain ⟨j, hj, h1, h2⟩ := ih (m + 1) t ht hDt (by omega)
  refine ⟨j, hj, h1, ?_⟩
  rw [sub_step h hk hj, Bool.or_eq_true]
  exact .inr (List.any_eq_true.2 ⟨_, hc, by rw [Int.toNat_natCast]; exact h2⟩)
theorem mvN_same {dx dy : Int} {n : DNode} : (mvN dx dy n).Id = n.Id ∧ (mvN dx dy n).Kind = n.Kind ∧ (mvN dx dy n).Text = n.Text ∧ (mvN dx dy n).Class = n.Class ∧ (mvN dx dy n).Parent = n.Parent ∧ (mvN dx dy n).Locked = n.Locked := by
 unfold mvN; split <;> exact ⟨rfl, rfl, rfl, rfl, rfl, rfl⟩
theorem mvR_same {f : Int → Int × Int} {o : Option Int} {n : DNode} : (mvR f o n).Id = n.Id ∧ (mvR f o n).Kind = n.Kind ∧ (mvR f o n).Text = n.Text ∧ (mvR f o n).Class = n.Class ∧ (mvR f o n).Parent = n.Parent ∧ (mvR f o n).Locked = n.Locked := by
 unfold mvR; split
 ·
  exact mvN_same
 ·
  exact ⟨rfl, rfl, rfl, rfl, rfl, rfl⟩
theorem mvN_group {dx dy : Int} {n : DNode} (h : n.Kind = 6) : mvN dx dy n = n := by unfold mvN; rw [if_pos h]
theorem mvR_group {f : Int → Int × Int} {o : Option Int} {n : DNode} (h : n.Kind = 6) : mvR f o n = n := by
 unfold mvR; split
 ·
  exact mvN_group h
 ·
  rfl
theorem nodeErr_box {n n' : DNode} {tw : Bool} (h : nodeErr n tw = 0) (h1 : n'.Id = n.Id) (h2 : n'.Kind = n.Kind) (h3 : n'.Text = n.Text) (h4 : n'.Class = n.Class) (h5 : n.Kind = 6 → n' = n) :
  nodeErr n' tw = if n.Kind = 6 then 0 else boxErr n'.Box := by
 by_cases hk : n.Kind = 6
 ·
  rw [if_pos hk, h5 hk, h]
 ·
  rw [if_neg hk]
  unfold nodeErr at h ⊢
  rw [h1, h2, h3, h4]
  have := firstErr_zero.1 h
  have e1 := this (if nameB n.Id = true then 0 else 5) (by simp)
  have e2 := this (if tw = true then 6 else 0) (by simp)
  have e3 := this (if 1 ≤ n.Kind ∧ n.Kind ≤ 6 then 0 else 1) (by simp)
  have e5 := this (textErr n.Text) (by simp)
  have e6 := this (clsErr n.Class) (by simp)
  rw [e1, e2, e3, e5, e6, if_neg hk]
  by_cases hb : boxErr n'.Box = 0 <;> simp [hb]
theorem docM_ids {d : Doc} {R : List Int} {f : Int → Int × Int} : (docM d R f).Nodes.map (·.Id) = d.Nodes.map (·.Id) := by
 unfold docM
 rw [List.map_map]
 conv => rhs; rw [← range_gxS d.Nodes, List.map_map]
 exact List.map_congr_left fun j hj => mvR_same.1
theorem docM_len {d : Doc} {R : List Int} {f : Int → Int × Int} : (docM d R f).Nodes.length = d.Nodes.length ∧ (docM d R f).Edges.length = d.Edges.length := by simp [docM]
theorem docM_at {d : Doc} {R : List Int} {f : Int → Int × Int} {j : Nat} (hj : j < d.Nodes.length) : (docM d R f).Nodes[j]'(by rw [docM_len.1]; exact hj) = mvR f (rootOf d R j) d.Nodes[j] := by
 simp only [docM, List.getElem_map, List.getElem_range, gx_nat hj]
theorem rootOf_some {d : Doc} {R : List Int} (hA : ApartR d R) {j : Nat} (hj : j < d.Nodes.length) {k : Int} (hk : k ∈ R) (hs : subB d.Nodes k.toNat j = true) : rootOf d R j = some k := by
 unfold rootOf
 cases h : R.find? (fun k => subB d.Nodes k.toNat j) with
 | none => exact absurd hs (by simpa using List.find?_eq_none.1 h k hk)
 | some k' => rw [hA.one k' (List.mem_of_find?_eq_some h) k hk j hj (by have := List.find?_some h; simpa using this) hs]
theorem DocError_first {D : Doc} (hn : D.Nodes.length ≤ 500) (he : D.Edges.length ≤ 1000) (hf : ∀ n ∈ D.Nodes, fits n.Id ∧ fits n.Text ∧ fits n.Class)
  (h : ∀ (i : Nat) (hi : i < D.Nodes.length), nodeErr D.Nodes[i] (decide (D.Nodes[i].Id ∈ (D.Nodes.take i).map (·.Id))) = 0 ∨ nodeErr D.Nodes[i] (decide (D.Nodes[i].Id ∈ (D.Nodes.take i).map (·.Id))) = 3)
  (hx : ∃ (i : Nat) (hi : i < D.Nodes.length), nodeErr D.Nodes[i] (decide (D.Nodes[i].Id ∈ (D.Nodes.take i).map (·.Id))) ≠ 0) : ref_DocError D = some 3 := by
 let E : Nat → Int := fun i => nodeErr (gx D.Nodes (i : Int)) (decide ((gx D.Nodes (i : Int)).Id ∈ (D.Nodes.take i).map (·.Id)))
 unfold ref_DocError
 rw [decide_eq_false (show ¬ (500 : Int) < (D.Nodes.length : Int) by omega), decide_eq_false (show ¬ (1000 : Int) < (D.Edges.length : Int) by omega)]
 simp only [Bool.or_self, cond_false]
 have hE := rforE_errS (n := D.Nodes.length) (step := ref_DocError_L1 D) (fin := fun s => (Res.nx s : Res Unit Int)) (fun _ => ()) E (fun e => Res.ab e) (by omega) (fun i hi _ => by
  unfold ref_DocError_L1
  rw [nodeError_eq hn hf hi, Option.bind_some]
  have e : E i = nodeErr D.Nodes[i] (decide (D.Nodes[i].Id ∈ (D.Nodes.take i).map (·.Id))) := by show nodeErr (gx D.Nodes (i : Int)) _ = _; rw [gx_nat hi]
  rw [← e]
  by_cases hz : E i = 0
  ·
   simp [hz]
  ·
   simp [hz])
 rw [hE]
 have h3 : firstErr ((List.range D.Nodes.length).map E) = 3 := by
  have all : ∀ e ∈ (List.range D.Nodes.length).map E, e = 0 ∨ e = 3 := fun e he => by
   obtain ⟨i, hi, rfl⟩ := List.mem_map.1 he
   have hi' : i < D.Nodes.length := by simpa using hi
   have := h i hi'
   show nodeErr (gx D.Nodes (i : Int)) _ = 0 ∨ nodeErr (gx D.Nodes (i : Int)) _ = 3
   rw [gx_nat hi']; exact this
  have one : ∃ e ∈ (List.range D.Nodes.length).map E, e ≠ 0 := by
   obtain ⟨i, hi, hne⟩ := hx
   refine ⟨E i, List.mem_map.2 ⟨i, by simpa using hi, rfl⟩, ?_⟩
   show nodeErr (gx D.Nodes (i : Int)) _ ≠ 0
   rw [gx_nat hi]; exact hne
  have key : ∀ l : List Int, (∀ e ∈ l, e = 0 ∨ e = 3) → (∃ e ∈ l, e ≠ 0) → firstErr l = 3 := by
   intro l
   induction l with
   | nil => rintro _ ⟨e, he, _⟩; cases he
   | cons a l ih =>
    intro ha ho
    rw [firstErr_cons]
    rcases ha a (by simp) with h0 | h0
    ·
     rw [if_pos h0]
     refine ih (fun e he => ha e (by simp [he])) ?_
     obtain ⟨e, he, hne⟩ := ho
     rcases List.mem_cons.1 he with rfl | he
     ·
      exact (hne h0).elim
     ·
      exact ⟨e, he, hne⟩
    ·
     rw [if_neg (by omega), h0]
  exact key _ all one
 rw [h3, if_neg (by decide)]
 rfl
theorem far_bad {d : Doc} (hf : fits d) (h : Right d) {R : List Int} (hA : ApartR d R) {f : Int → Int × Int} (hb : ∀ k ∈ R, (-1000000000 ≤ (f k).1 ∧ (f k).1 ≤ 1000000000) ∧ -1000000000 ≤ (f k).2 ∧ (f k).2 ≤ 1000000000)
  {k : Int} (hk : k ∈ R) (hfar : ((f k).1 < -2000000 ∨ 2000000 < (f k).1) ∨ (f k).2 < -2000000 ∨ 2000000 < (f k).2) : ref_DocError (docM d R f) = some 3 := by
 have hfm := fits_docM hf R f
 obtain ⟨l1, l2⟩ := docM_len (d := d) (R := R) (f := f)
 have herr : ∀ (i : Nat) (hi : i < d.Nodes.length), nodeErr ((docM d R f).Nodes[i]'(by omega)) (decide (((docM d R f).Nodes[i]'(by omega)).Id ∈ ((docM d R f).Nodes.take i).map (·.Id))) = if d.Nodes[i].Kind = 6 then 0 else boxErr (mvR f (rootOf d R i) d.Nodes[i]).Box := fun i hi => by
  rw [docM_at hi]
  obtain ⟨s1, s2, s3, s4, _, _⟩ := mvR_same (f := f) (o := rootOf d R i) (n := d.Nodes[i])
  rw [nodeErr_box (n := d.Nodes[i]) (tw := decide ((mvR f (rootOf d R i) d.Nodes[i]).Id ∈ ((docM d R f).Nodes.take i).map (·.Id))) ?_ s1 s2 s3 s4 mvR_group]
  rw [s1, List.map_take, docM_ids, ← List.map_take]
  exact h.node i hi
 refine DocError_first (by rw [l1]; exact h.nl) (by rw [l2]; exact h.el) (fun n hn => ?_) (fun i hi => ?_) ?_
 ·
  have := hfm.1.2 n hn
  exact ⟨this.1, this.2.2.2.1, this.2.2.2.2.1⟩
 ·
  rw [herr i (by omega)]
  split
  ·
   exact .inl rfl
  ·
   exact boxErr_cases _
 ·
  obtain ⟨t, ht, rfl⟩ := hA.isIn k hk
  obtain ⟨m, _, hm⟩ := h.deep _ (List.getElem_mem ht)
  obtain ⟨j, hj, j1, j2⟩ := leaf_under h 9 m t ht hm (by omega)
  refine ⟨j, by omega, ?_⟩
  have hr := rootOf_some hA hj hk (by rw [Int.toNat_natCast]; exact j2)
  rw [herr j hj, if_neg j1, hr]
  obtain ⟨o1, o2, o3, o4, _⟩ := (h.at (List.getElem_mem hj)).2.2 j1
  obtain ⟨⟨b1, b2⟩, b3, b4⟩ := hb _ hk
  intro h0
  have := boxErr_zero.1 h0
  unfold mvR mvN at this
  simp only [if_neg j1] at this
  obtain ⟨p1, p2, p3, p4, _⟩ := this
  simp only at p1 p2 p3 p4
  rw [Wk (n := d.Nodes[j].Box.X + (f (t : Int)).1) (by omega) (by omega)] at p1 p2
  rw [Wk (n := d.Nodes[j].Box.Y + (f (t : Int)).2) (by omega) (by omega)] at p3 p4
  omega
theorem lock_steps {d : Doc} {R : List Int} (hA : ApartR d R) {f : Int → Int × Int} : (stepsR R f).any (lockS d) = (List.range d.Nodes.length).any fun j => lockR d R f j := by
 unfold stepsR
 rw [Bool.eq_iff_iff, List.any_map, List.any_eq_true, List.any_eq_true]
 constructor
 ·
  rintro ⟨k, hk, hl⟩
  have hl' : lockS d ⟨[k], (f k).1, (f k).2⟩ = true := hl
  unfold lockS at hl'
  rw [Bool.and_eq_true, List.any_eq_true] at hl'
  obtain ⟨hz, j, hj, hs⟩ := hl'
  rw [Bool.and_eq_true] at hs
  have hj' : j < d.Nodes.length := by simpa using hj
  have hsub : subB d.Nodes k.toNat j = true := by have := hs.1; simpa [stepP] using this
  refine ⟨j, hj, ?_⟩
  unfold lockR
  rw [rootOf_some hA hj' hk hsub]
  simp only
  rw [hs.2, Bool.true_and]
  have : decide (f k = (0, 0)) = (decide ((f k).1 = 0) && decide ((f k).2 = 0)) := by
   rw [Bool.eq_iff_iff, decide_eq_true_eq, Bool.and_eq_true, decide_eq_true_eq, decide_eq_true_eq, Prod.ext_iff]
  rw [this]
  exact hz
 ·
  rintro ⟨j, hj, hl⟩
  have hj' : j < d.Nodes.length := by simpa using hj
  unfold lockR at hl
  cases hr : rootOf d R j with
  | none => rw [hr] at hl; cases hl
  | some k =>
   rw [hr] at hl
   obtain ⟨hk, hs⟩ := rootOf_mem hr
   simp only [Bool.and_eq_true] at hl
   refine ⟨k, hk, ?_⟩
   show lockS d ⟨[k], (f k).1, (f k).2⟩ = true
   unfold lockS
   rw [Bool.and_eq_true, List.any_eq_true]
   refine ⟨?_, j, hj, ?_⟩
   ·
    have : decide (f k = (0, 0)) = (decide ((f k).1 = 0) && decide ((f k).2 = 0)) := by
     rw [Bool.eq_iff_iff, decide_eq_true_eq, Bool.and_eq_true, decide_eq_true_eq, decide_eq_true_eq, Prod.ext_iff]
    rw [← this]; exact hl.2
   ·
    rw [Bool.and_eq_true]
    exact ⟨by simpa [stepP] using hs, hl.1⟩
theorem by_prog {d : Doc} (hf : fits d) (h : Right d) {R : List Int} (hA : ApartR d R) (hR : R.length ≤ 1000) (f : Int → Int × Int) :
  ∃ r : Doc × Int, page_view_moved (viewD d) (stepsR R f) = some r ∧ (r.2 = 0 → r.1 = docM d R f ∧ Right (docM d R f) ∧ page_Check (docM d R f) = some 0) ∧ (r.2 ≠ 0 → r.1 = ⟨[], []⟩) ∧
   (((List.range d.Nodes.length).any (fun j => lockR d R f j) = true ∧ r.2 = 12) ∨ ((List.range d.Nodes.length).any (fun j => lockR d R f j) = false ∧ (stepsR R f).any farS = true ∧ r.2 = 3) ∨
    ((List.range d.Nodes.length).any (fun j => lockR d R f j) = false ∧ (stepsR R f).any farS = false ∧ ref_DocError (docM d R f) = some r.2)) := by
 rw [moved_eq h (fun st hst => by
  obtain ⟨k, hk, rfl⟩ := List.mem_map.1 hst
  exact ⟨by simp, fun a ha => by rw [List.mem_singleton.1 ha]; exact hA.isIn k hk⟩) (by simpa [stepsR] using hR), lock_steps hA, fold_docM h f R hA]
 obtain ⟨e, c1, c2, c3⟩ := Check_both (fits_docM hf R f)
 cases hl : (List.range d.Nodes.length).any fun j => lockR d R f j with
 | true => exact ⟨(⟨[], []⟩, 12), rfl, (fun h => by cases h), fun _ => rfl, .inl ⟨rfl, rfl⟩⟩
 | false =>
  simp only [Bool.false_eq_true, if_false]
  cases hfr : (stepsR R f).any farS with
  | true => exact ⟨(⟨[], []⟩, 3), rfl, (fun h => by cases h), fun _ => rfl, .inr (.inl ⟨by trivial, by trivial, rfl⟩)⟩
  | false =>
   rw [if_neg (by simp), c1, Option.bind_some]
   refine ⟨if e = 0 then (docM d R f, 0) else (⟨[], []⟩, e), rfl, fun h => ?_, fun h => ?_, .inr (.inr ⟨by trivial, by trivial, ?_⟩)⟩
   ·
    by_cases he : e = 0
    ·
     rw [if_pos he]; exact ⟨rfl, c3 he, by rw [he]⟩
    ·
     rw [if_neg he] at h; exact (he h).elim
   ·
    by_cases he : e = 0
    ·
     rw [if_pos he] at h; exact (h rfl).elim
    ·
     rw [if_neg he]
   ·
    rw [c2]
    by_cases he : e = 0
    ·
     rw [if_pos he, he]
    ·
     rw [if_neg he]
theorem by_both {d : Doc} (hf : fits d) (h : Right d) {R : List Int} (hA : ApartR d R) (hR : R.length ≤ 1000) {f : Int → Int × Int} (hb : ∀ k ∈ R, (-1000000000 ≤ (f k).1 ∧ (f k).1 ≤ 1000000000) ∧ -1000000000 ≤ (f k).2 ∧ (f k).2 ≤ 1000000000) :
  ∃ r : Doc × Int, page_view_moved (viewD d) (stepsR R f) = some r ∧ (∀ m, ByR d R f m → ref_MoveBy d m = some r) ∧ (r.2 = 0 → r.1 = docM d R f ∧ Right (docM d R f) ∧ page_Check (docM d R f) = some 0) ∧ (r.2 ≠ 0 → r.1 = ⟨[], []⟩) := by
 obtain ⟨r, r1, r2, r3, r4⟩ := by_prog hf h hA hR f
 refine ⟨r, r1, fun m hm => ?_, r2, r3⟩
 rw [MoveBy_eq h hA hm]
 have hr : r.2 ≠ 0 → r = (⟨[], []⟩, r.2) := fun e => Prod.ext (r3 e) rfl
 rcases r4 with ⟨l, e⟩ | ⟨l, g, e⟩ | ⟨l, g, e⟩
 ·
  rw [if_pos l, hr (by rw [e]; decide), e]
 ·
  obtain ⟨st, hst, hfs⟩ := List.any_eq_true.1 g
  obtain ⟨k, hk, rfl⟩ := List.mem_map.1 hst
  have := far_bad hf h hA hb hk (by unfold farS at hfs; simpa using hfs)
  rw [if_neg (by simp [l]), this, hr (by rw [e]; decide), e]; rfl
 ·
  rw [if_neg (by simp [l]), e, Option.bind_some]
  by_cases he : r.2 = 0
  ·
   rw [if_pos he, ← (r2 he).1, ← he]
  ·
   rw [if_neg he, ← hr he]
theorem all_both {d : Doc} (hf : fits d) (h : Right d) {ids : List Str} (hi : (ids.length : Int) ≤ 9223372036854775807) (dx dy : Int) :
  ∃ r : Doc × Int, page_view_moved (viewD d) [⟨rootL d.Nodes ids, dx, dy⟩] = some r ∧ ref_MoveAll d ids dx dy = some r ∧ (r.2 = 0 → r.1 = docA d ids dx dy ∧ Right (docA d ids dx dy) ∧ page_Check (docA d ids dx dy) = some 0) ∧ (r.2 ≠ 0 → r.1 = ⟨[], []⟩) := by
 rw [moved_eq h (fun st hst => by
  rw [List.mem_singleton.1 hst]
  exact ⟨by have := rootL_len (l := d.Nodes) (ids := ids) h.nl; simp only; omega, (rootL_apart h ids).isIn⟩) (by simp), fold_docA h, MoveAll_eq h hi]
 obtain ⟨e, c1, c2, c3⟩ := Check_both (fits_docA hf ids dx dy)
 have hlk : [(⟨rootL d.Nodes ids, dx, dy⟩ : Page_step)].any (lockS d) = lockA d ids dx dy := by
  simp only [List.any_cons, List.any_nil, Bool.or_false]
  unfold lockS lockA
  simp only
  congr 1
  rw [Bool.eq_iff_iff, List.any_eq_true, List.any_eq_true]
  have hP : ∀ j, j ∈ List.range d.Nodes.length → stepP d ⟨rootL d.Nodes ids, dx, dy⟩ j = tchB d.Nodes ids (gx d.Nodes (j : Int)) := fun j hj => by
   have hj' : j < d.Nodes.length := by simpa using hj
   rw [gx_nat hj', ← roots_tch h ids hj']; rfl
  constructor
  ·
   rintro ⟨j, hj, hx⟩; exact ⟨j, hj, by rw [← hP j hj]; exact hx⟩
  ·
   rintro ⟨j, hj, hx⟩; exact ⟨j, hj, by rw [hP j hj]; exact hx⟩
 rw [hlk]
 cases lockA d ids dx dy with
 | true => exact ⟨(⟨[], []⟩, 12), rfl, rfl, (fun h => by cases h), fun _ => rfl⟩
 | false =>
  simp only [Bool.false_eq_true, if_false, List.any_cons, List.any_nil, Bool.or_false]
  by_cases hok : (-2000000 ≤ dx ∧ dx ≤ 2000000) ∧ -2000000 ≤ dy ∧ dy ≤ 2000000
  ·
   have hn : farS ⟨rootL d.Nodes ids, dx, dy⟩ = false := by
    unfold farS
    rw [Bool.or_eq_false_iff, decide_eq_false_iff_not, decide_eq_false_iff_not]
    simp only; omega
   rw [hn, if_neg (by simp), if_pos hok, c1, c2, Option.bind_some]
   refine ⟨if e = 0 then (docA d ids dx dy, 0) else (⟨[], []⟩, e), rfl, rfl, fun h => ?_, fun h => ?_⟩
   ·
    by_cases he : e = 0
    ·
     rw [if_pos he]; exact ⟨rfl, c3 he, by rw [he]⟩
    ·
     rw [if_neg he] at h; exact (he h).elim
   ·
    by_cases he : e = 0
    ·
     rw [if_pos he] at h; exact (h rfl).elim
    ·
     rw [if_neg he]
  ·
   have hn : farS ⟨rootL d.Nodes ids, dx, dy⟩ = true := by
    unfold farS
    rw [Bool.or_eq_true, decide_eq_true_eq, decide_eq_true_eq]
    simp only; omega
   rw [hn, if_pos rfl, if_neg hok]
   exact ⟨(⟨[], []⟩, 3), rfl, rfl, (fun h => by cases h), fun _ => rfl⟩
theorem hull_has {l : List Box} (hok : ∀ b ∈ l, okB b) (hl : l.length ≤ 1000) {b : Box} (h : ref_HullOf l = some (b, 0)) : ∀ v ∈ l, b.X ≤ v.X ∧ b.Y ≤ v.Y ∧ v.X + v.W_ ≤ b.X + b.W_ ∧ v.Y + v.H ≤ b.Y + b.H := by
 unfold ref_HullOf at h
 simp only [bnd_eq] at h
 by_cases h0 : l = []
 ·
  subst h0; intro v hv; cases hv
 have hpos : 0 < l.length := List.length_pos_iff.2 h0
 have hin : inR l 0 := ⟨by omega, by omega⟩
 rw [decide_eq_false (show ¬ (l.length : Int) = 0 by omega)] at h
 simp only [cond_false, need_of hin] at h
 have hg0 : okB (gx l 0) := hok _ (gx_mem hin)
 obtain ⟨s, h1, h2⟩ := rfor_inv (n := (l.length : Int)) (step := ref_HullOf_L1 l) (s0 := ((gx l 0).X, (gx l 0).Y, (gx l 0).X, (gx l 0).Y))
  (fun k s => (-1000000 ≤ s.1 ∧ s.1 ≤ 1000000 ∧ -1000000 ≤ s.2.1 ∧ s.2.1 ≤ 1000000 ∧ -1000000 ≤ s.2.2.1 ∧ s.2.2.1 ≤ 1020000 ∧ -1000000 ≤ s.2.2.2 ∧ s.2.2.2 ≤ 1020000) ∧ ∀ j : Nat, j < k → (hj : j < l.length) → s.1 ≤ l[j].X ∧ s.2.1 ≤ l[j].Y ∧ l[j].X + l[j].W_ ≤ s.2.2.1 ∧ l[j].Y + l[j].H ≤ s.2.2.2)
  (by omega) (by
   obtain ⟨x1, x2, y1, y2, _⟩ := hg0
   exact ⟨by simp only; omega, fun j hj => by omega⟩) (fun i s hi hI => by
   have hi' : i < l.length := by omega
   obtain ⟨x1, x2, y1, y2, w1, w2, g1, g2⟩ := hok _ (List.getElem_mem hi')
   obtain ⟨⟨c1, c2, c3, c4, c5, c6, c7, c8⟩, ha⟩ := hI
   unfold ref_HullOf_L1
   rw [need_of ⟨by omega, by omega⟩, gx_nat hi']
   simp only [bnd_eq]
   rw [Wk (n := l[i].X + l[i].W_) (by omega) (by omega), Wk (n := l[i].Y + l[i].H) (by omega) (by omega)]
   refine ⟨_, rfl, by simp only; omega, fun j hj hj' => ?_⟩
   by_cases e : j = i
   ·
    subst e; simp only; omega
   ·
    have := ha j (by omega) hj'
    simp only; omega)
 rw [h1, bind_sm] at h
 obtain ⟨⟨c1, c2, c3, c4, c5, c6, c7, c8⟩, ha⟩ := h2
 rw [Wk (n := s.2.2.1 - s.1) (by omega) (by omega), Wk (n := s.2.2.2 - s.2.1) (by omega) (by omega)] at h
 cases hc : decide ((20000 : Int) < s.2.2.1 - s.1) || decide ((20000 : Int) < s.2.2.2 - s.2.1) with
 | true => rw [hc] at h; cases h
 | false =>
  rw [hc, cond_false] at h
  have hb := (Prod.mk.inj (Option.some.inj h)).1
  intro v hv
  obtain ⟨j, hj, rfl⟩ := List.getElem_of_mem hv
  have := ha j (by omega) hj
  rw [← hb]
  simp only; omega
theorem view_boxM {d : Doc} {i : Int} {b : Box} {e : Int} (h : page_view_boxOf (viewD d) i = some (b, e)) : page_view_box (viewD d) i = some b := by
 unfold page_view_box
 rw [bnd_eq, h]; rfl
noncomputable def bxD (d : Doc) (k : Int) : Box := ((page_view_boxOf (viewD d) k).getD (zeroB, 0)).1
theorem bxD_eq {d : Doc} (h : Right d) {j : Nat} (hj : j < d.Nodes.length) : page_view_boxOf (viewD d) (j : Int) = some (bxD d (j : Int), 0) ∧ ref_BoxOfNode d d.Nodes[j].Id = some (bxD d (j : Int), 0) ∧ okB (bxD d (j : Int)) := by
 obtain ⟨b, b1, b2, b3⟩ := h.box j hj
 have e : bxD d (j : Int) = b := by show ((page_view_boxOf (viewD d) (j : Int)).getD (zeroB, 0)).1 = b; rw [b1]; rfl
 rw [e]; exact ⟨b1, b2, b3⟩
theorem box_okR {d : Doc} (h : Right d) {R : List Int} (hA : ApartR d R) : ∀ b ∈ R.map (bxD d), okB b := fun b hb => by
 obtain ⟨k, hk, rfl⟩ := List.mem_map.1 hb
 obtain ⟨j, hj, rfl⟩ := hA.isIn k hk
 exact (bxD_eq h hj).2.2
theorem hullOf_eq {d : Doc} (h : Right d) {R : List Int} (hA : ApartR d R) (hR : R.length ≤ 500) {b : Box} {e : Int} (hu : geom_Hull (R.map (bxD d)) = some (b, e)) : page_view_hullOf (viewD d) R = some (b, e) := by
 unfold page_view_hullOf
 rw [bnd_eq, rfor_gather (fun k => [bxD d k]) [] (fun a _ => by simp) (by simp; omega) (fun i s hk hs => by
  unfold page_view_hullOf_L1
  obtain ⟨j, hj, e⟩ := hA.isIn _ (gx_mem hk)
  rw [need_of hk, e, view_boxM (bxD_eq h hj).1, Option.bind_some, need_of (by show _ ≤ _; simp; omega)])]
 rw [← List.map_eq_flatMap, List.nil_append, Option.bind_some, hu]; rfl
theorem RootBoxes_eq {d : Doc} (h : Right d) {ids : List Str} (hi : (ids.length : Int) ≤ 9223372036854775807) {b : Box} {e : Int} (hu : ref_HullOf ((rootL d.Nodes ids).map (bxD d)) = some (b, e)) : ref_RootBoxes d ids = some ((rootL d.Nodes ids).map (bxD d), b, e) := by
 have hA := rootL_apart h ids
 have hRl := rootL_len (l := d.Nodes) (ids := ids) h.nl
 generalize hR : rootL d.Nodes ids = R at *
 unfold ref_RootBoxes
 rw [bnd_eq, RootsOf_eq h hi, hR, Option.bind_some, rfor_gather (l := R.map (fun k => (gx d.Nodes k).Id)) (fun id => [((ref_BoxOfNode d id).getD (zeroB, 0)).1]) [] (fun a _ => by simp) (by simp; omega) (fun i s hk hs => by
  unfold ref_RootBoxes_L1
  have hin := gx_mem hk
  obtain ⟨k, hk2, e⟩ := List.mem_map.1 hin
  obtain ⟨j, hj, rfl⟩ := hA.isIn k hk2
  rw [gx_nat hj] at e
  rw [need_of hk, ← e, (bxD_eq h hj).2.1, Option.bind_some, need_of (by show _ ≤ _; simp; omega)]; rfl)]
 rw [← List.map_eq_flatMap, List.nil_append, Option.bind_some, List.map_map]
 have : R.map ((fun id => ((ref_BoxOfNode d id).getD (zeroB, 0)).1) ∘ fun k => (gx d.Nodes k).Id) = R.map (bxD d) := List.map_congr_left fun k hk => by
  obtain ⟨j, hj, rfl⟩ := hA.isIn k hk
  show ((ref_BoxOfNode d (gx d.Nodes (j : Int)).Id).getD (zeroB, 0)).1 = _
  rw [gx_nat hj, (bxD_eq h hj).2.1]; rfl
 rw [this, hu]; rfl
def alignF (hb : Box) (how : Int) (b : Box) : Int × Int :=
 if how = 1 then (hb.X - b.X, 0) else if how = 2 then (hb.X + (hb.W_ - b.W_) / 2 - b.X, 0) else if how = 3 then (hb.X + hb.W_ - b.X - b.W_, 0) else
 if how = 4 then (0, hb.Y - b.Y) else if how = 5 then (0, hb.Y + (hb.H - b.H) / 2 - b.Y) else (0, hb.Y + hb.H - b.Y - b.H)
theorem tdivM {a : Int} (h : 0 ≤ a) : a.tdiv 2 = a / 2 := Int.tdiv_eq_ediv_of_nonneg h
theorem set_map_by {d : Doc} (h : Right d) {R : List Int} (hA : ApartR d R) (f : Int → Int × Int) : ∀ (k : Nat), k ≤ R.length → ∀ id p, ((R.take k).foldl (fun (m : GMap Str Point) r => m.set (idK d r) (ptF (f r))) GMap.nil).f id = some p ↔ ∃ r ∈ R.take k, idK d r = id ∧ p = ptF (f r)
 | 0, _, id, p => by simp [GMap.nil]
 | k + 1, hk, id, p => by
  have ih := set_map_by h hA f k (by omega) id p
  rw [List.take_succ_eq_append_getElem (by omega), List.foldl_append]
  simp only [List.foldl_cons, List.foldl_nil]
  generalize (R.take k).foldl (fun (m : GMap Str Point) r => m.set (idK d r) (ptF (f r))) GMap.nil = m at *
  have hset : (m.set (idK d R[k]) (ptF (f R[k]))).f id = if id = idK d R[k] then some (ptF (f R[k])) else m.f id := rfl
  rw [hset]
  by_cases e : id = idK d R[k]
  ·
   rw [if_pos e]
   constructor
   ·
    intro hh
    exact ⟨R[k], List.mem_append.2 (.inr (List.mem_singleton.2 rfl)), e.symm, (Option.some.inj hh).symm⟩
   ·
    rintro ⟨r, hr, e1, e2⟩
    have hr' : r ∈ R := by
     rcases List.mem_append.1 hr with hr | hr
     ·
      exact List.mem_of_mem_take hr
     ·
      rw [List.mem_singleton.1 hr]; exact List.getElem_mem _
    have := idK_inj h hA hr' (List.getElem_mem (by omega : k < R.length)) (e1.trans e)
    rw [e2, this]
  ·
   rw [if_neg e, ih]
   constructor
   ·
    rintro ⟨r, hr, e1, e2⟩; exact ⟨r, List.mem_append.2 (.inl hr), e1, e2⟩
   ·
    rintro ⟨r, hr, e1, e2⟩
    rcases List.mem_append.1 hr with hr | hr
    ·
     exact ⟨r, hr, e1, e2⟩
    ·
     rw [List.mem_singleton.1 hr] at e1; exact absurd e1.symm e
theorem foldSet_by {d : Doc} (h : Right d) {R : List Int} (hA : ApartR d R) (f : Int → Int × Int) : ByR d R f (R.foldl (fun (m : GMap Str Point) r => m.set (idK d r) (ptF (f r))) GMap.nil) := fun id p => by
 have := set_map_by h hA f R.length (Nat.le_refl _) id p
 rw [List.take_length] at this
 exact this
theorem Align_steps {d : Doc} (h : Right d) {R : List Int} (hA : ApartR d R) (hR : R.length ≤ 500) {hb : Box} (ho : okB hb) (hc : ∀ v ∈ R.map (bxD d), hb.X ≤ v.X ∧ hb.Y ≤ v.Y ∧ v.X + v.W_ ≤ hb.X + hb.W_ ∧ v.Y + v.H ≤ hb.Y + hb.H) (how : Int) (o : Option Page_view) (c : Int) :
  rfor (R.length : Int) (page_Align_L1 (o, R, c) (hb, 0) (viewD d) how) ([] : List Page_step) = some (stepsR R fun k => alignF hb how (bxD d k)) := by
 rw [rfor_gather (fun k => [(⟨[k], (alignF hb how (bxD d k)).1, (alignF hb how (bxD d k)).2⟩ : Page_step)]) [] (fun a _ => by simp) (by simp; omega) (fun i s hk hs => by
  unfold page_Align_L1
  have hin := gx_mem hk
  obtain ⟨j, hj, e⟩ := hA.isIn _ hin
  obtain ⟨x1, x2, y1, y2, w1, w2, g1, g2⟩ := ho
  obtain ⟨p1, p2, p3, p4, p5, p6, p7, p8⟩ := (bxD_eq h hj).2.2
  obtain ⟨q1, q2, q3, q4⟩ := hc _ (List.mem_map.2 ⟨_, hin, rfl⟩)
  simp only [need_of hk, bnd_eq]
  rw [e] at q1 q2 q3 q4 ⊢
  rw [view_boxM (bxD_eq h hj).1, Option.bind_some]
  generalize bxD d (j : Int) = b at *
  unfold alignF
  rw [Wk (n := hb.X - b.X) (by omega) (by omega), Wk (n := hb.Y - b.Y) (by omega) (by omega), Wk (n := hb.W_ - b.W_) (by omega) (by omega), Wk (n := hb.H - b.H) (by omega) (by omega), tdivM (show 0 ≤ hb.W_ - b.W_ by omega), tdivM (show 0 ≤ hb.H - b.H by omega),
   Wk (n := hb.X + (hb.W_ - b.W_) / 2) (by omega) (by omega), Wk (n := hb.X + (hb.W_ - b.W_) / 2 - b.X) (by omega) (by omega), Wk (n := hb.X + hb.W_) (by omega) (by omega), Wk (n := hb.X + hb.W_ - b.X) (by omega) (by omega), Wk (n := hb.X + hb.W_ - b.X - b.W_) (by omega) (by omega),
   Wk (n := hb.Y + (hb.H - b.H) / 2) (by omega) (by omega), Wk (n := hb.Y + (hb.H - b.H) / 2 - b.Y) (by omega) (by omega), Wk (n := hb.Y + hb.H) (by omega) (by omega), Wk (n := hb.Y + hb.H - b.Y) (by omega) (by omega), Wk (n := hb.Y + hb.H - b.Y - b.H) (by omega) (by omega)]
  have hroom : room (s.length + 1) := by show _ ≤ _; omega
  by_cases h1 : how = 1
  ·
   simp [h1, need_of hroom]
  by_cases h2 : how = 2
  ·
   simp [h1, h2, need_of hroom]
  by_cases h3 : how = 3
  ·
   simp [h1, h2, h3, need_of hroom]
  by_cases h4 : how = 4
  ·
   simp [h1, h2, h3, h4, need_of hroom]
  by_cases h5 : how = 5
  ·
   simp [h1, h2, h3, h4, h5, need_of hroom]
  simp [h1, h2, h3, h4, h5, need_of hroom])]
 rw [← List.map_eq_flatMap, List.nil_append]; rfl
theorem AlignBy_by {d : Doc} (h : Right d) {R : List Int} (hA : ApartR d R) (hR : R.length ≤ 500) {hb : Box} (ho : okB hb) (hc : ∀ v ∈ R.map (bxD d), hb.X ≤ v.X ∧ hb.Y ≤ v.Y ∧ v.X + v.W_ ≤ hb.X + hb.W_ ∧ v.Y + v.H ≤ hb.Y + hb.H) (how : Int) (c : Int) :
  rfor ((R.map (idK d)).length : Int) (ref_AlignBy_L1 (R.map (bxD d), hb, c) (R.map (idK d)) how) GMap.nil = some (R.foldl (fun (m : GMap Str Point) r => m.set (idK d r) (ptF (alignF hb how (bxD d r)))) GMap.nil) := by
 obtain ⟨s, g1, g2⟩ := rfor_inv (n := ((R.map (idK d)).length : Int)) (step := ref_AlignBy_L1 (R.map (bxD d), hb, c) (R.map (idK d)) how) (s0 := (GMap.nil : GMap Str Point)) (fun k s => s = (R.take k).foldl (fun (m : GMap Str Point) r => m.set (idK d r) (ptF (alignF hb how (bxD d r)))) GMap.nil) (by simp; omega) rfl (fun k s hk hI => by
  have hk' : k < R.length := by simpa using hk
  obtain ⟨j, hj, e⟩ := hA.isIn _ (List.getElem_mem hk')
  obtain ⟨x1, x2, y1, y2, w1, w2, g1, g2⟩ := ho
  obtain ⟨p1, p2, p3, p4, p5, p6, p7, p8⟩ := (bxD_eq h hj).2.2
  obtain ⟨q1, q2, q3, q4⟩ := hc _ (List.mem_map.2 ⟨_, List.getElem_mem hk', rfl⟩)
  rw [e] at q1 q2 q3 q4
  unfold ref_AlignBy_L1
  have a1 : gx (R.map (bxD d)) (k : Int) = bxD d (j : Int) := by rw [gx_nat (by simpa using hk'), List.getElem_map, e]
  have a2 : gx (R.map (idK d)) (k : Int) = idK d (j : Int) := by rw [gx_nat (by simpa using hk'), List.getElem_map, e]
  rw [need_of ⟨by omega, by simp; omega⟩, need_of ⟨by omega, by simp; omega⟩, bnd_eq]
  simp only
  rw [a1, a2, List.take_succ_eq_append_getElem hk', List.foldl_append, hI, e]
  simp only [List.foldl_cons, List.foldl_nil]
  generalize (R.take k).foldl _ GMap.nil = m
  generalize bxD d (j : Int) = b at *
  unfold alignF ptF
  rw [Wk (n := hb.W_ - b.W_) (by omega) (by omega), Wk (n := hb.H - b.H) (by omega) (by omega), Down_eq (a := hb.W_ - b.W_) (by decide) (by omega) (by omega) (by decide), Down_eq (a := hb.H - b.H) (by decide) (by omega) (by omega) (by decide)]
  simp only [Option.bind_some]
  rw [Wk (n := hb.X + (hb.W_ - b.W_) / 2) (by omega) (by omega), Wk (n := hb.X + hb.W_) (by omega) (by omega), Wk (n := hb.X + hb.W_ - b.W_) (by omega) (by omega),
   Wk (n := hb.Y + (hb.H - b.H) / 2) (by omega) (by omega), Wk (n := hb.Y + hb.H) (by omega) (by omega), Wk (n := hb.Y + hb.H - b.H) (by omega) (by omega)]
  have W0 : W 0 = 0 := Wk (by decide) (by decide)
  by_cases h1 : how = 1
  ·
   simp [h1, W0, Wk (n := hb.X - b.X) (by omega) (by omega)]
  by_cases h2 : how = 2
  ·
   simp [h1, h2, W0, Wk (n := hb.X + (hb.W_ - b.W_) / 2 - b.X) (by omega) (by omega)]
  by_cases h3 : how = 3
  ·
   have : hb.X + hb.W_ - b.W_ - b.X = hb.X + hb.W_ - b.X - b.W_ := by omega
   simp [h1, h2, h3, W0, this, Wk (n := hb.X + hb.W_ - b.X - b.W_) (by omega) (by omega)]
  by_cases h4 : how = 4
  ·
   simp [h1, h2, h3, h4, W0, Wk (n := hb.Y - b.Y) (by omega) (by omega)]
  by_cases h5 : how = 5
  ·
   simp [h1, h2, h3, h4, h5, W0, Wk (n := hb.Y + (hb.H - b.H) / 2 - b.Y) (by omega) (by omega)]
  have : hb.Y + hb.H - b.H - b.Y = hb.Y + hb.H - b.Y - b.H := by omega
  simp [h1, h2, h3, h4, h5, W0, this, Wk (n := hb.Y + hb.H - b.Y - b.H) (by omega) (by omega)])
 rw [g1, g2, show ((R.map (idK d)).length : Int).toNat = R.length by simp, List.take_length]
theorem Align_both {d : Doc} (hf : fits d) (hck : page_Check d = some 0) (h : Right d) {ids : List Str} (hi : (ids.length : Int) ≤ 9223372036854775807) (hs : selErr d.Nodes ids = 0) (how : Int) :
  ∃ r : Doc × Int, page_Align d ids how = some r ∧ (r.2 ≠ 0 → r.1 = ⟨[], []⟩) ∧
   ((∃ e m, e ≠ 0 ∧ ref_AlignBy d ids how = some (m, e) ∧ r = (⟨[], []⟩, e)) ∨
    (∃ hb m, (1 ≤ how ∧ how ≤ 6) ∧ geom_Hull ((rootL d.Nodes ids).map (bxD d)) = some (hb, 0) ∧ okB hb ∧ (∀ v ∈ (rootL d.Nodes ids).map (bxD d), hb.X ≤ v.X ∧ hb.Y ≤ v.Y ∧ v.X + v.W_ ≤ hb.X + hb.W_ ∧ v.Y + v.H ≤ hb.Y + hb.H) ∧ ref_AlignBy d ids how = some (m, 0) ∧ ref_MoveBy d m = some r ∧
     (r.2 = 0 → r.1 = docM d (rootL d.Nodes ids) (fun k => alignF hb how (bxD d k)) ∧ Right r.1 ∧ page_Check r.1 = some 0))) := by
 have hA := rootL_apart h ids
 have hRl := rootL_len (l := d.Nodes) (ids := ids) h.nl
 obtain ⟨hb, eh, u1, u2, u3⟩ := hull_both (l := (rootL d.Nodes ids).map (bxD d)) (box_okR h hA) (by simp; omega)
 have hv := hullOf_eq h hA hRl u1
 have hr := RootBoxes_eq h hi u2
 have hro := RootsOf_eq h hi
 unfold page_Align ref_AlignBy
 rw [bnd_eq, selected_eq hck h hi, if_pos hs, Option.bind_some, hr]
 simp only [decide_true, Bool.not_true, cond_false, Option.bind_some]
 rw [hv, Option.bind_some, In_eq, Option.bind_some, When_eq, Option.bind_some, First_eq (by simp), Option.bind_some, hro]
 simp only
 by_cases he : eh = 0
 case neg =>
  rw [decide_eq_false he]
  have e1 : firstErr [eh, if (!decide (1 ≤ how ∧ how ≤ 6)) = true then (1 : Int) else 0] = eh := by simp [he]
  rw [e1, decide_eq_false he]
  exact ⟨(⟨[], []⟩, eh), rfl, fun _ => rfl, .inl ⟨eh, GMap.nil, he, rfl, rfl⟩⟩
 subst he
 rw [decide_eq_true (rfl : (0 : Int) = 0)]
 simp only [Bool.not_true, cond_false]
 by_cases hw : 1 ≤ how ∧ how ≤ 6
 case neg =>
  have c1 : (decide (how < 1) || decide (6 < how)) = true := by simp; omega
  have e1 : firstErr [0, if (!decide (1 ≤ how ∧ how ≤ 6)) = true then (1 : Int) else 0] = 1 := by rw [decide_eq_false hw]; rfl
  rw [c1, e1]
  exact ⟨(⟨[], []⟩, 1), rfl, fun _ => rfl, .inl ⟨1, GMap.nil, by decide, rfl, rfl⟩⟩
 have c1 : (decide (how < 1) || decide (6 < how)) = false := by simp; omega
 have e1 : firstErr [0, if (!decide (1 ≤ how ∧ how ≤ 6)) = true then (1 : Int) else 0] = 0 := by rw [decide_eq_true hw]; rfl
 rw [c1, e1]
 simp only [cond_false, decide_true, Bool.not_true, bnd_eq, Option.bind_some]
 have hob := u3 rfl
 have hc := hull_has (box_okR h hA) (by simp; omega) u2
 rw [Align_steps h hA hRl hob hc how, Option.bind_some]
 have hid : (rootL d.Nodes ids).map (fun k => (gx d.Nodes k).Id) = (rootL d.Nodes ids).map (idK d) := rfl
 rw [hid, AlignBy_by h hA hRl hob hc how]
 obtain ⟨r, r1, r2, r3, r4⟩ := by_both hf h hA (by omega) (f := fun k => alignF hb how (bxD d k)) (fun k hk => by
  obtain ⟨j, hj, rfl⟩ := hA.isIn k hk
  obtain ⟨x1, x2, y1, y2, w1, w2, g1, g2⟩ := hob
  obtain ⟨p1, p2, p3, p4, p5, p6, p7, p8⟩ := (bxD_eq h hj).2.2
  obtain ⟨q1, q2, q3, q4⟩ := hc _ (List.mem_map.2 ⟨_, hk, rfl⟩)
  unfold alignF
  split
  ·
   simp only; omega
  split
  ·
   simp only; omega
  split
  ·
   simp only; omega
  split
  ·
   simp only; omega
  split
  ·
   simp only; omega
  ·
   simp only; omega)
 rw [r1, Option.bind_some]
 exact ⟨r, rfl, r4, .inr ⟨hb, _, hw, u1, hob, hc, rfl, r2 _ (foldSet_by h hA _), fun e => by rw [(r3 e).1]; exact ⟨rfl, (r3 e).2⟩⟩⟩
section
section
variable {α : Type}
theorem gx_app [Inhabited α] {U V : List α} {x : α} {k : Int} (hk : k = U.length) : gx (U ++ x :: V) k = x := by
 subst hk
 rw [gx_nat (by simp)]
 simp
theorem inR_app {U V : List α} {x : α} {k : Int} (hk : k = U.length) : inR (U ++ x :: V) k := ⟨by omega, by simp; omega⟩
theorem set_app {U V : List α} {x y : α} {k : Nat} (hk : k = U.length) : (U ++ x :: V).set k y = U ++ y :: V := by
 subst hk
 rw [List.set_append_right _ _ (Nat.le_refl _)]
 simp
theorem swap_app [Inhabited α] {U V : List α} {x y : α} {j : Int} (hj : j = U.length + 1) : gx (U ++ y :: x :: V) j = x ∧ gx (U ++ y :: x :: V) (j - 1) = y ∧ inR (U ++ y :: x :: V) j ∧ inR (U ++ y :: x :: V) (j - 1) ∧
  ((U ++ y :: x :: V).set j.toNat y).set (j - 1).toNat x = U ++ x :: y :: V ∧ ((U ++ y :: x :: V).set (j - 1).toNat x).set j.toNat y = U ++ x :: y :: V := by
 have e1 : U ++ y :: x :: V = (U ++ [y]) ++ x :: V := by simp
 have e2 : j.toNat = (U ++ [y]).length := by simp; omega
 have e3 : (j - 1).toNat = U.length := by omega
 refine ⟨by rw [e1]; exact gx_app (by simp; omega), gx_app (by omega), ⟨by omega, by simp; omega⟩, ⟨by omega, by simp; omega⟩, ?_, ?_⟩
 ·
  rw [e1, set_app e2]
  have : (U ++ [y]) ++ y :: V = U ++ y :: y :: V := by simp
  rw [this, set_app e3]
 ·
  rw [set_app e3]
  have : U ++ x :: x :: V = (U ++ [x]) ++ x :: V := by simp
  rw [this, set_app (by simp; omega)]; simp
theorem gx_part [Inhabited α] {P A R : List α} {i : Nat} (hi : i < A.length) {k : Int} (hk : k = P.length + i) : gx (P ++ (A ++ R)) k = A[i] := by
 subst hk
 rw [show ((P.length : Int) + (i : Int)) = ((P.length + i : Nat) : Int) by omega, gx_nat (by simp; omega)]
 rw [List.getElem_append_right (by omega), List.getElem_append_left (by omega)]
 simp
theorem inR_part {P A R : List α} {i : Nat} (hi : i < A.length) {k : Int} (hk : k = P.length + i) : inR (P ++ (A ++ R)) k := ⟨by omega, by simp; omega⟩
theorem cut {A : List α} {n : Nat} (hn : n ≤ A.length) : ∃ A1 A2, A = A1 ++ A2 ∧ A1.length = n := ⟨A.take n, A.drop n, (List.take_append_drop n A).symm, by simp; omega⟩
end
theorem bsearch {body : Int × Int → Option (Step (Int × Int) Int)} (p : Nat → Bool) {lo hi : Nat} (hlh : lo ≤ hi)
  (hb : ∀ i j : Nat, lo ≤ i → i < j → j ≤ hi → body ((i : Int), (j : Int)) = some (if p ((i + j) / 2) = true then .again ((((i + j) / 2 + 1 : Nat) : Int), (j : Int)) else .again ((i : Int), (((i + j) / 2 : Nat) : Int))))
  (hd : ∀ i : Nat, lo ≤ i → i ≤ hi → body ((i : Int), (i : Int)) = some (.done (i : Int))) (mono : ∀ h k, lo ≤ h → h ≤ k → k < hi → p k = true → p h = true) :
  ∃ s, lo ≤ s ∧ s ≤ hi ∧ (∀ h, lo ≤ h → h < s → p h = true) ∧ (∀ h, s ≤ h → h < hi → p h = false) ∧ loop body ((lo : Int), (hi : Int)) = some (s : Int) := by
 obtain ⟨e, h1, s, h2⟩ := loop_inv (body := body) (s0 := ((lo : Int), (hi : Int))) (fun st => ∃ i j : Nat, st = ((i : Int), (j : Int)) ∧ lo ≤ i ∧ i ≤ j ∧ j ≤ hi ∧ (∀ h, lo ≤ h → h < i → p h = true) ∧ ∀ h, j ≤ h → h < hi → p h = false)
  (fun st => (st.2 - st.1).toNat) (fun e => ∃ s : Nat, e = (s : Int) ∧ lo ≤ s ∧ s ≤ hi ∧ (∀ h, lo ≤ h → h < s → p h = true) ∧ ∀ h, s ≤ h → h < hi → p h = false)
  ⟨lo, hi, rfl, Nat.le_refl _, hlh, Nat.le_refl _, fun h a b => by omega, fun h a b => by omega⟩ (fun st hI => by
  obtain ⟨i, j, rfl, i1, i2, i3, i4, i5⟩ := hI
  by_cases c : i < j
  ·
   left
   rw [hb i j i1 c i3]
   cases hp : p ((i + j) / 2) with
   | true =>
    refine ⟨_, by simp, ⟨(i + j) / 2 + 1, j, rfl, by omega, by omega, i3, fun h a b => ?_, i5⟩, by simp only; omega⟩
    exact mono h ((i + j) / 2) a (by omega) (by omega) hp
   | false =>
    refine ⟨_, by simp, ⟨i, (i + j) / 2, rfl, i1, by omega, by omega, i4, fun h a b => ?_⟩, by simp only; omega⟩
    cases hh : p h with
    | false => rfl
    | true =>
     have := mono ((i + j) / 2) h (by omega) a b hh
     rw [hp] at this; cases this
  ·
   right
   have : i = j := by omega
   subst this
   exact ⟨_, hd i i1 i3, i, rfl, i1, i3, i4, i5⟩)
 obtain ⟨rfl, h3, h4, h5, h6⟩ := h2
 exact ⟨s, h3, h4, h5, h6, h1⟩
theorem half_eq {i j : Nat} (h : i + j ≤ 4611686018427387904) : W ((KI.of .u64 (W ((i : Int) + (j : Int)))).shr 1).n = (((i + j) / 2 : Nat) : Int) := by
 rw [Wk (n := (i : Int) + j) (by omega) (by omega)]
 have e1 : (KI.of .u64 ((i : Int) + (j : Int))).n = (i : Int) + j := by
  show IntKind.wrap .u64 ((i : Int) + j) = _
  rw [show (i : Int) + j = ((i + j : Nat) : Int) by omega]
  unfold IntKind.wrap
  have hm : (((i + j : Nat) : Int) % 2 ^ IntKind.u64.bits) = ((i + j : Nat) : Int) := Int.emod_eq_of_lt (by omega) (by show _ < (2 : Int) ^ 64; omega)
  rw [hm]
  simp [IntKind.signed]
 have e2 : ((KI.of .u64 ((i : Int) + (j : Int))).shr 1).n = (((i + j) / 2 : Nat) : Int) := by
  show ((KI.of .u64 ((i : Int) + (j : Int))).n).fdiv (2 ^ min (1 : Int).toNat IntKind.u64.bits) = _
  rw [e1]
  have : ((2 : Int) ^ min (1 : Int).toNat IntKind.u64.bits) = 2 := by decide
  rw [this, Int.fdiv_eq_ediv_of_nonneg _ (by omega)]
  omega
 rw [e2, Wk (by omega) (by omega)]
end
section
section
variable {α : Type}
structure Swo (S : α → Prop) (lt : α → α → Bool) (f : α → α → Option Int) : Prop where
 cmp : ∀ x y, S x → S y → ∃ c, f x y = some c ∧ decide (c < 0) = lt x y
 asym : ∀ x y, S x → S y → lt x y = true → lt y x = false
 ntr : ∀ x y z, S x → S y → S z → lt x y = false → lt y z = false → lt x z = false
def srt (lt : α → α → Bool) (l : List α) : Prop := l.Pairwise (fun x y => lt y x = false)
def kept2 (lt : α → α → Bool) (tb : α → α → Prop) (l : List α) : Prop := l.Pairwise (fun x y => tb x y ∨ lt x y = true)
structure Sd (lt : α → α → Bool) (L M : List α) : Prop where
 perm : M.Perm L
 srtd : srt lt M
 kept : ∀ tb : α → α → Prop, kept2 lt tb L → kept2 lt tb M
variable {S : α → Prop} {lt : α → α → Bool} {f : α → α → Option Int}
theorem srt_one (x : α) : srt lt [x] := by simp [srt]
theorem srt_nil : srt lt ([] : List α) := by simp [srt]
theorem Sd.refl {L : List α} (h : srt lt L) : Sd lt L L := ⟨List.Perm.refl _, h, fun _ h => h⟩
theorem Sd.len {L M : List α} (h : Sd lt L M) : M.length = L.length := h.perm.length_eq
theorem Sd.mem {L M : List α} (h : Sd lt L M) {x : α} : x ∈ M ↔ x ∈ L := h.perm.mem_iff
theorem Swo.irr (hw : Swo S lt f) {x : α} (hx : S x) : lt x x = false := by
 cases h : lt x x with
 | false => rfl
 | true => have := hw.asym x x hx hx h; rw [h] at this; cases this
theorem Swo.tr (hw : Swo S lt f) {x y z : α} (hx : S x) (hy : S y) (hz : S z) (h1 : lt x y = true) (h2 : lt z y = false) : lt x z = true := by
 cases h : lt x z with
 | true => rfl
 | false => have := hw.ntr x z y hx hz hy h h2; rw [h1] at this; cases this
theorem Sd.insert (hw : Swo S lt f) {L1 L2 : List α} {x : α} (hS : ∀ y ∈ L1 ++ L2, S y) (hx : S x) (hs : srt lt (L1 ++ L2)) (h1 : ∀ y ∈ L1, lt x y = false) (h2 : ∀ y ∈ L2, lt x y = true) : Sd lt (L1 ++ L2 ++ [x]) (L1 ++ x :: L2) := by
 refine ⟨?_, ?_, fun tb h => ?_⟩
 ·
  rw [List.append_assoc]
  exact (List.perm_append_left_iff L1).2 (List.perm_append_singleton x L2).symm
 ·
  unfold srt at *
  rw [List.pairwise_append] at hs ⊢
  refine ⟨hs.1, List.pairwise_cons.2 ⟨fun y hy => hw.asym x y hx (hS y (List.mem_append_right _ hy)) (h2 y hy), hs.2.1⟩, fun a ha b hb => ?_⟩
  rcases List.mem_cons.1 hb with rfl | hb
  ·
   exact h1 a ha
  ·
   exact hs.2.2 a ha b hb
 ·
  unfold kept2 at *
  rw [List.append_assoc, List.pairwise_append] at h
  rw [List.pairwise_append]
  obtain ⟨k1, k2, k3⟩ := h
  rw [List.pairwise_append] at k2
  refine ⟨k1, List.pairwise_cons.2 ⟨fun y hy => .inr (h2 y hy), k2.1⟩, fun a ha b hb => ?_⟩
  rcases List.mem_cons.1 hb with rfl | hb
  ·
   exact k3 a ha b (by simp)
  ·
   exact k3 a ha b (by simp [hb])
theorem Sd.insertF (hw : Swo S lt f) {L1 L2 : List α} {x : α} (hS : ∀ y ∈ L1 ++ L2, S y) (hx : S x) (hs : srt lt (L1 ++ L2)) (h1 : ∀ y ∈ L1, lt y x = true) (h2 : ∀ y ∈ L2, lt y x = false) : Sd lt (x :: (L1 ++ L2)) (L1 ++ x :: L2) := by
 refine ⟨?_, ?_, fun tb h => ?_⟩
 ·
  exact List.perm_middle
 ·
  unfold srt at *
  rw [List.pairwise_append] at hs ⊢
  refine ⟨hs.1, List.pairwise_cons.2 ⟨fun y hy => h2 y hy, hs.2.1⟩, fun a ha b hb => ?_⟩
  rcases List.mem_cons.1 hb with rfl | hb
  ·
   exact hw.asym a b (hS a (List.mem_append_left _ ha)) hx (h1 a ha)
  ·
   exact hs.2.2 a ha b hb
 ·
  unfold kept2 at *
  rw [List.pairwise_cons, List.pairwise_append] at h
  obtain ⟨k0, k1, k2, k3⟩ := h
  rw [List.pairwise_append]
  refine ⟨k1, List.pairwise_cons.2 ⟨fun y hy => k0 y (List.mem_append_right _ hy), k2⟩, fun a ha b hb => ?_⟩
  rcases List.mem_cons.1 hb with rfl | hb
  ·
   exact .inr (h1 a ha)
  ·
   exact k3 a ha b hb
theorem Sd.halves (hw : Swo S lt f) {A1 A2 B1 B2 M1 M2 : List α} (hS : ∀ y ∈ (A1 ++ A2) ++ (B1 ++ B2), S y) (hA : srt lt (A1 ++ A2)) (hB : srt lt (B1 ++ B2))
  (hi : ∀ x ∈ A1, ∀ y ∈ B2, lt y x = false) (hii : ∀ y ∈ B1, ∀ x ∈ A2, lt y x = true) (h1 : Sd lt (A1 ++ B1) M1) (h2 : Sd lt (A2 ++ B2) M2) : Sd lt ((A1 ++ A2) ++ (B1 ++ B2)) (M1 ++ M2) := by
 refine ⟨?_, ?_, fun tb h => ?_⟩
 ·
  refine (h1.perm.append h2.perm).trans ?_
  have : (A1 ++ B1) ++ (A2 ++ B2) = A1 ++ (B1 ++ (A2 ++ B2)) := by simp
  rw [this]
  have : (A1 ++ A2) ++ (B1 ++ B2) = A1 ++ (A2 ++ (B1 ++ B2)) := by simp
  rw [this, List.perm_append_left_iff]
  have e1 : B1 ++ (A2 ++ B2) = (B1 ++ A2) ++ B2 := by simp
  have e2 : A2 ++ (B1 ++ B2) = (A2 ++ B1) ++ B2 := by simp
  rw [e1, e2, List.perm_append_right_iff]
  exact List.perm_append_comm
 ·
  unfold srt
  rw [List.pairwise_append]
  refine ⟨h1.srtd, h2.srtd, fun a ha b hb => ?_⟩
  unfold srt at hA hB
  rw [List.pairwise_append] at hA hB
  have sA2 : ∀ x ∈ A2, S x := fun x hx => hS x (by simp [hx])
  have sB1 : ∀ x ∈ B1, S x := fun x hx => hS x (by simp [hx])
  rcases List.mem_append.1 (h1.mem.1 ha) with ha | ha <;> rcases List.mem_append.1 (h2.mem.1 hb) with hb | hb
  ·
   exact hA.2.2 a ha b hb
  ·
   exact hi a ha b hb
  ·
   exact hw.asym a b (sB1 a ha) (sA2 b hb) (hii a ha b hb)
  ·
   exact hB.2.2 a ha b hb
 ·
  unfold kept2 at *
  have hp : (A1 ++ B1 ++ (A2 ++ B2)).Pairwise (fun x y => tb x y ∨ lt x y = true) := by
   simp only [List.pairwise_append, List.mem_append] at h ⊢
   obtain ⟨⟨k1, k2, k3⟩, ⟨k4, k5, k6⟩, k7⟩ := h
   refine ⟨⟨k1, k4, fun a ha b hb => k7 a (.inl ha) b (.inl hb)⟩, ⟨k2, k5, fun a ha b hb => k7 a (.inr ha) b (.inr hb)⟩, fun a ha b hb => ?_⟩
   rcases ha with ha | ha <;> rcases hb with hb | hb
   ·
    exact k3 a ha b hb
   ·
    exact k7 a (.inl ha) b (.inr hb)
   ·
    exact .inr (hii a ha b hb)
   ·
    exact k6 a ha b hb
  rw [List.pairwise_append] at hp
  rw [List.pairwise_append]
  exact ⟨h1.kept tb hp.1, h2.kept tb hp.2.1, fun a ha b hb => hp.2.2 a (h1.mem.1 ha) b (h2.mem.1 hb)⟩
theorem srt_left {A B : List α} (h : srt lt (A ++ B)) : srt lt A := by unfold srt at *; exact (List.pairwise_append.1 h).1
theorem srt_right {A B : List α} (h : srt lt (A ++ B)) : srt lt B := by unfold srt at *; exact (List.pairwise_append.1 h).2.1
structure Pk (lt : α → α → Bool) (L M : List α) : Prop where
 perm : M.Perm L
 kept : ∀ tb : α → α → Prop, kept2 lt tb L → kept2 lt tb M
theorem Sd.pk {L M : List α} (h : Sd lt L M) : Pk lt L M := ⟨h.perm, h.kept⟩
theorem Pk.refl (L : List α) : Pk lt L L := ⟨List.Perm.refl _, fun _ h => h⟩
theorem Pk.trans {L M N : List α} (h1 : Pk lt L M) (h2 : Pk lt M N) : Pk lt L N := ⟨h2.perm.trans h1.perm, fun tb h => h2.kept tb (h1.kept tb h)⟩
theorem Pk.sd {L M : List α} (h : Pk lt L M) (hs : srt lt M) : Sd lt L M := ⟨h.perm, hs, h.kept⟩
theorem Pk.mid {L M : List α} (h : Pk lt L M) (P Q : List α) : Pk lt (P ++ (L ++ Q)) (P ++ (M ++ Q)) := by
 refine ⟨(List.perm_append_left_iff P).2 (h.perm.append_right Q), fun tb hk => ?_⟩
 unfold kept2 at *
 simp only [List.pairwise_append, List.mem_append] at hk ⊢
 obtain ⟨k1, ⟨k2, k3, k4⟩, k5⟩ := hk
 refine ⟨k1, ⟨h.kept tb k2, k3, fun a ha b hb => k4 a (h.perm.mem_iff.1 ha) b hb⟩, fun a ha b hb => ?_⟩
 rcases hb with hb | hb
 ·
  exact k5 a ha b (.inl (h.perm.mem_iff.1 hb))
 ·
  exact k5 a ha b (.inr hb)
theorem Pk.len {L M : List α} (h : Pk lt L M) : M.length = L.length := h.perm.length_eq
theorem Pk.all {L M : List α} (h : Pk lt L M) (hS : ∀ x ∈ L, S x) : ∀ x ∈ M, S x := fun x hx => hS x (h.perm.mem_iff.1 hx)
inductive Bl (lt : α → α → Bool) (n : Nat) : List α → Prop
 | last {A : List α} : A.length ≤ n → srt lt A → Bl lt n A
 | more {A R : List α} : A.length = n → srt lt A → Bl lt n R → Bl lt n (A ++ R)
inductive BlF (lt : α → α → Bool) (n : Nat) : List α → Prop
 | nil : BlF lt n []
 | snoc {P M : List α} : BlF lt n P → M.length = n → srt lt M → BlF lt n (P ++ M)
theorem BlF.bl {n : Nat} {P : List α} (h : BlF lt n P) : ∀ {D : List α}, Bl lt n D → Bl lt n (P ++ D) := by
 induction h with
 | nil => intro D hD; simpa using hD
 | snoc _ h1 h2 ih => intro D hD; rw [List.append_assoc]; exact ih (.more h1 h2 hD)
theorem Bl.all {n : Nat} {D : List α} (h : Bl lt n D) (hn : D.length ≤ n) : srt lt D := by
 cases h with
 | last _ h => exact h
 | @more A R h1 h2 _ =>
  rw [List.length_append] at hn
  have : R = [] := List.length_eq_zero_iff.1 (by omega)
  rw [this, List.append_nil]; exact h2
theorem Bl.first {n : Nat} {D : List α} (h : Bl lt n D) (hn : n ≤ D.length) : ∃ A R, D = A ++ R ∧ A.length = n ∧ srt lt A ∧ Bl lt n R := by
 cases h with
 | last h1 h2 => exact ⟨D, [], by simp, by omega, h2, .last (by simp) srt_nil⟩
 | @more A R h1 h2 h3 => exact ⟨A, R, rfl, h1, h2, h3⟩
theorem sorted_one : ∀ {M N : List α} (R : α → α → Prop), (∀ x y, x ∈ M → y ∈ M → R x y → R y x → x = y) → M.Perm N → M.Pairwise R → N.Pairwise R → M = N
 | [], N, R, _, hp, _, _ => (List.Perm.nil_eq hp)
 | x :: M, N, R, ha, hp, h1, h2 => by
  cases N with
  | nil => exact absurd hp.length_eq (by simp)
  | cons y N =>
   have hxy : x = y := by
    have hx : x ∈ y :: N := hp.mem_iff.1 (by simp)
    have hy : y ∈ x :: M := hp.mem_iff.2 (by simp)
    rcases List.mem_cons.1 hx with e | hx
    ·
     exact e
    ·
     rcases List.mem_cons.1 hy with e | hy
     ·
      exact e.symm
     ·
      exact ha x y (by simp) (by simp [hy]) ((List.pairwise_cons.1 h1).1 y hy) ((List.pairwise_cons.1 h2).1 x hx)
   subst hxy
   rw [sorted_one R (fun a b h3 h4 => ha a b (by simp [h3]) (by simp [h4])) (List.Perm.cons_inv hp) (List.pairwise_cons.1 h1).2 (List.pairwise_cons.1 h2).2]
theorem Sd.one {L M N : List α} (tb : α → α → Prop) (htb : ∀ x y, tb x y → ¬ tb y x) (hL : kept2 lt tb L) (h1 : Sd lt L M) (h2 : Sd lt L N) : M = N := by
 refine sorted_one (fun x y => lt y x = false ∧ (tb x y ∨ lt x y = true)) (fun x y _ _ a b => ?_) (h1.perm.trans h2.perm.symm) ?_ ?_
 ·
  obtain ⟨a1, a2⟩ := a
  obtain ⟨b1, b2⟩ := b
  rcases a2 with a2 | a2
  ·
   rcases b2 with b2 | b2
   ·
    exact absurd b2 (htb x y a2)
   ·
    rw [a1] at b2; cases b2
  ·
   rw [b1] at a2; cases a2
 ·
  exact (h1.srtd.and (h1.kept tb hL)).imp (fun h => h)
 ·
  exact (h2.srtd.and (h2.kept tb hL)).imp (fun h => h)
end
end
end Go.DB
