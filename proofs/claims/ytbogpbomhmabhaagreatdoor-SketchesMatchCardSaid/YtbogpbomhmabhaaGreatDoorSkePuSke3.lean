/-
  Signs of a diagram: stretches are drawn into a grid.
-/
import Derived.Test.YtbogpbomhmabhaaGreatDoorSkePuSke2
set_option linter.unusedSimpArgs false
set_option linter.unusedVariables false
namespace Go.DB
open Go Go.RowKit

/-- A stretch comes into a cell. -/
def tch (L T w h : Int) (p : Point × Point) (i k : Nat) : Prop :=
  (min p.1.X p.2.X < L + k * w + w ∧ L + k * w ≤ max p.1.X p.2.X) ∧ min p.1.Y p.2.Y < T + i * h + h ∧ T + i * h ≤ max p.1.Y p.2.Y
instance (L T w h : Int) (p : Point × Point) (i k : Nat) : Decidable (tch L T w h p i k) := by unfold tch; infer_instance

theorem mul_bd {k C w : Nat} {W0 : Int} (hk : k ≤ C) (hC : C ≤ 200) (hw : 1 ≤ W0) (hw2 : W0 ≤ 20000) : 0 ≤ (k : Int) * W0 ∧ (k : Int) * W0 ≤ 4000000 := by
  have h1 : (k : Int) * W0 ≤ 200 * W0 := Int.mul_le_mul_of_nonneg_right (by omega) (by omega)
  exact ⟨Int.mul_nonneg (by omega) (by omega), by omega⟩
theorem mul_mono {k c : Nat} {w : Int} (h : k ≤ c) (hw : 1 ≤ w) : (k : Int) * w ≤ (c : Int) * w := Int.mul_le_mul_of_nonneg_right (by omega) (by omega)

section
variable {L T w h : Int} {R C : Nat} {j_4 : Int × Int × Int × Int × Bool}
/-- A row's cells are marked. -/
theorem sk_L5 (hL : -1000000 ≤ L ∧ L ≤ 1000000) (hw : 1 ≤ w ∧ w ≤ 20000) (hC : C ≤ 200) (hj : j_4.1 = L) {v6 : Point} (k0 i : Nat) (hi : i < R) (F : Nat → Nat → UInt8) (s46 : Int × List (List (KI .u8))) (hs : s46.1 = i) :
    loop (desk_Sketch_L5 v6 w j_4 s46 (C : Int)) ((k0 : Int), gdF R C F) = some (gdF R C (fun a c => if a = i ∧ k0 ≤ c ∧ L + c * w ≤ v6.X then 42 else F a c)) := by
  have key := loop_inv (body := desk_Sketch_L5 v6 w j_4 s46 (C : Int)) (s0 := ((k0 : Int), gdF R C F))
    (fun t => ∃ n : Nat, k0 ≤ n ∧ (∀ c : Nat, k0 ≤ c → c < n → L + c * w ≤ v6.X) ∧ t = ((n : Int), gdF R C (fun a c => if a = i ∧ k0 ≤ c ∧ c < n then 42 else F a c))) (fun t => C - t.1.toNat)
    (fun e => e = gdF R C (fun a c => if a = i ∧ k0 ≤ c ∧ L + c * w ≤ v6.X then 42 else F a c))
    ⟨k0, Nat.le_refl _, fun c h1 h2 => by omega, by
      congr 1
      exact gdF_congr fun a _ c _ => by rw [if_neg (by omega)]⟩ (fun t ⟨n, n1, n2, ht⟩ => by
      subst ht
      unfold desk_Sketch_L5
      simp only [hj, hs]
      by_cases hn : n < C
      · have hm := mul_bd (w := 0) (Nat.le_of_lt hn) hC hw.1 hw.2
        rw [decide_eq_true (by omega), Bool.true_and, Wk (n := (n : Int) * w) (by omega) (by omega), Wk (n := L + (n : Int) * w) (by omega) (by omega)]
        by_cases hx : L + (n : Int) * w ≤ v6.X
        · left
          rw [decide_eq_true hx, cond_true, need_of ⟨by omega, by rw [gdF_len]; omega⟩, need_of ⟨by omega, by rw [gdF_len]; omega⟩, gdF_at hi, need_of ⟨by omega, by rw [rwF_len]; omega⟩, bnd_eq, Wk (n := (n : Int) + 1) (by omega) (by omega), bnd_eq]
          refine ⟨_, rfl, ⟨n + 1, by omega, fun c h1 h2 => ?_, ?_⟩, by simp only; omega⟩
          · rcases Nat.lt_or_eq_of_le (Nat.lt_succ_iff.1 h2) with h3 | h3
            · exact n2 c h1 h3
            · subst h3; exact hx
          · congr 1
            have e1 : ((n : Int)).toNat = n := by omega
            have e2 : ((i : Int)).toNat = i := by omega
            rw [e1, e2]
            have := rwF_set (C := C) (f := fun c => if i = i ∧ k0 ≤ c ∧ c < n then 42 else F i c) (k := n) 42
            rw [show (((42 : UInt8).toNat : Int)) = 42 from rfl] at this
            rw [this, gdF_set]
            refine gdF_congr fun a _ c _ => ?_
            by_cases ha : a = i
            · subst ha
              rw [if_pos rfl]
              by_cases hc : c = n
              · subst hc; rw [if_pos rfl, if_pos ⟨rfl, n1, by omega⟩]
              · rw [if_neg hc]
                by_cases h3 : k0 ≤ c ∧ c < n
                · rw [if_pos ⟨rfl, h3⟩, if_pos ⟨rfl, h3.1, by omega⟩]
                · rw [if_neg (fun hh => h3 hh.2), if_neg (fun hh => h3 ⟨hh.2.1, by omega⟩)]
            · rw [if_neg ha, if_neg (fun hh => ha hh.1), if_neg (fun hh => ha hh.1)]
        · right
          rw [decide_eq_false hx, cond_false]
          refine ⟨_, rfl, gdF_congr fun a _ c _ => ?_⟩
          by_cases h3 : a = i ∧ k0 ≤ c ∧ c < n
          · rw [if_pos h3, if_pos ⟨h3.1, h3.2.1, n2 c h3.2.1 h3.2.2⟩]
          · rw [if_neg h3]
            refine (if_neg (fun hh => h3 ⟨hh.1, hh.2.1, ?_⟩)).symm
            apply Classical.byContradiction; intro hc
            have := mul_mono (k := n) (c := c) (w := w) (by omega) hw.1
            omega
      · right
        rw [decide_eq_false (by omega), Bool.false_and, cond_false]
        refine ⟨_, rfl, gdF_congr fun a _ c hc => ?_⟩
        by_cases h3 : a = i ∧ k0 ≤ c ∧ c < n
        · rw [if_pos h3, if_pos ⟨h3.1, h3.2.1, n2 c h3.2.1 h3.2.2⟩]
        · rw [if_neg h3]
          exact (if_neg (fun hh => h3 ⟨hh.1, hh.2.1, by omega⟩)).symm)
  obtain ⟨e, e1, e2⟩ := key
  rw [e1, e2]
theorem toNat_max {a : Int} {c : Nat} : (max a 0).toNat ≤ c ↔ a ≤ c := by omega
/-- All cells of a stretch are marked. -/
theorem sk_L4 (hL : -1000000 ≤ L ∧ L ≤ 1000000) (hT : -1000000 ≤ T ∧ T ≤ 1000000) (hw : 1 ≤ w ∧ w ≤ 20000) (hh : 1 ≤ h ∧ h ≤ 20000) (hC : C ≤ 200) (hR : R ≤ 200) (hj : j_4.1 = L) (hj2 : j_4.2.1 = T) {v5 v6 : Point} (h5 : okQ v5) (i0 : Nat) (F : Nat → Nat → UInt8) :
    loop (desk_Sketch_L4 h v5 v6 w j_4 (R : Int) (C : Int)) ((i0 : Int), gdF R C F) = some (gdF R C (fun a c => if (i0 ≤ a ∧ T + a * h ≤ v6.Y) ∧ (v5.X < L + c * w + w ∧ L + c * w ≤ v6.X) then 42 else F a c)) := by
  obtain ⟨q1, q2, q3, q4⟩ := h5
  have key := loop_inv (body := desk_Sketch_L4 h v5 v6 w j_4 (R : Int) (C : Int)) (s0 := ((i0 : Int), gdF R C F))
    (fun t => ∃ n : Nat, i0 ≤ n ∧ (∀ a : Nat, i0 ≤ a → a < n → T + a * h ≤ v6.Y) ∧ t = ((n : Int), gdF R C (fun a c => if (i0 ≤ a ∧ a < n) ∧ (v5.X < L + c * w + w ∧ L + c * w ≤ v6.X) then 42 else F a c))) (fun t => R - t.1.toNat)
    (fun e => e = gdF R C (fun a c => if (i0 ≤ a ∧ T + a * h ≤ v6.Y) ∧ (v5.X < L + c * w + w ∧ L + c * w ≤ v6.X) then 42 else F a c))
    ⟨i0, Nat.le_refl _, fun c h1 h2 => by omega, by
      congr 1
      exact gdF_congr fun a _ c _ => by rw [if_neg (by omega)]⟩ (fun t ⟨n, n1, n2, ht⟩ => by
      subst ht
      unfold desk_Sketch_L4
      simp only [hj, hj2]
      by_cases hn : n < R
      · have hm := mul_bd (w := 0) (Nat.le_of_lt hn) hR hh.1 hh.2
        rw [decide_eq_true (by omega), Bool.true_and, Wk (n := (n : Int) * h) (by omega) (by omega), Wk (n := T + (n : Int) * h) (by omega) (by omega)]
        by_cases hx : T + (n : Int) * h ≤ v6.Y
        · left
          rw [decide_eq_true hx, cond_true, Wk (n := v5.X - L) (by omega) (by omega), sk_floor hw.1 (by omega) (by omega) (by omega), Option.bind_some, bnd_eq]
          have e0 : max ((v5.X - L) / w) 0 = (((max ((v5.X - L) / w) 0).toNat : Nat) : Int) := by omega
          rw [e0, sk_L5 hL hw hC hj _ n hn _ _ rfl, Option.bind_some, Wk (n := (n : Int) + 1) (by omega) (by omega), bnd_eq]
          refine ⟨_, rfl, ⟨n + 1, by omega, fun c h1 h2 => ?_, ?_⟩, by simp only; omega⟩
          · rcases Nat.lt_or_eq_of_le (Nat.lt_succ_iff.1 h2) with h3 | h3
            · exact n2 c h1 h3
            · subst h3; exact hx
          · congr 1
            refine gdF_congr fun a _ c _ => ?_
            have hc : (max ((v5.X - L) / w) 0).toNat ≤ c ↔ v5.X < L + c * w + w := by
              rw [toNat_max, div_le_iff hw.1]; omega
            by_cases hX : v5.X < L + c * w + w ∧ L + c * w ≤ v6.X
            · by_cases ha : a = n
              · subst ha
                rw [if_pos ⟨rfl, hc.2 hX.1, hX.2⟩, if_pos ⟨⟨n1, by omega⟩, hX⟩]
              · rw [if_neg (fun e => ha e.1)]
                by_cases h3 : i0 ≤ a ∧ a < n
                · rw [if_pos ⟨h3, hX⟩, if_pos ⟨⟨h3.1, by omega⟩, hX⟩]
                · rw [if_neg (fun e => h3 e.1), if_neg (fun e => h3 ⟨e.1.1, by omega⟩)]
            · rw [if_neg (fun e => hX ⟨hc.1 e.2.1, e.2.2⟩), if_neg (fun e => hX e.2), if_neg (fun e => hX e.2)]
        · right
          rw [decide_eq_false hx, cond_false]
          refine ⟨_, rfl, gdF_congr fun a _ c _ => ?_⟩
          by_cases h3 : i0 ≤ a ∧ a < n
          · have e : (i0 ≤ a ∧ T + a * h ≤ v6.Y) := ⟨h3.1, n2 a h3.1 h3.2⟩
            simp only [h3, e, and_self, true_and]
          · have e : ¬ (i0 ≤ a ∧ T + a * h ≤ v6.Y) := fun e => h3 ⟨e.1, by
              apply Classical.byContradiction; intro hc
              have := mul_mono (k := n) (c := a) (w := h) (by omega) hh.1
              omega⟩
            rw [if_neg (fun x => h3 x.1), if_neg (fun x => e x.1)]
      · right
        rw [decide_eq_false (by omega), Bool.false_and, cond_false]
        refine ⟨_, rfl, gdF_congr fun a ha c _ => ?_⟩
        by_cases h3 : i0 ≤ a ∧ a < n
        · have e : (i0 ≤ a ∧ T + a * h ≤ v6.Y) := ⟨h3.1, n2 a h3.1 h3.2⟩
          simp only [h3, e, and_self, true_and]
        · have e : ¬ (i0 ≤ a ∧ T + a * h ≤ v6.Y) := fun e => h3 ⟨e.1, by omega⟩
          rw [if_neg (fun x => h3 x.1), if_neg (fun x => e x.1)])
  obtain ⟨e, e1, e2⟩ := key
  rw [e1, e2]
theorem sk_L3 (hL : -1000000 ≤ L ∧ L ≤ 1000000) (hT : -1000000 ≤ T ∧ T ≤ 1000000) (hw : 1 ≤ w ∧ w ≤ 20000) (hh : 1 ≤ h ∧ h ≤ 20000) (hC : C ≤ 200) (hR : R ≤ 200) (hj : j_4.1 = L) (hj2 : j_4.2.1 = T) {ps : List (Point × Point)} (hps : ∀ p ∈ ps, okQ p.1 ∧ okQ p.2) (hpl : ps.length ≤ 60000) :
    rfor (((ps.map toA).length : Nat) : Int) (desk_Sketch_L3 h (ps.map toA) w j_4 (R : Int) (C : Int)) (gdF R C (fun _ _ => 46)) = some (gdF R C (fun a c => if ∃ p ∈ ps, tch L T w h p a c then 42 else 46)) := by
  obtain ⟨s, s1, s2⟩ := rfor_inv (n := (((ps.map toA).length : Nat) : Int)) (step := desk_Sketch_L3 h (ps.map toA) w j_4 (R : Int) (C : Int)) (s0 := gdF R C (fun _ _ => 46))
    (fun n s => s = gdF R C (fun a c => if ∃ p ∈ ps.take n, tch L T w h p a c then 42 else 46)) (by simp; omega) (by
      refine gdF_congr fun a _ c _ => ?_
      rw [if_neg (by simp)]) (fun n s hn hs => by
      have hn' : n < ps.length := by simpa using hn
      obtain ⟨p1, p2⟩ := hps ps[n] (List.getElem_mem hn')
      obtain ⟨x1, x2, x3, x4⟩ := p1
      obtain ⟨y1, y2, y3, y4⟩ := p2
      unfold desk_Sketch_L3
      rw [need_of ⟨by omega, hn⟩, bnd_eq, gx_nat (by simpa using hn')]
      have ea : gx ((ps.map toA)[n]'(by simpa using hn')).l 0 = ps[n].1 := by simp [toA, gx]
      have eb : gx ((ps.map toA)[n]'(by simpa using hn')).l 1 = ps[n].2 := by simp [toA, gx]
      simp only [bnd_eq]
      rw [ea, eb, hj2, Wk (n := min ps[n].1.Y ps[n].2.Y - T) (by omega) (by omega), sk_floor hh.1 (by omega) (by omega) (by omega), Option.bind_some]
      have e0 : max ((min ps[n].1.Y ps[n].2.Y - T) / h) 0 = (((max ((min ps[n].1.Y ps[n].2.Y - T) / h) 0).toNat : Nat) : Int) := by omega
      rw [e0, hs, sk_L4 hL hT hw hh hC hR hj hj2 (by unfold okQ; simp only; omega)]
      refine ⟨_, rfl, gdF_congr fun a _ c _ => ?_⟩
      have ha : (max ((min ps[n].1.Y ps[n].2.Y - T) / h) 0).toNat ≤ a ↔ min ps[n].1.Y ps[n].2.Y < T + a * h + h := by
        rw [toNat_max, div_le_iff hh.1]; omega
      have ht : ((max ((min ps[n].1.Y ps[n].2.Y - T) / h) 0).toNat ≤ a ∧ T + a * h ≤ max ps[n].1.Y ps[n].2.Y) ∧ (min ps[n].1.X ps[n].2.X < L + c * w + w ∧ L + c * w ≤ max ps[n].1.X ps[n].2.X) ↔ tch L T w h ps[n] a c := by
        unfold tch
        rw [ha]
        exact ⟨fun ⟨a, b⟩ => ⟨b, a⟩, fun ⟨a, b⟩ => ⟨b, a⟩⟩
      simp only [ht]
      rw [List.take_succ_eq_append_getElem hn']
      by_cases h1 : tch L T w h ps[n] a c
      · rw [if_pos h1, if_pos ⟨ps[n], List.mem_append_right _ (List.mem_singleton_self _), h1⟩]
      · rw [if_neg h1]
        by_cases h2 : ∃ p ∈ ps.take n, tch L T w h p a c
        · obtain ⟨p, hp, hp2⟩ := h2
          rw [if_pos ⟨p, hp, hp2⟩, if_pos ⟨p, List.mem_append_left _ hp, hp2⟩]
        · rw [if_neg h2, if_neg]
          rintro ⟨p, hp, hp2⟩
          rcases List.mem_append.1 hp with hp | hp
          · exact h2 ⟨p, hp, hp2⟩
          · rw [List.mem_singleton] at hp; subst hp; exact h1 hp2)
  rw [s1, s2]
  have en : ((((ps.map toA).length : Nat) : Int)).toNat = ps.length := by simp
  rw [en, List.take_length]
end
end Go.DB
