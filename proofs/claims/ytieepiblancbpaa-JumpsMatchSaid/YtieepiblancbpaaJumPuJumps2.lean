/-
  The rails of a path, and the jumps of all paths.
-/
import Derived.Test.YtieepiblancbpaaJumPuJumps1
import Derived.Test.YtieepiblancbpaaJumPuWay
set_option linter.unusedSimpArgs false
set_option linter.unusedVariables false
namespace Go.DB
open Go Go.RowKit

theorem railO : Sort.SWO (Proofs.ltOf sortC_Geom_rail) := by
  have h : ∀ x y, Proofs.ltOf sortC_Geom_rail x y = decide (x.1.at_ < y.1.at_) := fun ⟨x, hx⟩ ⟨y, hy⟩ => by
    unfold Proofs.ltOf sortC_Geom_rail sortQ_Geom_rail at *
    simp only
    rw [Wk (by omega) (by omega)]
    simp only [decide_eq_decide]; omega
  refine ⟨fun x => ?_, fun x y z h1 h2 => ?_, fun x y z h1 h2 => ?_⟩ <;> simp only [h, decide_eq_true_eq, decide_eq_false_iff_not] at * <;> omega

/-- Rails that are sorted. -/
theorem SortFunc_rail {l : List Geom_rail} (hl : l.length ≤ 1073741824) (hq : ∀ r ∈ l, -1000000 ≤ r.at_ ∧ r.at_ ≤ 1000000) :
    ∃ m, slices_SortFunc_rail l = some m ∧ m.length = l.length ∧ m.Pairwise (fun a b => a.at_ ≤ b.at_) ∧ ∀ r, r ∈ m ↔ r ∈ l := by
  unfold slices_SortFunc_rail
  rw [need_of ⟨by omega, hq⟩]
  obtain ⟨h1, h2⟩ := sortF_holds (l := l) railO hq
  refine ⟨_, rfl, h1.length_eq, ?_, fun r => h1.mem_iff⟩
  rw [List.pairwise_iff_getElem]
  intro i j hi hj hij
  have q1 := hq _ (h1.mem_iff.1 (List.getElem_mem hi))
  have q2 := hq _ (h1.mem_iff.1 (List.getElem_mem hj))
  have key : ∀ x y : Int, (-1000000 ≤ x ∧ x ≤ 1000000) → (-1000000 ≤ y ∧ y ≤ 1000000) → ¬ W (x - y) < 0 → y ≤ x := fun x y hx hy h => by
    rw [Wk (by omega) (by omega)] at h
    omega
  exact key _ _ q2 q1 (h2 i j hij hj q1 q2)

def acrB (l : List Point) (i : Nat) : Prop := (gx l ((i : Int) - 1)).Y = (gx l (i : Int)).Y
instance (l : List Point) (i : Nat) : Decidable (acrB l i) := by unfold acrB; infer_instance
/-- The stretch that ends at i, as a rail. -/
def rlI (l : List Point) (i : Nat) : Geom_rail :=
  if acrB l i then ⟨(gx l ((i : Int) - 1)).Y, min (gx l ((i : Int) - 1)).X (gx l (i : Int)).X, max (gx l ((i : Int) - 1)).X (gx l (i : Int)).X, lenUpto l i, decide ((gx l (i : Int)).X < (gx l ((i : Int) - 1)).X)⟩
  else ⟨(gx l ((i : Int) - 1)).X, min (gx l ((i : Int) - 1)).Y (gx l (i : Int)).Y, max (gx l ((i : Int) - 1)).Y (gx l (i : Int)).Y, lenUpto l i, decide ((gx l (i : Int)).Y < (gx l ((i : Int) - 1)).Y)⟩
theorem rlI_ok {l : List Point} (h : pathErr l = 0) {i : Nat} (h1 : 1 ≤ i) (h2 : i < l.length) : okR (rlI l i) := by
  obtain ⟨p1, p2, _⟩ := stretch h h1 h2
  have hb := lenUpto_bd (pathErr_zero.1 h).1 i (by omega)
  have hl := (ptsErr_zero.1 (pathErr_zero.1 h).1).1
  unfold okP at p1 p2
  unfold rlI okR
  split <;> simp only <;> omega

theorem rails_eq {l : List Point} (h : pathErr l = 0) : ∃ A D, geom_rails l = some (A, D) ∧ A.length ≤ 1000 ∧ D.length ≤ 1000 ∧ A.Pairwise (fun a b => a.at_ ≤ b.at_) ∧ D.Pairwise (fun a b => a.at_ ≤ b.at_) ∧
    (∀ r, r ∈ A ↔ ∃ i, 1 ≤ i ∧ i < l.length ∧ acrB l i ∧ r = rlI l i) ∧ (∀ r, r ∈ D ↔ ∃ i, 1 ≤ i ∧ i < l.length ∧ ¬ acrB l i ∧ r = rlI l i) := by
  have hp := (pathErr_zero.1 h).1
  have hl := (ptsErr_zero.1 hp).1
  have hl2 := (isPath_iff.1 (pathErr_zero.1 h).2).1
  unfold geom_rails
  obtain ⟨e, he, e1, e2, e3, e4⟩ := loop_inv (body := geom_rails_L1 l) (s0 := (([] : List Geom_rail), ([] : List Geom_rail), 0, 1))
    (fun s => ∃ i : Nat, s.2.2.2 = i ∧ 1 ≤ i ∧ i ≤ l.length ∧ s.2.2.1 = lenUpto l i ∧ s.1.length ≤ i ∧ s.2.1.length ≤ i ∧ (∀ r, r ∈ s.1 ↔ ∃ j, 1 ≤ j ∧ j < i ∧ acrB l j ∧ r = rlI l j) ∧ (∀ r, r ∈ s.2.1 ↔ ∃ j, 1 ≤ j ∧ j < i ∧ ¬ acrB l j ∧ r = rlI l j))
    (fun s => ((l.length : Int) - s.2.2.2).toNat)
    (fun e => e.1.length ≤ 1000 ∧ e.2.length ≤ 1000 ∧ (∀ r, r ∈ e.1 ↔ ∃ j, 1 ≤ j ∧ j < l.length ∧ acrB l j ∧ r = rlI l j) ∧ (∀ r, r ∈ e.2 ↔ ∃ j, 1 ≤ j ∧ j < l.length ∧ ¬ acrB l j ∧ r = rlI l j))
    ⟨1, rfl, by omega, by omega, by simp [lenUpto], by simp, by simp, fun r => ⟨fun h => by simp at h, fun ⟨j, a, b, _⟩ => by omega⟩, fun r => ⟨fun h => by simp at h, fun ⟨j, a, b, _⟩ => by omega⟩⟩
    (fun s hs => by
      obtain ⟨i, i1, i2, i3, i4, i5, i6, i7, i8⟩ := hs
      obtain ⟨sa, sd, al, k⟩ := s
      simp only at i1 i4 i5 i6 i7 i8
      subst i1 i4
      unfold geom_rails_L1
      simp only
      by_cases c : i < l.length
      · left
        obtain ⟨p1, p2, _⟩ := stretch h i2 c
        have hb := lenUpto_bd hp i i3
        have hf := farI_bd p1 p2
        rw [decide_eq_true (p := (i : Int) < (l.length : Int)) (by omega), cond_true, Wk (n := (i : Int) - 1) (by omega) (by omega), need_of ⟨by omega, by omega⟩, bnd_eq, need_of ⟨by omega, by omega⟩, bnd_eq, apart_eq p1 p2]
        by_cases d : acrB l i
        · have d' : (gx l ((i : Int) - 1)).Y = (gx l (i : Int)).Y := d
          rw [decide_eq_true d', cond_true, need_of (by rw [room_iff]; simp; omega), Option.bind_some, Option.bind_some, bnd_eq, bnd_eq, Wk (n := lenUpto l i + _) (by omega) (by omega), Wk (by omega) (by omega)]
          refine ⟨_, rfl, ⟨i + 1, by simp, by omega, by omega, (lenUpto_next i2).symm, by simp; omega, by simp only; omega, fun r => ?_, fun r => ?_⟩, by simp only; omega⟩
          · simp only
            rw [List.mem_append, i7, List.mem_singleton]
            have hr : (⟨(gx l ((i : Int) - 1)).Y, min (gx l ((i : Int) - 1)).X (gx l (i : Int)).X, max (gx l ((i : Int) - 1)).X (gx l (i : Int)).X, lenUpto l i, decide ((gx l (i : Int)).X < (gx l ((i : Int) - 1)).X)⟩ : Geom_rail) = rlI l i := by
              unfold rlI; rw [if_pos d]
            rw [hr]
            constructor
            · rintro (⟨j, a, b, c⟩ | e)
              · exact ⟨j, a, by omega, c⟩
              · exact ⟨i, i2, by omega, d, e⟩
            · rintro ⟨j, a, b, c, e⟩
              by_cases z : j = i
              · subst z; exact .inr e
              · exact .inl ⟨j, a, by omega, c, e⟩
          · simp only
            rw [i8]
            constructor
            · rintro ⟨j, a, b, c⟩; exact ⟨j, a, by omega, c⟩
            · rintro ⟨j, a, b, c', e⟩
              by_cases z : j = i
              · subst z; exact absurd d c'
              · exact ⟨j, a, by omega, c', e⟩
        · have d' : ¬ (gx l ((i : Int) - 1)).Y = (gx l (i : Int)).Y := d
          rw [decide_eq_false d', cond_false, need_of (by rw [room_iff]; simp; omega), Option.bind_some, Option.bind_some, bnd_eq, bnd_eq, Wk (n := lenUpto l i + _) (by omega) (by omega), Wk (by omega) (by omega)]
          refine ⟨_, rfl, ⟨i + 1, by simp, by omega, by omega, (lenUpto_next i2).symm, by simp only; omega, by simp; omega, fun r => ?_, fun r => ?_⟩, by simp only; omega⟩
          · simp only
            rw [i7]
            constructor
            · rintro ⟨j, a, b, c⟩; exact ⟨j, a, by omega, c⟩
            · rintro ⟨j, a, b, c', e⟩
              by_cases z : j = i
              · subst z; exact absurd c' d
              · exact ⟨j, a, by omega, c', e⟩
          · simp only
            rw [List.mem_append, i8, List.mem_singleton]
            have hr : (⟨(gx l ((i : Int) - 1)).X, min (gx l ((i : Int) - 1)).Y (gx l (i : Int)).Y, max (gx l ((i : Int) - 1)).Y (gx l (i : Int)).Y, lenUpto l i, decide ((gx l (i : Int)).Y < (gx l ((i : Int) - 1)).Y)⟩ : Geom_rail) = rlI l i := by
              unfold rlI; rw [if_neg d]
            rw [hr]
            constructor
            · rintro (⟨j, a, b, c⟩ | e)
              · exact ⟨j, a, by omega, c⟩
              · exact ⟨i, i2, by omega, d, e⟩
            · rintro ⟨j, a, b, c, e⟩
              by_cases z : j = i
              · subst z; exact .inr e
              · exact .inl ⟨j, a, by omega, c, e⟩
      · right
        rw [decide_eq_false (p := (i : Int) < (l.length : Int)) (by omega), cond_false]
        obtain rfl : i = l.length := by omega
        exact ⟨_, rfl, by simp only; omega, by simp only; omega, i7, i8⟩)
  obtain ⟨ea, ed⟩ := e
  simp only at e1 e2 e3 e4
  rw [he, Option.bind_some]
  obtain ⟨A, a1, a2, a3, a4⟩ := SortFunc_rail (l := ea) (by omega) (fun r hr => by
    obtain ⟨j, j1, j2, _, rfl⟩ := (e3 r).1 hr
    exact (rlI_ok h j1 j2).1)
  obtain ⟨D, d1, d2, d3, d4⟩ := SortFunc_rail (l := ed) (by omega) (fun r hr => by
    obtain ⟨j, j1, j2, _, rfl⟩ := (e4 r).1 hr
    exact (rlI_ok h j1 j2).1)
  simp only [a1, d1, Option.bind_some]
  exact ⟨A, D, rfl, by omega, by omega, a3, d3, fun r => (a4 r).trans (e3 r), fun r => (d4 r).trans (e4 r)⟩

/-- The stretch that ends at i of a path is crossed by that which ends at j of another one, at the distance x. -/
def Hit (a b : List Point) (i j : Nat) (x : Int) : Prop := ((acrB a i ∧ ¬ acrB b j) ∨ (¬ acrB a i ∧ acrB b j)) ∧ hitR (rlI a i) (rlI b j) ∧ x = spotR (rlI a i) (rlI b j)
/-- A path is crossed by another one. -/
def Hits (a b : List Point) (x : Int) : Prop := ∃ i j, 1 ≤ i ∧ i < a.length ∧ 1 ≤ j ∧ j < b.length ∧ Hit a b i j x

theorem crossed_all {a b : List Point} {A D A' D' : List Geom_rail} {out : List Int} (ha : pathErr a = 0) (hb : pathErr b = 0) (la : A.length ≤ 1000) (ld : D.length ≤ 1000) (la' : A'.length ≤ 1000) (ld' : D'.length ≤ 1000)
    (sa' : A'.Pairwise (fun a b => a.at_ ≤ b.at_)) (sd' : D'.Pairwise (fun a b => a.at_ ≤ b.at_))
    (mA : ∀ r, r ∈ A ↔ ∃ i, 1 ≤ i ∧ i < a.length ∧ acrB a i ∧ r = rlI a i) (mD : ∀ r, r ∈ D ↔ ∃ i, 1 ≤ i ∧ i < a.length ∧ ¬ acrB a i ∧ r = rlI a i)
    (mA' : ∀ r, r ∈ A' ↔ ∃ i, 1 ≤ i ∧ i < b.length ∧ acrB b i ∧ r = rlI b i) (mD' : ∀ r, r ∈ D' ↔ ∃ i, 1 ≤ i ∧ i < b.length ∧ ¬ acrB b i ∧ r = rlI b i)
    (hout : out.length + 2000000 ≤ 1073741824) : ∃ o1 o2, geom_crossed A D' out = some o1 ∧ geom_crossed D A' o1 = some o2 ∧ o2.length ≤ out.length + 2000000 ∧ ∀ x, x ∈ o2 ↔ x ∈ out ∨ Hits a b x := by
  have okA : ∀ r ∈ A, okR r := fun r hr => by obtain ⟨i, h1, h2, _, rfl⟩ := (mA r).1 hr; exact rlI_ok ha h1 h2
  have okD : ∀ r ∈ D, okR r := fun r hr => by obtain ⟨i, h1, h2, _, rfl⟩ := (mD r).1 hr; exact rlI_ok ha h1 h2
  have okA' : ∀ r ∈ A', okR r := fun r hr => by obtain ⟨i, h1, h2, _, rfl⟩ := (mA' r).1 hr; exact rlI_ok hb h1 h2
  have okD' : ∀ r ∈ D', okR r := fun r hr => by obtain ⟨i, h1, h2, _, rfl⟩ := (mD' r).1 hr; exact rlI_ok hb h1 h2
  obtain ⟨o1, h1, h2, h3⟩ := crossed_eq (out := out) sd' okA okD' la ld' (by omega)
  obtain ⟨o2, k1, k2, k3⟩ := crossed_eq (out := o1) sa' okD okA' ld la' (by omega)
  refine ⟨o1, o2, h1, k1, by omega, fun x => ?_⟩
  rw [k2, h2]
  constructor
  · rintro ((h | ⟨m, hm, o, ho, e⟩) | ⟨m, hm, o, ho, e⟩)
    · exact .inl h
    · obtain ⟨i, i1, i2, i3, rfl⟩ := (mA m).1 hm
      obtain ⟨j, j1, j2, j3, rfl⟩ := (mD' o).1 ho
      exact .inr ⟨i, j, i1, i2, j1, j2, .inl ⟨i3, j3⟩, e⟩
    · obtain ⟨i, i1, i2, i3, rfl⟩ := (mD m).1 hm
      obtain ⟨j, j1, j2, j3, rfl⟩ := (mA' o).1 ho
      exact .inr ⟨i, j, i1, i2, j1, j2, .inr ⟨i3, j3⟩, e⟩
  · rintro (h | ⟨i, j, i1, i2, j1, j2, h | h, e⟩)
    · exact .inl (.inl h)
    · exact .inl (.inr ⟨_, (mA _).2 ⟨i, i1, i2, h.1, rfl⟩, _, (mD' _).2 ⟨j, j1, j2, h.2, rfl⟩, e⟩)
    · exact .inr ⟨_, (mD _).2 ⟨i, i1, i2, h.1, rfl⟩, _, (mA' _).2 ⟨j, j1, j2, h.2, rfl⟩, e⟩

/-- The jumps of the path k. -/
def JumpsAt (l : List (List Point)) (k : Nat) (o : List Int) : Prop := ∃ c : List Int, o = normI c ∧ c.length ≤ 1073741824 ∧ ∀ x, x ∈ c ↔ ∃ t, ∃ ht : t < l.length, t < k ∧ Hits (gx l (k : Int)) l[t] x
theorem JumpsAt.uni {l : List (List Point)} {k : Nat} {o o' : List Int} (h : JumpsAt l k o) (h' : JumpsAt l k o') : o = o' := by
  obtain ⟨c, rfl, _, h1⟩ := h
  obtain ⟨c', rfl, _, h2⟩ := h'
  exact normI_eq (fun x => (h1 x).trans (h2 x).symm)

theorem Jumps_eq {l : List (List Point)} (hl : l.length ≤ 100) (h : ∀ p ∈ l, pathErr p = 0) : ∃ o, geom_Jumps l = some (o, 0) ∧ o.length = l.length ∧ ∀ (k : Nat) (hk : k < o.length), JumpsAt l k o[k] := by
  unfold geom_Jumps
  rw [decide_eq_false (by omega), cond_false]
  rw [rforE_err pathErr (fun e => Res.ab (([] : List (List Int)), e)) (by omega) (fun i hi => by
    unfold geom_Jumps_L1
    rw [need_of hi, CheckPath_eq, Option.bind_some]
    by_cases c : pathErr (gx l i) = 0 <;> simp [c])]
  rw [if_pos (firstErr_zero.2 (fun e he => by obtain ⟨p, hp, rfl⟩ := List.mem_map.1 he; exact h p hp)), bindR_nx]
  obtain ⟨s, h1, h2, h3, h4, h5, h6⟩ := rfor_inv (n := (l.length : Int)) (step := geom_Jumps_L2 l) (s0 := (([] : List (List Int)), ([] : List (List Geom_rail)), ([] : List (List Geom_rail))))
    (fun i s => s.1.length = i ∧ s.2.1.length = i ∧ s.2.2.length = i ∧ (∀ (k : Nat) (hk : k < s.1.length), JumpsAt l k s.1[k]) ∧
      ∀ k : Nat, k < i → ∃ A D, gx s.2.1 (k : Int) = A ∧ gx s.2.2 (k : Int) = D ∧ A.length ≤ 1000 ∧ D.length ≤ 1000 ∧ A.Pairwise (fun a b => a.at_ ≤ b.at_) ∧ D.Pairwise (fun a b => a.at_ ≤ b.at_) ∧
        (∀ r, r ∈ A ↔ ∃ i, 1 ≤ i ∧ i < (gx l (k : Int)).length ∧ acrB (gx l (k : Int)) i ∧ r = rlI (gx l (k : Int)) i) ∧ (∀ r, r ∈ D ↔ ∃ i, 1 ≤ i ∧ i < (gx l (k : Int)).length ∧ ¬ acrB (gx l (k : Int)) i ∧ r = rlI (gx l (k : Int)) i))
    (by omega) ⟨rfl, rfl, rfl, fun k hk => by simp at hk, fun k hk => by omega⟩ (fun i s hi hI => by
      obtain ⟨so, sv, sd⟩ := s
      obtain ⟨g1, g2, g3, g4, g5⟩ := hI
      simp only at g1 g2 g3 g4 g5
      have hi' : i < l.length := by omega
      have hp := h _ (gx_mem (l := l) (k := i) ⟨by omega, by omega⟩)
      obtain ⟨A, D, e1, e2, e3, e4, e5, e6, e8⟩ := rails_eq hp
      unfold geom_Jumps_L2
      rw [need_of ⟨by omega, by omega⟩, e1, Option.bind_some]
      simp only
      obtain ⟨j, j1, j2, j3⟩ := rfor_inv (n := (sv.length : Int)) (step := geom_Jumps_L3 (A, D) ((i : Int), so, sv, sd)) (s0 := ([] : List Int))
        (fun k o => o.length ≤ k * 2000000 ∧ ∀ x, x ∈ o ↔ ∃ t, ∃ ht : t < l.length, t < k ∧ Hits (gx l (i : Int)) l[t] x) (by omega) ⟨by simp, fun x => ⟨fun h => by simp at h, fun ⟨t, _, h, _⟩ => by omega⟩⟩ (fun k o hk hI => by
          obtain ⟨o1, o2⟩ := hI
          obtain ⟨A', D', f1, f2, f3, f4, f5, f6, f7, f8⟩ := g5 k (by omega)
          have hk' : k < l.length := by omega
          have hpk := h _ (gx_mem (l := l) (k := k) ⟨by omega, by omega⟩)
          obtain ⟨q1, q2, r1, r2, r3, r4⟩ := crossed_all (out := o) hp hpk e2 e3 f3 f4 f5 f6 e6 e8 f7 f8 (by omega)
          unfold geom_Jumps_L3
          simp only
          rw [need_of ⟨by omega, by omega⟩, f2, r1, Option.bind_some, need_of ⟨by omega, by omega⟩, f1, r2, Option.bind_some]
          refine ⟨_, rfl, by omega, fun x => ?_⟩
          rw [r4, o2, gx_nat hk']
          constructor
          · rintro (⟨t, ht, h1, h2⟩ | h)
            · exact ⟨t, ht, by omega, h2⟩
            · exact ⟨k, hk', by omega, h⟩
          · rintro ⟨t, ht, h1, h2⟩
            by_cases z : t = k
            · subst z; exact .inr h2
            · exact .inl ⟨t, ht, by omega, h2⟩)
      simp only [Int.toNat_natCast] at j2 j3
      obtain ⟨m1, m2⟩ := Sort_Compact (l := j) (by omega)
      rw [j1, Option.bind_some, need_of (by rw [room_iff]; simp; omega), need_of (by rw [room_iff]; simp; omega), bnd_eq, bnd_eq, m1, Option.bind_some, m2, Option.bind_some, need_of (by rw [room_iff]; simp; omega)]
      refine ⟨_, rfl, by simp [g1], by simp [g2], by simp [g3], fun k hk => ?_, fun k hk => ?_⟩
      · simp only at hk ⊢
        by_cases z : k < so.length
        · rw [List.getElem_append_left z]; exact g4 k z
        · have hkk : k = so.length := by simp at hk; omega
          subst hkk
          rw [List.getElem_append_right (by omega)]
          simp only [Nat.sub_self, List.getElem_singleton]
          refine ⟨j, rfl, by omega, fun x => ?_⟩
          rw [j3, g1, g2]
      · simp only
        by_cases z : k < i
        · obtain ⟨A', D', f1, f2, f3⟩ := g5 k z
          refine ⟨A', D', ?_, ?_, f3⟩
          · rw [gx_nat (by simp; omega), List.getElem_append_left (by omega), ← gx_nat (by omega), f1]
          · rw [gx_nat (by simp; omega), List.getElem_append_left (by omega), ← gx_nat (by omega), f2]
        · have hkk : k = i := by omega
          subst hkk
          refine ⟨A, D, ?_, ?_, e2, e3, e4, e5, e6, e8⟩
          · exact gx_app (U := sv) (V := []) (by omega)
          · exact gx_app (U := sd) (V := []) (by omega))
  rw [h1, Option.bind_some]
  exact ⟨s.1, rfl, by simpa using h2, h5⟩
end Go.DB
