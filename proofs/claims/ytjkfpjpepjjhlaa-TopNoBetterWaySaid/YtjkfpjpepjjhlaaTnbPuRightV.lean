/-
  The program's right paths, in plain words.
-/
import Derived.Test.YtjkfpjpepjjhlaaTnbPuWayC
set_option linter.unusedSimpArgs false
set_option linter.unusedVariables false
namespace Go.DB
open Go Go.RowKit

theorem opposite_eq {p : Point} (h : -10 ≤ p.X ∧ p.X ≤ 10 ∧ -10 ≤ p.Y ∧ p.Y ≤ 10) : route_opposite p = some (oppP p) := by
  unfold route_opposite oppP
  simp only [bnd_eq]
  rw [Wk (by omega) (by omega), Wk (by omega) (by omega)]
theorem loop1_eq {l : List Point} (h : pathErr l = 0) : ((∃ i, 2 ≤ i ∧ i < l.length ∧ flagAt l (i - 1)) → loop (route_right_L1 l (l.length : Int)) 2 = some (Res.ab false)) ∧ ((¬ ∃ i, 2 ≤ i ∧ i < l.length ∧ flagAt l (i - 1)) → loop (route_right_L1 l (l.length : Int)) 2 = some (Res.nx ())) := by
  obtain ⟨h1, h2⟩ := pathErr_zero.1 h
  have hl := (ptsErr_zero.1 h1).1
  obtain ⟨hn, hbad⟩ := isPath_iff.1 h2
  have key : ∀ i : Nat, 2 ≤ i → i < l.length → route_right_L1 l (l.length : Int) (i : Int) = some (if flagAt l (i - 1) then .done (.ab false) else .again ((i : Int) + 1)) := fun i a b => by
    unfold route_right_L1
    have d : decide ((i : Int) < (l.length : Int)) = true := by rw [decide_eq_true_eq]; omega
    rw [Wk (n := (i : Int) - 2) (by omega) (by omega), Wk (n := (i : Int) - 1) (by omega) (by omega), Wk (n := (i : Int) + 1) (by omega) (by omega)]
    have g1 : inR l ((i : Int) - 2) := ⟨by omega, by omega⟩
    have g2 : inR l ((i : Int) - 1) := ⟨by omega, by omega⟩
    have g3 : inR l (i : Int) := ⟨by omega, by omega⟩
    simp only [d, cond_true, bnd_eq]
    rw [need_of g1, need_of g2, heading_eq (okP_at h1 g1) (okP_at h1 g2)]
    simp only [bind_sm]
    rw [need_of g2, need_of g3, heading_eq (okP_at h1 g2) (okP_at h1 g3)]
    simp only [bind_sm]
    rw [opposite_eq (way_small _ _)]
    have hp : ((i - 1 : Nat) : Int) = (i : Int) - 1 := by omega
    have b1 := hbad (i - 1) (by omega) (by omega)
    have b2 := hbad i (by omega) b
    unfold badAt at b1 b2
    have ht := turn_iff (p := gx l ((i : Int) - 2)) (q := gx l ((i : Int) - 1)) (r := gx l (i : Int)) (by rw [hp, show (i : Int) - 1 - 1 = (i : Int) - 2 by omega] at b1; exact b1) b2
    have hf : flagAt l (i - 1) ↔ decide ((gx l ((i : Int) - 2)).X = (gx l ((i : Int) - 1)).X) = decide ((gx l ((i : Int) - 1)).X = (gx l (i : Int)).X) := by
      unfold flagAt
      rw [hp, show (i : Int) - 1 - 1 = (i : Int) - 2 by omega, show (i : Int) - 1 + 1 = (i : Int) by omega]
    by_cases c1 : wayI (gx l ((i : Int) - 2)) (gx l ((i : Int) - 1)) = wayI (gx l ((i : Int) - 1)) (gx l (i : Int))
    · rw [if_pos (hf.2 (ht.1 (.inl c1)))]
      simp only [c1, decide_true, Bool.not_true, gd_false, bind_sm, Bool.true_or, cond_true]
    · by_cases c2 : wayI (gx l ((i : Int) - 2)) (gx l ((i : Int) - 1)) = oppP (wayI (gx l ((i : Int) - 1)) (gx l (i : Int)))
      · rw [if_pos (hf.2 (ht.1 (.inr c2)))]
        have d1 : decide (wayI (gx l ((i : Int) - 2)) (gx l ((i : Int) - 1)) = wayI (gx l ((i : Int) - 1)) (gx l (i : Int))) = false := decide_eq_false c1
        simp only [d1, Bool.not_false, gd_true, bind_sm, Bool.false_or]
        rw [decide_eq_true c2]; rfl
      · rw [if_neg (fun h => (ht.2 (hf.1 h)).elim c1 c2)]
        have d1 : decide (wayI (gx l ((i : Int) - 2)) (gx l ((i : Int) - 1)) = wayI (gx l ((i : Int) - 1)) (gx l (i : Int))) = false := decide_eq_false c1
        simp only [d1, Bool.not_false, gd_true, bind_sm, Bool.false_or]
        rw [decide_eq_false c2]; rfl
  have := loop_upto (body := route_right_L1 l (l.length : Int)) 2 l.length (fun i => flagAt l (i - 1)) false (fun i a b c => by rw [key i a b, if_pos c]) (fun i a b c => by rw [key i a b, if_neg c]) (by
    unfold route_right_L1
    have d : decide ((l.length : Int) < (l.length : Int)) = false := by simp
    simp only [d, cond_false]) (l.length - 2) 2 (by omega) (Nat.le_refl _)
  exact this
theorem two_path {a b : Point} (ha : okP a) (hb : okP b) (h : ¬ decide (b.X = a.X) = decide (b.Y = a.Y)) : geom_Length [a, b] = some (farI a b, 0) := by
  have hp : pathErr [a, b] = 0 := pathErr_zero.2 ⟨ptsErr_zero.2 ⟨by simp, fun p hp => by simp at hp; rcases hp with rfl | rfl; exact ha; exact hb⟩, isPath_iff.2 ⟨by simp, fun i h1 h2 => by
    have : i = 1 := by simp at h2; omega
    subst this
    exact h⟩⟩
  rw [Length_eq, if_pos hp, hp]
  have : lenUpto [a, b] [a, b].length = farI a b := by
    show lenUpto [a, b] 2 = _
    simp only [lenUpto]
    have e1 : gx [a, b] (((1 : Nat) : Int) - 1) = a := rfl
    have e2 : gx [a, b] ((1 : Nat) : Int) = b := rfl
    rw [e1, e2]; simp
  rw [this]
theorem wallsR_val {t : Task} (h : TaskOK t) (way : List Point) (hw : 1 ≤ way.length ∧ way.length ≤ 1000) :
    ((∃ j, 1 ≤ j ∧ j < way.length ∧ blkB t (gx (inner t way) ((j : Int) - 1)) (gx (inner t way) (j : Int)) = true) → loop (route_right_L2 (way.length : Int) (startP t, endP t) way (t.Walls.map (zn t))) 1 = some (Res.ab false)) ∧
    ((¬ ∃ j, 1 ≤ j ∧ j < way.length ∧ blkB t (gx (inner t way) ((j : Int) - 1)) (gx (inner t way) (j : Int)) = true) → loop (route_right_L2 (way.length : Int) (startP t, endP t) way (t.Walls.map (zn t))) 1 = some (Res.nx ())) := by
  have hin : (way.set (0 : Int).toNat (startP t)).set (W ((way.length : Int) - 1)).toNat (endP t) = inner t way := by
    unfold inner
    rw [Wk (by omega) (by omega), show ((way.length : Int) - 1).toNat = way.length - 1 by omega]; rfl
  have hl : (inner t way).length = way.length := by simp [inner]
  have key : ∀ i : Nat, 1 ≤ i → i < way.length → route_right_L2 (way.length : Int) (startP t, endP t) way (t.Walls.map (zn t)) (i : Int) = some (if blkB t (gx (inner t way) ((i : Int) - 1)) (gx (inner t way) (i : Int)) = true then .done (.ab false) else .again ((i : Int) + 1)) := fun i a b => by
    unfold route_right_L2
    have d : decide ((i : Int) < (way.length : Int)) = true := by rw [decide_eq_true_eq]; omega
    simp only [d, cond_true]
    rw [hin, Wk (n := (i : Int) - 1) (by omega) (by omega), need_of ⟨by omega, by rw [hl]; omega⟩, need_of ⟨by omega, by rw [hl]; omega⟩, free_val h, bind_sm, bnd_eq, Wk (by omega) (by omega)]
    cases blkB t (gx (inner t way) ((i : Int) - 1)) (gx (inner t way) (i : Int)) <;> rfl
  exact loop_upto (body := route_right_L2 (way.length : Int) (startP t, endP t) way (t.Walls.map (zn t))) 1 way.length (fun i => blkB t (gx (inner t way) ((i : Int) - 1)) (gx (inner t way) (i : Int)) = true) false (fun i a b c => by rw [key i a b, if_pos c]) (fun i a b c => by rw [key i a b, if_neg c]) (by
    unfold route_right_L2
    have d : decide ((way.length : Int) < (way.length : Int)) = false := by simp
    simp only [d, cond_false]) (way.length - 1) 1 (by omega) (Nat.le_refl _)
theorem marksR_val {t : Task} (h : TaskOK t) (v : List Point) (hv : v.length ≤ 1000) : rforE (v.length : Int) (route_right_L3 v (XL t, YL t)) (fun s => (Res.nx s : Res Unit Bool)) () = some (if v.any (fun p => !(decide (p.X ∈ XL t) && decide (p.Y ∈ YL t))) = true then Res.ab false else Res.nx ()) := by
  have hX := XL_len h
  have hY := YL_len h
  rw [rforE_any (fun p : Point => !(decide (p.X ∈ XL t) && decide (p.Y ∈ YL t))) (Res.ab false) (by omega) (fun i hi => by
    unfold route_right_L3
    rw [need_of hi]
    simp only [bnd_eq]
    obtain ⟨a, b, e1, _, _, _, e2, _⟩ := bs_pos (XL t) (gx v i).X (by omega) (gridOf_strict _)
    obtain ⟨a', b', e1', _, _, _, e2', _⟩ := bs_pos (YL t) (gx v i).Y (by omega) (gridOf_strict _)
    rw [e1, e1']
    simp only [bind_sm]
    have h1 : b = decide ((gx v i).X ∈ XL t) := by rw [Bool.eq_iff_iff, decide_eq_true_eq]; exact e2
    have h2 : b' = decide ((gx v i).Y ∈ YL t) := by rw [Bool.eq_iff_iff, decide_eq_true_eq]; exact e2'
    rw [h1, h2]
    cases decide ((gx v i).X ∈ XL t) <;> cases decide ((gx v i).Y ∈ YL t) <;> rfl)]
theorem right_val {t : Task} {l : List Point} (ht : TaskOK t) (hl : ptsErr l = 0) : ∃ b, route_right t l = some b ∧ (b = true ↔ WayC t l) := by
  have hll := (ptsErr_zero.1 hl).1
  have c1 := ht.c1; have c2 := ht.c2
  have hC := CheckPath_eq l
  unfold route_right
  rw [hC]
  simp only [bind_sm, bnd_eq]
  cases hp : isPath l with
  | false =>
    have hpe : decide (pathErr l = 0) = false := decide_eq_false fun h => by
      have := (pathErr_zero.1 h).2
      rw [hp] at this; cases this
    simp only [hpe, Bool.not_false, Bool.true_or, Bool.not_true, gd_false, bind_sm, cond_true]
    refine ⟨false, ?_, ?_⟩
    · rw [need_of (fun h => by cases h), need_of (fun h => by cases h)]
    · refine ⟨fun h => (by cases h), fun h => ?_⟩
      have := (pathErr_zero.1 h.path).2
      rw [hp] at this; cases this
  | true =>
    have hpe : pathErr l = 0 := pathErr_zero.2 ⟨hl, hp⟩
    obtain ⟨hn, hbad⟩ := isPath_iff.1 hp
    have en1 : W ((l.length : Int) - 1) = (l.length : Int) - 1 := Wk (by omega) (by omega)
    have en2 : W ((l.length : Int) - 2) = (l.length : Int) - 2 := Wk (by omega) (by omega)
    have g0 : inR l 0 := ⟨by omega, by omega⟩
    have g1 : inR l 1 := ⟨by omega, by omega⟩
    have gm : inR l ((l.length : Int) - 1) := ⟨by omega, by omega⟩
    have gk : inR l ((l.length : Int) - 2) := ⟨by omega, by omega⟩
    have o0 := okP_at hl g0; have o1 := okP_at hl g1; have om := okP_at hl gm; have ok := okP_at hl gk
    have n0 : ∀ (p : Prop) (m : Option Bool), need (p → inR l 0) m = m := fun p m => need_of (fun _ => g0)
    have n1 : ∀ (p : Prop) (m : Option Bool), need (p → inR l 1) m = m := fun p m => need_of (fun _ => g1)
    have nm : ∀ (p : Prop) (m : Option Bool), need (p → inR l ((l.length : Int) - 1)) m = m := fun p m => need_of (fun _ => gm)
    have nk : ∀ (p : Prop) (m : Option Bool), need (p → inR l ((l.length : Int) - 2)) m = m := fun p m => need_of (fun _ => gk)
    have m0 : ∀ m : Option Bool, need (inR l 0) m = m := fun m => need_of g0
    have m1 : ∀ m : Option Bool, need (inR l 1) m = m := fun m => need_of g1
    simp only [en1, en2, hpe, n0, n1, nm, nk, m0, m1, decide_true, Bool.not_true, Bool.false_or]
    cases cF : decide (gx l 0 = t.From) with
    | false => exact ⟨false, by simp, fun h => (by cases h), fun h => absurd h.first (of_decide_eq_false cF)⟩
    | true =>
    cases cT : decide (gx l ((l.length : Int) - 1) = t.To) with
    | false => exact ⟨false, by simp, fun h => (by cases h), fun h => absurd h.last (of_decide_eq_false cT)⟩
    | true =>
    simp only [Bool.not_true, Bool.not_false, Bool.or_self, gd_true, bind_sm, cond_false, Bool.false_or]
    obtain ⟨p1, p2⟩ := loop1_eq hpe
    by_cases cf : ∃ i, 1 ≤ i ∧ i < l.length - 1 ∧ flagAt l i
    · have cf' : ∃ i, 2 ≤ i ∧ i < l.length ∧ flagAt l (i - 1) := by
        obtain ⟨i, a, b, c⟩ := cf
        exact ⟨i + 1, by omega, by omega, c⟩
      rw [p1 cf']
      simp only [bindR_ab]
      refine ⟨false, rfl, fun h => (by cases h), fun h => ?_⟩
      obtain ⟨i, a, b, c⟩ := cf
      exact absurd c (h.turns i a b)
    · have cf' : ¬ ∃ i, 2 ≤ i ∧ i < l.length ∧ flagAt l (i - 1) := fun ⟨i, a, b, c⟩ => cf ⟨i - 1, by omega, by omega, c⟩
      rw [p2 cf']
      have hs1 := sideErr_zero.1 ht.fs
      have hs2 := sideErr_zero.1 ht.ts
      simp only [bindR_nx, decide_true, Bool.not_true, cond_false, bind_sm]
      rw [ends_eq ht.from_ ht.to ht.fs ht.ts (by omega) (by omega), toward_eq hs1.1 hs1.2, toward_eq hs2.1 hs2.2, heading_eq o0 o1]
      simp only [bind_sm]
      rw [opposite_eq (tow_small _)]
      simp only [bind_sm]
      cases ca : decide (wayI (gx l 0) (gx l 1) = tow t.FromSide) with
      | false => exact ⟨false, by simp, fun h => (by cases h), fun h => absurd h.out (of_decide_eq_false ca)⟩
      | true =>
      simp only [Bool.not_true, Bool.not_false, gd_true, bind_sm, Bool.false_or]
      rw [heading_eq ok om]
      simp only [bind_sm]
      cases cb : decide (wayI (gx l ((l.length : Int) - 2)) (gx l ((l.length : Int) - 1)) = oppP (tow t.ToSide)) with
      | false => exact ⟨false, by simp, fun h => (by cases h), fun h => absurd h.in_ (of_decide_eq_false cb)⟩
      | true =>
      simp only [Bool.not_true, cond_false]
      have bb1 := hbad 1 (Nat.le_refl _) hn
      have bb2 := hbad (l.length - 1) (by omega) (by omega)
      unfold badAt at bb1 bb2
      have es0 : seg l 0 2 = [gx l 0, gx l 1] := seg_two (i := 0) (Int.le_refl _) (by omega)
      have es1 : seg l ((l.length : Int) - 2) (l.length : Int) = [gx l ((l.length : Int) - 2), gx l ((l.length : Int) - 1)] := by
        have := seg_two (l := l) (i := (l.length : Int) - 2) (by omega) (by omega)
        rw [show (l.length : Int) - 2 + 2 = (l.length : Int) by omega, show (l.length : Int) - 2 + 1 = (l.length : Int) - 1 by omega] at this
        exact this
      rw [need_of ⟨by omega, by omega, by omega⟩, es0, two_path o0 o1 bb1]
      simp only [bind_sm]
      have e3 : ((l.length - 1 : Nat) : Int) = (l.length : Int) - 1 := by omega
      rw [e3, show (l.length : Int) - 1 - 1 = (l.length : Int) - 2 by omega] at bb2
      rw [need_of ⟨by omega, by omega, Int.le_refl _⟩, es1, two_path ok om bb2]
      simp only [bind_sm]
      have hW : W (2 * t.Clear) = 2 * t.Clear := Wk (by omega) (by omega)
      rw [hW, zones_eq ht, Clone_Point_eq hll, lines_eq ht]
      simp only [bind_sm, m0]
      have gs : inR (l.set (0 : Int).toNat (startP t)) ((l.length : Int) - 1) := ⟨by omega, by simp; omega⟩
      have hss : segR l.length 1 ((l.length : Int) - 1) := ⟨by omega, by omega, by omega⟩
      have ns : ∀ m : Option Bool, need (inR (l.set (0 : Int).toNat (startP t)) ((l.length : Int) - 1)) m = m := fun m => need_of gs
      have nss : ∀ m : Option Bool, need (segR l.length 1 ((l.length : Int) - 1)) m = m := fun m => need_of hss
      simp only [ns, nss]
      have hsl : (seg l 1 ((l.length : Int) - 1)).length ≤ 1000 := by unfold seg; simp; omega
      have hm := marksR_val ht (seg l 1 ((l.length : Int) - 1)) hsl
      obtain ⟨w1, w2⟩ := wallsR_val ht l ⟨by omega, hll⟩
      change rforE _ (route_right_L3 _ (gridOf (xv t), gridOf (yv t))) _ _ = _ at hm
      rw [hm]
      -- the marks
      have mk : (seg l 1 ((l.length : Int) - 1)).any (fun p => !(decide (p.X ∈ XL t) && decide (p.Y ∈ YL t))) = true ↔ ¬ ∀ i : Nat, 1 ≤ i → i < l.length - 1 → (gx l (i : Int)).X ∈ XL t ∧ (gx l (i : Int)).Y ∈ YL t := by
        rw [List.any_eq_true]
        constructor
        · rintro ⟨p, hp, hb⟩ hall
          obtain ⟨k, hk, rfl⟩ := List.mem_iff_getElem.1 hp
          unfold seg at hk
          simp at hk
          have e : (seg l 1 ((l.length : Int) - 1))[k] = gx l ((k + 1 : Nat) : Int) := by
            rw [gx_nat (by omega)]
            simp [seg, Nat.add_comm]
          have := hall (k + 1) (by omega) (by omega)
          rw [e, decide_eq_true this.1, decide_eq_true this.2] at hb
          cases hb
        · intro hn'
          obtain ⟨i, hi⟩ := Classical.not_forall.1 hn'
          obtain ⟨h1, hi⟩ := Classical.not_imp.1 hi
          obtain ⟨h2, h3⟩ := Classical.not_imp.1 hi
          refine ⟨gx l (i : Int), ?_, by
            simp only [Bool.not_eq_true', Bool.and_eq_false_iff, decide_eq_false_iff_not]
            by_cases hx : (gx l (i : Int)).X ∈ XL t
            · exact .inr (fun hy => h3 ⟨hx, hy⟩)
            · exact .inl hx⟩
          rw [List.mem_iff_getElem]
          refine ⟨i - 1, by unfold seg; simp; omega, ?_⟩
          rw [gx_nat (by omega)]
          simp only [seg, List.getElem_drop, List.getElem_take]
          congr 1
          have : (1 : Int).toNat = 1 := rfl
          omega
      have fin : ∀ (P : Prop), (WayC t l ↔ P) → ∀ x : Option Bool, (∃ b, x = some b ∧ (b = true ↔ P)) → ∃ b, x = some b ∧ (b = true ↔ WayC t l) := fun P h x ⟨b, h1, h2⟩ => ⟨b, h1, h2.trans h.symm⟩
      have cFe := of_decide_eq_true cF; have cTe := of_decide_eq_true cT; have cae := of_decide_eq_true ca; have cbe := of_decide_eq_true cb
      refine fin (t.Clear ≤ farI (gx l 0) (gx l 1) ∧ t.Clear ≤ farI (gx l ((l.length : Int) - 2)) (gx l ((l.length : Int) - 1)) ∧ (l.length = 2 → 2 * t.Clear ≤ farI (gx l 0) (gx l 1)) ∧ (∀ i : Nat, 1 ≤ i → i < l.length - 1 → (gx l (i : Int)).X ∈ XL t ∧ (gx l (i : Int)).Y ∈ YL t) ∧ ∀ i : Nat, 1 ≤ i → i < l.length → blkB t (gx (inner t l) ((i : Int) - 1)) (gx (inner t l) (i : Int)) = false)
        ⟨fun h => ⟨h.c1, h.c2, h.c3, h.marks, h.free⟩, fun ⟨a, b, c, d, e⟩ => ⟨hpe, cFe, cTe, fun i h1 h2 h3 => cf ⟨i, h1, h2, h3⟩, cae, cbe, a, b, c, d, e⟩⟩ _ ?_
      by_cases hA : farI (gx l 0) (gx l 1) < t.Clear
      · refine ⟨false, ?_, fun h => (by cases h), fun h => by have := h.1; omega⟩
        by_cases a1 : (l.length : Int) = 2 <;> by_cases a2 : farI (gx l 0) (gx l 1) < 2 * t.Clear <;> simp [a1, a2, hA]
      · by_cases hB : farI (gx l ((l.length : Int) - 2)) (gx l ((l.length : Int) - 1)) < t.Clear
        · refine ⟨false, ?_, fun h => (by cases h), fun h => by have := h.2.1; omega⟩
          by_cases a1 : (l.length : Int) = 2 <;> by_cases a2 : farI (gx l 0) (gx l 1) < 2 * t.Clear
          · simp [a1, a2]
          · rw [decide_eq_true hB]; simp
          · simp [a1, a2, hA, hB]
          · simp [a1, a2, hA, hB]
        · by_cases hC : (l.length : Int) = 2 ∧ farI (gx l 0) (gx l 1) < 2 * t.Clear
          · refine ⟨false, ?_, fun h => (by cases h), fun h => by have := h.2.2.1 (by omega); omega⟩
            simp [hC.1, hC.2]
          · have hcond : (decide ((l.length : Int) = 2) && decide (farI (gx l 0) (gx l 1) < 2 * t.Clear)) = false := by
              rw [Bool.eq_false_iff]; simpa using hC
            have gg : ∀ m : Option Int, gd true m = m := fun m => rfl
            by_cases hM : ∀ i : Nat, 1 ≤ i → i < l.length - 1 → (gx l (i : Int)).X ∈ XL t ∧ (gx l (i : Int)).Y ∈ YL t
            · by_cases hF : ∃ j, 1 ≤ j ∧ j < l.length ∧ blkB t (gx (inner t l) ((j : Int) - 1)) (gx (inner t l) (j : Int)) = true
              · refine ⟨false, ?_, fun h => (by cases h), fun h => by
                  obtain ⟨j, a, b, c⟩ := hF
                  rw [h.2.2.2.2 j a b] at c; cases c⟩
                rw [if_neg (fun h => mk.1 h hM), w1 hF]
                cases h2 : decide ((l.length : Int) = 2) <;> cases h3 : decide (farI (gx l 0) (gx l 1) < 2 * t.Clear) <;> simp [h2, h3, hA, hB] at hcond ⊢
              · refine ⟨true, ?_, fun _ => ⟨by omega, by omega, fun h => by
                    have : ¬ farI (gx l 0) (gx l 1) < 2 * t.Clear := fun hh => hC ⟨by omega, hh⟩
                    omega, hM, fun i a b => by
                    cases hz : blkB t (gx (inner t l) ((i : Int) - 1)) (gx (inner t l) (i : Int)) with
                    | false => rfl
                    | true => exact absurd ⟨i, a, b, hz⟩ hF⟩, fun _ => rfl⟩
                rw [if_neg (fun h => mk.1 h hM), w2 hF]
                cases h2 : decide ((l.length : Int) = 2) <;> cases h3 : decide (farI (gx l 0) (gx l 1) < 2 * t.Clear) <;> simp [h2, h3, hA, hB] at hcond ⊢
            · refine ⟨false, ?_, fun h => (by cases h), fun h => absurd h.2.2.2.1 hM⟩
              rw [if_pos (mk.2 hM)]
              have hw12 := (Classical.em (∃ j, 1 ≤ j ∧ j < l.length ∧ blkB t (gx (inner t l) ((j : Int) - 1)) (gx (inner t l) (j : Int)) = true)).imp w1 w2
              rcases hw12 with hw12 | hw12 <;> rw [hw12] <;>
              cases h2 : decide ((l.length : Int) = 2) <;> cases h3 : decide (farI (gx l 0) (gx l 1) < 2 * t.Clear) <;> simp [h2, h3, hA, hB] at hcond ⊢
end Go.DB
