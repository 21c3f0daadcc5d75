/-
  The reference's right paths, in plain words.
-/
import Derived.Test.YtjkfpjpepjjhlaaRabPuWayC
set_option linter.unusedSimpArgs false
set_option linter.unusedVariables false
namespace Go.DB
open Go Go.RowKit

theorem TidyOf_eq {l : List Point} (h : pathErr l = 0) : ref_TidyOf l = some (tidyUpto l l.length) := by
  obtain ⟨h1, h2⟩ := pathErr_zero.1 h
  have hl := (ptsErr_zero.1 h1).1
  unfold ref_TidyOf
  obtain ⟨s, hs, hI⟩ := rfor_inv (n := (l.length : Int)) (step := ref_TidyOf_L1 l) (s0 := ([] : List Point)) (fun i s => s = tidyUpto l i) (by omega) rfl (fun i s hi hI => by
    subst hI
    have ht := tidyUpto_len l i
    have hi' : i < l.length := by omega
    refine ⟨tidyUpto l (i + 1), ?_, rfl⟩
    unfold ref_TidyOf_L1
    have e3 : W ((i : Int) + 1) = (i : Int) + 1 := Wk (by omega) (by omega)
    have e2 : W ((i : Int) - 1) = (i : Int) - 1 := Wk (by omega) (by omega)
    rw [need_of ⟨by omega, hi⟩]
    simp only [bnd_eq, e2, e3]
    have hroom : room ((tidyUpto l i).length + [gx l (i : Int)].length) := by rw [room_iff]; simp; omega
    by_cases c1 : 0 < i
    · by_cases c2 : i + 1 < l.length
      · have g1 : inR l ((i : Int) - 1) := ⟨by omega, by omega⟩
        have g2 : inR l (i : Int) := ⟨by omega, by omega⟩
        have g3 : inR l ((i : Int) + 1) := ⟨by omega, by omega⟩
        have d1 : decide ((0 : Int) < (i : Int)) = true := by simp; omega
        have d2 : decide ((i : Int) + 1 < (l.length : Int)) = true := by simp; omega
        simp only [d1, d2, Bool.and_self, gd_true]
        rw [need_of (fun _ => g1), way_eq (okP_at h1 g1) (okP_at h1 g2)]
        simp only [bind_sm]
        rw [need_of (fun _ => g3), way_eq (okP_at h1 g2) (okP_at h1 g3)]
        simp only [bind_sm, Bool.true_and]
        rw [need_of hroom]
        have hk : kept l i = !decide (wayI (gx l ((i : Int) - 1)) (gx l i) = wayI (gx l i) (gx l ((i : Int) + 1))) := by
          unfold kept
          have c1 : ¬ i = 0 := by omega
          have c2 : ¬ l.length ≤ i + 1 := by omega
          simp [c1, c2]
        simp only [tidyUpto, hk]
        by_cases hw : wayI (gx l ((i : Int) - 1)) (gx l i) = wayI (gx l i) (gx l ((i : Int) + 1)) <;> simp [hw]
      · have d2 : decide ((i : Int) + 1 < (l.length : Int)) = false := by simp; omega
        have hk : kept l i = true := by
          have : l.length ≤ i + 1 := by omega
          unfold kept
          simp [this]
        simp only [d2, Bool.and_false, gd_false, bind_sm, Bool.false_and, cond_false]
        rw [need_of (by simp), need_of (by simp), need_of hroom]
        simp [tidyUpto, hk]
    · have d1 : decide ((0 : Int) < (i : Int)) = false := by simp; omega
      have hk : kept l i = true := by
        have : i = 0 := by omega
        unfold kept
        simp [this]
      simp only [d1, Bool.false_and, gd_false, bind_sm, cond_false]
      rw [need_of (by simp), need_of (by simp), need_of hroom]
      simp [tidyUpto, hk])
  rw [hs]
  simp only [Int.toNat_natCast] at hI
  rw [hI]; rfl

theorem loop2_eq {l : List Point} (hl : l.length ≤ 1000) (h2 : 2 ≤ l.length) : ((∃ i, 1 ≤ i ∧ i < l.length - 1 ∧ flagAt l i) → loop (ref_IsWay_L1 l (l.length : Int)) 1 = some (Res.ab false)) ∧ ((¬ ∃ i, 1 ≤ i ∧ i < l.length - 1 ∧ flagAt l i) → loop (ref_IsWay_L1 l (l.length : Int)) 1 = some (Res.nx ())) := by
  have key : ∀ i : Nat, 1 ≤ i → i < l.length - 1 → ref_IsWay_L1 l (l.length : Int) (i : Int) = some (if flagAt l i then .done (.ab false) else .again ((i : Int) + 1)) := fun i a b => by
    unfold ref_IsWay_L1
    rw [Wk (n := (i : Int) - 1) (by omega) (by omega), Wk (n := (i : Int) + 1) (by omega) (by omega)]
    have d : decide ((i : Int) + 1 < (l.length : Int)) = true := by rw [decide_eq_true_eq]; omega
    simp only [d, cond_true, bnd_eq]
    rw [need_of ⟨by omega, by omega⟩, need_of ⟨by omega, by omega⟩, need_of ⟨by omega, by omega⟩, need_of ⟨by omega, by omega⟩]
    by_cases c : flagAt l i
    · have : decide (decide ((gx l ((i : Int) - 1)).X = (gx l (i : Int)).X) = decide ((gx l (i : Int)).X = (gx l ((i : Int) + 1)).X)) = true := decide_eq_true c
      simp only [this, cond_true, if_pos c]
    · have : decide (decide ((gx l ((i : Int) - 1)).X = (gx l (i : Int)).X) = decide ((gx l (i : Int)).X = (gx l ((i : Int) + 1)).X)) = false := decide_eq_false c
      simp only [this, cond_false, if_neg c]
  have := loop_upto (body := ref_IsWay_L1 l (l.length : Int)) 1 (l.length - 1) (flagAt l) false (fun i a b c => by rw [key i a b, if_pos c]) (fun i a b c => by rw [key i a b, if_neg c]) (by
    unfold ref_IsWay_L1
    rw [Wk (n := ((l.length - 1 : Nat) : Int) + 1) (by omega) (by omega)]
    have d : decide (((l.length - 1 : Nat) : Int) + 1 < (l.length : Int)) = false := by rw [decide_eq_false_iff_not]; omega
    simp only [d, cond_false]) (l.length - 2) 1 (by omega) (Nat.le_refl _)
  exact this


theorem wallsI_val {t : Task} (h : TaskOK t) (way : List Point) (hw : 1 ≤ way.length ∧ way.length ≤ 1000) :
    ((∃ j, 1 ≤ j ∧ j < way.length ∧ blkB t (gx (inner t way) ((j : Int) - 1)) (gx (inner t way) (j : Int)) = true) → loop (ref_IsWay_L3 way (way.length : Int) t (startP t, endP t)) 1 = some (Res.ab false)) ∧
    ((¬ ∃ j, 1 ≤ j ∧ j < way.length ∧ blkB t (gx (inner t way) ((j : Int) - 1)) (gx (inner t way) (j : Int)) = true) → loop (ref_IsWay_L3 way (way.length : Int) t (startP t, endP t)) 1 = some (Res.nx ())) := by
  have hin : (way.set (0 : Int).toNat (startP t)).set (W ((way.length : Int) - 1)).toNat (endP t) = inner t way := by
    unfold inner
    rw [Wk (by omega) (by omega), show ((way.length : Int) - 1).toNat = way.length - 1 by omega]; rfl
  have hl : (inner t way).length = way.length := by simp [inner]
  have key : ∀ i : Nat, 1 ≤ i → i < way.length → ref_IsWay_L3 way (way.length : Int) t (startP t, endP t) (i : Int) = some (if blkB t (gx (inner t way) ((i : Int) - 1)) (gx (inner t way) (i : Int)) = true then .done (.ab false) else .again ((i : Int) + 1)) := fun i a b => by
    unfold ref_IsWay_L3
    have d : decide ((i : Int) < (way.length : Int)) = true := by rw [decide_eq_true_eq]; omega
    simp only [d, cond_true]
    rw [hin, Wk (n := (i : Int) - 1) (by omega) (by omega), need_of ⟨by omega, by rw [hl]; omega⟩, need_of ⟨by omega, by rw [hl]; omega⟩, (blocked_eq h _ _).1, bind_sm, bnd_eq, Wk (by omega) (by omega)]
    cases blkB t (gx (inner t way) ((i : Int) - 1)) (gx (inner t way) (i : Int)) <;> rfl
  exact loop_upto (body := ref_IsWay_L3 way (way.length : Int) t (startP t, endP t)) 1 way.length (fun i => blkB t (gx (inner t way) ((i : Int) - 1)) (gx (inner t way) (i : Int)) = true) false (fun i a b c => by rw [key i a b, if_pos c]) (fun i a b c => by rw [key i a b, if_neg c]) (by
    unfold ref_IsWay_L3
    have d : decide ((way.length : Int) < (way.length : Int)) = false := by simp
    simp only [d, cond_false]) (way.length - 1) 1 (by omega) (Nat.le_refl _)
theorem marksI_val {t : Task} (h : TaskOK t) (v : List Point) (hv : v.length ≤ 1000) : rforE (v.length : Int) (ref_IsWay_L2 v (XL t, YL t)) (fun s => (Res.nx s : Res Unit Bool)) () = some (if v.any (fun p => !(decide (p.X ∈ XL t) && decide (p.Y ∈ YL t))) = true then Res.ab false else Res.nx ()) := by
  have hX := XL_len h
  have hY := YL_len h
  rw [rforE_any (fun p : Point => !(decide (p.X ∈ XL t) && decide (p.Y ∈ YL t))) (Res.ab false) (by omega) (fun i hi => by
    unfold ref_IsWay_L2
    rw [need_of hi]
    simp only [bnd_eq]
    obtain ⟨a, b, e1, _, _, _, e2, _⟩ := bs_pos (XL t) (gx v i).X (by omega) (gridOf_strict _)
    obtain ⟨a', b', e1', _, _, _, e2', _⟩ := bs_pos (YL t) (gx v i).Y (by omega) (gridOf_strict _)
    rw [e1, e1']
    simp only [bind_sm]
    have h1 : b = decide ((gx v i).X ∈ XL t) := by rw [Bool.eq_iff_iff, decide_eq_true_eq]; exact e2
    have h2 : b' = decide ((gx v i).Y ∈ YL t) := by rw [Bool.eq_iff_iff, decide_eq_true_eq]; exact e2'
    rw [h1, h2]
    cases decide ((gx v i).X ∈ XL t) <;> cases decide ((gx v i).Y ∈ YL t) <;> rfl)]

theorem IsWay_val {t : Task} {l : List Point} (ht : TaskOK t) (hl : ptsErr l = 0) : ∃ b, ref_IsWay t l = some b ∧ (b = true ↔ WayC t l) := by
  have hll := (ptsErr_zero.1 hl).1
  have c1 := ht.c1; have c2 := ht.c2
  have hR := IsRight_eq (l := l) (by omega)
  unfold ref_IsWay
  rw [hR]
  simp only [bind_sm, bnd_eq]
  cases hp : isPath l with
  | false =>
    simp only [Bool.not_false, Bool.true_or, Bool.not_true, gd_false, bind_sm, cond_true]
    refine ⟨false, ?_, ?_⟩
    · rw [need_of (fun h => by cases h), need_of (fun h => by cases h)]
    · refine ⟨fun h => (by cases h), fun h => ?_⟩
      have := (pathErr_zero.1 h.path).2
      rw [hp] at this; cases this
  | true =>
    have hpe : pathErr l = 0 := pathErr_zero.2 ⟨hl, hp⟩
    obtain ⟨hn, hbad⟩ := isPath_iff.1 hp
    have en1 : W ((l.length : Int) - 1) = (l.length : Int) - 1 := Wk (by omega) (by omega)
    have en2 : W ((l.length : Int) - 2) = (l.length : Int) - 2 := Wk (by omega) (by omega)
    have g0 : inR l 0 := ⟨by omega, by omega⟩
    have g1 : inR l 1 := ⟨by omega, by omega⟩
    have gm : inR l ((l.length : Int) - 1) := ⟨by omega, by omega⟩
    have gk : inR l ((l.length : Int) - 2) := ⟨by omega, by omega⟩
    have o0 := okP_at hl g0; have o1 := okP_at hl g1; have om := okP_at hl gm; have ok := okP_at hl gk
    have n0 : ∀ (p : Prop) (m : Option Bool), need (p → inR l 0) m = m := fun p m => need_of (fun _ => g0)
    have n1 : ∀ (p : Prop) (m : Option Bool), need (p → inR l 1) m = m := fun p m => need_of (fun _ => g1)
    have nm : ∀ (p : Prop) (m : Option Bool), need (p → inR l ((l.length : Int) - 1)) m = m := fun p m => need_of (fun _ => gm)
    have nk : ∀ (p : Prop) (m : Option Bool), need (p → inR l ((l.length : Int) - 2)) m = m := fun p m => need_of (fun _ => gk)
    have m0 : ∀ m : Option Bool, need (inR l 0) m = m := fun m => need_of g0
    have m1 : ∀ m : Option Bool, need (inR l 1) m = m := fun m => need_of g1
    simp only [en1, en2, n0, n1, nm, nk, m0, m1, decide_true, Bool.not_true, Bool.false_or]
    cases cF : decide (gx l 0 = t.From) with
    | false => exact ⟨false, by simp, fun h => (by cases h), fun h => absurd h.first (of_decide_eq_false cF)⟩
    | true =>
    cases cT : decide (gx l ((l.length : Int) - 1) = t.To) with
    | false => exact ⟨false, by simp, fun h => (by cases h), fun h => absurd h.last (of_decide_eq_false cT)⟩
    | true =>
    rw [TidyOf_eq hpe]
    simp only [Bool.not_true, Bool.not_false, Bool.or_self, gd_true, bind_sm, cond_false, Bool.false_or]
    rw [Equal_Point_eq _ _ (by have := tidyUpto_len l l.length; omega)]
    simp only [bind_sm]
    obtain ⟨q1, q2⟩ := loop2_eq hll hn
    by_cases cf : ∃ i, 1 ≤ i ∧ i < l.length - 1 ∧ flagAt l i
    · rw [q1 cf]
      simp only [bindR_ab]
      refine ⟨false, ?_, fun h => (by cases h), fun h => ?_⟩
      · cases decide (tidyUpto l l.length = l) <;> rfl
      · obtain ⟨i, a, b, c⟩ := cf
        exact absurd c (h.turns i a b)
    · rw [q2 cf, tidy_same hpe cf]
      have hs1 := sideErr_zero.1 ht.fs
      have hs2 := sideErr_zero.1 ht.ts
      simp only [bindR_nx, decide_true, Bool.not_true, cond_false, bind_sm]
      rw [rEnds_eq ht.from_ ht.to (by omega) (by omega), rtoward_eq, rtoward_eq, way_eq o0 o1]
      simp only [bind_sm]
      cases ca : decide (wayI (gx l 0) (gx l 1) = tow t.FromSide) with
      | false => exact ⟨false, by simp, fun h => (by cases h), fun h => absurd h.out (of_decide_eq_false ca)⟩
      | true =>
      simp only [Bool.not_true, Bool.not_false, gd_true, bind_sm, Bool.false_or]
      rw [way_eq om ok]
      simp only [bind_sm]
      have hback : decide (wayI (gx l ((l.length : Int) - 1)) (gx l ((l.length : Int) - 2)) = tow t.ToSide) = decide (wayI (gx l ((l.length : Int) - 2)) (gx l ((l.length : Int) - 1)) = oppP (tow t.ToSide)) := by
        rw [way_back (gx l ((l.length : Int) - 2)) (gx l ((l.length : Int) - 1)), decide_eq_decide]
        exact ⟨fun h => by rw [← h, opp_opp], fun h => by rw [h, opp_opp]⟩
      rw [hback]
      cases cb : decide (wayI (gx l ((l.length : Int) - 2)) (gx l ((l.length : Int) - 1)) = oppP (tow t.ToSide)) with
      | false => exact ⟨false, by simp, fun h => (by cases h), fun h => absurd h.in_ (of_decide_eq_false cb)⟩
      | true =>
      simp only [Bool.not_true, cond_false]
      rw [Far_eq o0 o1, Far_eq ok om]
      have hW : W (2 * t.Clear) = 2 * t.Clear := Wk (by omega) (by omega)
      rw [hW, Clone_Point_eq hll, gridLines_eq ht]
      simp only [bind_sm, m0]
      have gs : inR (l.set (0 : Int).toNat (startP t)) ((l.length : Int) - 1) := ⟨by omega, by simp; omega⟩
      have hss : segR l.length 1 ((l.length : Int) - 1) := ⟨by omega, by omega, by omega⟩
      have ns : ∀ m : Option Bool, need (inR (l.set (0 : Int).toNat (startP t)) ((l.length : Int) - 1)) m = m := fun m => need_of gs
      have nss : ∀ m : Option Bool, need (segR l.length 1 ((l.length : Int) - 1)) m = m := fun m => need_of hss
      simp only [ns, nss]
      have hsl : (seg l 1 ((l.length : Int) - 1)).length ≤ 1000 := by unfold seg; simp; omega
      have hm := marksI_val ht (seg l 1 ((l.length : Int) - 1)) hsl
      obtain ⟨w1, w2⟩ := wallsI_val ht l ⟨by omega, hll⟩
      change rforE _ (ref_IsWay_L2 _ (gridOf (xv t), gridOf (yv t))) _ _ = _ at hm
      rw [hm]
      -- the marks
      have mk : (seg l 1 ((l.length : Int) - 1)).any (fun p => !(decide (p.X ∈ XL t) && decide (p.Y ∈ YL t))) = true ↔ ¬ ∀ i : Nat, 1 ≤ i → i < l.length - 1 → (gx l (i : Int)).X ∈ XL t ∧ (gx l (i : Int)).Y ∈ YL t := by
        rw [List.any_eq_true]
        constructor
        · rintro ⟨p, hp, hb⟩ hall
          obtain ⟨k, hk, rfl⟩ := List.mem_iff_getElem.1 hp
          unfold seg at hk
          simp at hk
          have e : (seg l 1 ((l.length : Int) - 1))[k] = gx l ((k + 1 : Nat) : Int) := by
            rw [gx_nat (by omega)]
            simp [seg, Nat.add_comm]
          have := hall (k + 1) (by omega) (by omega)
          rw [e, decide_eq_true this.1, decide_eq_true this.2] at hb
          cases hb
        · intro hn'
          obtain ⟨i, hi⟩ := Classical.not_forall.1 hn'
          obtain ⟨h1, hi⟩ := Classical.not_imp.1 hi
          obtain ⟨h2, h3⟩ := Classical.not_imp.1 hi
          refine ⟨gx l (i : Int), ?_, by
            simp only [Bool.not_eq_true', Bool.and_eq_false_iff, decide_eq_false_iff_not]
            by_cases hx : (gx l (i : Int)).X ∈ XL t
            · exact .inr (fun hy => h3 ⟨hx, hy⟩)
            · exact .inl hx⟩
          rw [List.mem_iff_getElem]
          refine ⟨i - 1, by unfold seg; simp; omega, ?_⟩
          rw [gx_nat (by omega)]
          simp only [seg, List.getElem_drop, List.getElem_take]
          congr 1
          have : (1 : Int).toNat = 1 := rfl
          omega
      have fin : ∀ (P : Prop), (WayC t l ↔ P) → ∀ x : Option Bool, (∃ b, x = some b ∧ (b = true ↔ P)) → ∃ b, x = some b ∧ (b = true ↔ WayC t l) := fun P h x ⟨b, h1, h2⟩ => ⟨b, h1, h2.trans h.symm⟩
      have cFe := of_decide_eq_true cF; have cTe := of_decide_eq_true cT; have cae := of_decide_eq_true ca; have cbe := of_decide_eq_true cb
      refine fin (t.Clear ≤ farI (gx l 0) (gx l 1) ∧ t.Clear ≤ farI (gx l ((l.length : Int) - 2)) (gx l ((l.length : Int) - 1)) ∧ (l.length = 2 → 2 * t.Clear ≤ farI (gx l 0) (gx l 1)) ∧ (∀ i : Nat, 1 ≤ i → i < l.length - 1 → (gx l (i : Int)).X ∈ XL t ∧ (gx l (i : Int)).Y ∈ YL t) ∧ ∀ i : Nat, 1 ≤ i → i < l.length → blkB t (gx (inner t l) ((i : Int) - 1)) (gx (inner t l) (i : Int)) = false)
        ⟨fun h => ⟨h.c1, h.c2, h.c3, h.marks, h.free⟩, fun ⟨a, b, c, d, e⟩ => ⟨hpe, cFe, cTe, fun i h1 h2 h3 => cf ⟨i, h1, h2, h3⟩, cae, cbe, a, b, c, d, e⟩⟩ _ ?_
      by_cases hA : farI (gx l 0) (gx l 1) < t.Clear
      · refine ⟨false, ?_, fun h => (by cases h), fun h => by have := h.1; omega⟩
        by_cases a1 : (l.length : Int) = 2 <;> by_cases a2 : farI (gx l 0) (gx l 1) < 2 * t.Clear <;> simp [a1, a2, hA]
      · by_cases hB : farI (gx l ((l.length : Int) - 2)) (gx l ((l.length : Int) - 1)) < t.Clear
        · refine ⟨false, ?_, fun h => (by cases h), fun h => by have := h.2.1; omega⟩
          by_cases a1 : (l.length : Int) = 2 <;> by_cases a2 : farI (gx l 0) (gx l 1) < 2 * t.Clear
          · simp [a1, a2]
          · rw [decide_eq_true a1, gd_true, bind_sm, decide_eq_false a2]
            simp only [Bool.and_false, Bool.not_false, gd_true, bind_sm, Bool.false_or]
            rw [decide_eq_false hA]
            simp only [Bool.not_false, gd_true, bind_sm, Bool.false_or]
            rw [decide_eq_true hB]; rfl
          · simp [a1, a2, hA, hB]
          · simp [a1, a2, hA, hB]
        · by_cases hC : (l.length : Int) = 2 ∧ farI (gx l 0) (gx l 1) < 2 * t.Clear
          · refine ⟨false, ?_, fun h => (by cases h), fun h => by have := h.2.2.1 (by omega); omega⟩
            simp [hC.1, hC.2]
          · have hcond : (decide ((l.length : Int) = 2) && decide (farI (gx l 0) (gx l 1) < 2 * t.Clear)) = false := by
              rw [Bool.eq_false_iff]; simpa using hC
            have gg : ∀ m : Option Int, gd true m = m := fun m => rfl
            by_cases hM : ∀ i : Nat, 1 ≤ i → i < l.length - 1 → (gx l (i : Int)).X ∈ XL t ∧ (gx l (i : Int)).Y ∈ YL t
            · by_cases hF : ∃ j, 1 ≤ j ∧ j < l.length ∧ blkB t (gx (inner t l) ((j : Int) - 1)) (gx (inner t l) (j : Int)) = true
              · refine ⟨false, ?_, fun h => (by cases h), fun h => by
                  obtain ⟨j, a, b, c⟩ := hF
                  rw [h.2.2.2.2 j a b] at c; cases c⟩
                rw [if_neg (fun h => mk.1 h hM), w1 hF]
                cases h2 : decide ((l.length : Int) = 2) <;> cases h3 : decide (farI (gx l 0) (gx l 1) < 2 * t.Clear) <;> simp [h2, h3, hA, hB] at hcond ⊢
              · refine ⟨true, ?_, fun _ => ⟨by omega, by omega, fun h => by
                    have : ¬ farI (gx l 0) (gx l 1) < 2 * t.Clear := fun hh => hC ⟨by omega, hh⟩
                    omega, hM, fun i a b => by
                    cases hz : blkB t (gx (inner t l) ((i : Int) - 1)) (gx (inner t l) (i : Int)) with
                    | false => rfl
                    | true => exact absurd ⟨i, a, b, hz⟩ hF⟩, fun _ => rfl⟩
                rw [if_neg (fun h => mk.1 h hM), w2 hF]
                cases h2 : decide ((l.length : Int) = 2) <;> cases h3 : decide (farI (gx l 0) (gx l 1) < 2 * t.Clear) <;> simp [h2, h3, hA, hB] at hcond ⊢
            · refine ⟨false, ?_, fun h => (by cases h), fun h => absurd h.2.2.2.1 hM⟩
              rw [if_pos (mk.2 hM)]
              cases h2 : decide ((l.length : Int) = 2) <;> cases h3 : decide (farI (gx l 0) (gx l 1) < 2 * t.Clear) <;> simp [h2, h3, hA, hB] at hcond ⊢
end Go.DB
