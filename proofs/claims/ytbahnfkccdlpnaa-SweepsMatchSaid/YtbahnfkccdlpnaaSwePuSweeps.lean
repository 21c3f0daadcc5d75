/-
  SweepsMatch: sweeps, round by round; the law.
-/
import Derived.Test.YtbahnfkccdlpnaaSwePuSweeps2
import Derived.Test.YtbahnfkccdlpnaaSwePuGraph
set_option linter.unusedSimpArgs false
set_option linter.unusedVariables false
namespace Go.DB
open Go Go.RowKit

theorem between_eq {up lo : List Int} {l : List Link} (hu : up.length ≤ 60) (ho : lo.length ≤ 60) (hl : l.length ≤ 200) : ref_between up lo l = some (l.filter (fun x => !((!decide (x.From ∈ up)) || (!decide (x.To ∈ lo))))) := by
  unfold ref_between
  rw [Clone_Link_eq (by omega), Option.bind_some, DeleteFunc_Link_eq l (fun x0 => ref_between_1 x0 up lo) (fun x => (!decide (x.From ∈ up)) || (!decide (x.To ∈ lo))) (by omega) (fun x _ => by
    show ref_between_1 x up lo = _
    unfold ref_between_1
    rw [Contains_int_eq up _ (by omega), Option.bind_some, Contains_int_eq lo _ (by omega)]
    cases decide (x.From ∈ up) <;> rfl), Option.bind_some]
theorem all_both {rows : List (List Int)} {l : List Link} (hr : RowsOK rows) (hl : l.length ≤ 200) : ∃ k, layer_all rows l = some k ∧ ref_allCrossings rows l = some k := by
  obtain ⟨h0, h1⟩ := hr
  unfold layer_all ref_allCrossings
  obtain ⟨k, k', k1, k2, k3⟩ := loop_inv2 (body := layer_all_L1 l rows) (body' := ref_allCrossings_L1 l rows) (s0 := ((0 : Int), (1 : Int))) (t0 := ((0 : Int), (1 : Int))) (fun st st' => st = st' ∧ 1 ≤ st.2 ∧ st.2 ≤ 1001) (fun st => (1001 - st.2).toNat) (fun e e' => e = e') ⟨rfl, by simp, by simp⟩ (fun st st' hI => by
    obtain ⟨rfl, i1, i2⟩ := hI
    obtain ⟨s, i⟩ := st
    simp only at i1 i2
    unfold layer_all_L1 ref_allCrossings_L1
    simp only
    by_cases c : i < rows.length
    · left
      obtain ⟨a1, a2⟩ := h1 (i - 1) (by omega) (by omega)
      obtain ⟨b1, b2⟩ := h1 i (by omega) c
      obtain ⟨U, u1, u2, _⟩ := places_eq (row := gx rows (i - 1)) (by omega)
      obtain ⟨V, v1, v2, _⟩ := places_eq (row := gx rows i) (by omega)
      have n1 : inR rows (i - 1) := ⟨by omega, by omega⟩
      have n2 : inR rows i := ⟨by omega, c⟩
      have hf : l.filter (fun x => !((!(U.has x.From)) || (!(V.has x.To)))) = l.filter (fun x => !((!decide (x.From ∈ gx rows (i - 1))) || (!decide (x.To ∈ gx rows i)))) := List.filter_congr fun x _ => by rw [u2, v2]
      obtain ⟨c1, c2⟩ := crossings_eq (upper := gx rows (i - 1)) (O := gx rows i) (l := l.filter (fun x => !((!decide (x.From ∈ gx rows (i - 1))) || (!decide (x.To ∈ gx rows i))))) a1 b1 a2 b2 (Nat.le_trans (List.length_filter_le _ _) hl) (fun x hx => by
        have := (List.mem_filter.1 hx).2
        simpa using this)
      rw [decide_eq_true c, cond_true, cond_true, Wk (n := i - 1) (by omega) (by omega), need_of n1, need_of n1, u1, Option.bind_some, need_of n2, need_of n2, v1, Option.bind_some, Clone_Link_eq (by omega), Option.bind_some,
        DeleteFunc_Link_eq l (fun x0 => layer_all_1 x0 U V) (fun x => (!(U.has x.From)) || (!(V.has x.To))) (by omega) (fun x _ => rfl), Option.bind_some, need_of n1, need_of n2, hf, c1, Option.bind_some, bnd_eq, Wk (n := i + 1) (by omega) (by omega), bnd_eq,
        need_of n1, need_of n2, between_eq a1 b1 hl, Option.bind_some, c2, Option.bind_some, bnd_eq, bnd_eq]
      exact ⟨_, _, rfl, rfl, ⟨rfl, by simp only; omega, by simp only; omega⟩, by simp only; omega⟩
    · right
      rw [decide_eq_false c, cond_false, cond_false]
      exact ⟨_, _, rfl, rfl, rfl⟩)
  subst k3
  exact ⟨k, by rw [k1]; rfl, by rw [k2]; rfl⟩
theorem copied_eq {rows : List (List Int)} (hr : RowsOK rows) : ref_SweepOf_1 rows = some rows := by
  obtain ⟨h0, h1⟩ := hr
  unfold ref_SweepOf_1
  obtain ⟨s, s1, s2⟩ := rfor_inv (n := (rows.length : Int)) (step := ref_SweepOf_1_L1 rows) (s0 := ([] : List (List Int))) (fun i s => s = rows.take i) (by omega) (by simp) (fun i s hi hs => by
    have hil : i < rows.length := by omega
    have hin : inR rows (i : Int) := ⟨by omega, hi⟩
    have hrow := h1 (i : Int) (by omega) hi
    unfold ref_SweepOf_1_L1
    rw [need_of hin, Clone_int_eqR (by omega), Option.bind_some, need_of (by rw [room_iff, hs]; simp; omega)]
    refine ⟨_, rfl, ?_⟩
    rw [hs, List.take_succ_eq_append_getElem hil, gx_nat hil])
  rw [s1, Option.bind_some, s2, Int.toNat_natCast, List.take_length]
theorem keep_both {now best : List (List Int)} {l : List Link} {least : Int} (hr : RowsOK now) (hl : l.length ≤ 200) : ∃ b' k, layer_sweep_1 now l least best = some (now, k, b') ∧ ref_SweepOf_2 now l least best = some (now, k, b') ∧ (b' = now ∨ b' = best) := by
  obtain ⟨n, n1, n2⟩ := all_both hr hl
  have h1 := hr.1
  unfold layer_sweep_1 ref_SweepOf_2
  rw [n1, n2, Option.bind_some, Option.bind_some, copied_eq hr]
  by_cases c : n < least
  · rw [decide_eq_true c, cond_true, cond_true]
    have : slices_Clone_Lint_own now = some (now, now) := by unfold slices_Clone_Lint_own; rw [need_of (by omega)]
    rw [this, Option.bind_some, Option.bind_some]
    exact ⟨_, _, rfl, rfl, .inl rfl⟩
  · rw [decide_eq_false c, cond_false, cond_false]
    exact ⟨_, _, rfl, rfl, .inr rfl⟩
theorem down_both {rows now : List (List Int)} {l : List Link} (hr : RowsOK rows) (hl : l.length ≤ 200) (h : RowP rows now) : ∃ s, loop (layer_sweep_L2 l) (1, now) = some s ∧ loop (ref_SweepOf_L2 l) (1, now) = some s ∧ RowP rows s := by
  obtain ⟨e, e', e1, e2, rfl, e3⟩ := loop_inv2 (body := layer_sweep_L2 l) (body' := ref_SweepOf_L2 l) (s0 := ((1 : Int), now)) (t0 := ((1 : Int), now)) (fun st st' => st = st' ∧ 1 ≤ st.1 ∧ st.1 ≤ 1001 ∧ RowP rows st.2) (fun st => (1001 - st.1).toNat) (fun e e' => e = e' ∧ RowP rows e) ⟨rfl, by simp, by simp, h⟩ (fun st st' hI => by
    obtain ⟨rfl, i1, i2, i3⟩ := hI
    obtain ⟨i, s⟩ := st
    simp only at i1 i2 i3
    have hs := i3.ok hr
    have hsl := i3.1
    have h0 := hr.1
    unfold layer_sweep_L2 ref_SweepOf_L2
    simp only
    by_cases c : i < s.length
    · left
      have n1 : inR s (i - 1) := ⟨by omega, by omega⟩
      have n2 : inR s i := ⟨by omega, c⟩
      obtain ⟨a1, a2⟩ := hs.2 (i - 1) (by omega) (by omega)
      obtain ⟨b1, b2⟩ := hs.2 i (by omega) c
      obtain ⟨o, o1, o2, o3⟩ := sort_both (dr := Dir.down) (ends := layer_sweep_2) (.inl ⟨rfl, rfl⟩) n2 n1 b1 b2 a1 a2 hl (fun x => rfl)
      rw [decide_eq_true c, cond_true, cond_true, need_of n2, Wk (n := i - 1) (by omega) (by omega), need_of n1, o1, o2, Option.bind_some, Option.bind_some, need_of n2, bnd_eq, Wk (by omega) (by omega), bnd_eq]
      exact ⟨_, _, rfl, rfl, ⟨rfl, by simp only; omega, by simp only; omega, i3.put (by omega) (by omega) o3⟩, by simp only; omega⟩
    · right
      rw [decide_eq_false c, cond_false, cond_false]
      exact ⟨_, _, rfl, rfl, rfl, i3⟩)
  exact ⟨e, e1, e2, e3⟩
theorem up_both {rows now : List (List Int)} {l : List Link} {i0 : Int} (hr : RowsOK rows) (hl : l.length ≤ 200) (h : RowP rows now) (h0 : -10 ≤ i0 ∧ i0 + 1 < rows.length ∨ i0 < 0 ∧ -10 ≤ i0) :
    ∃ s, loop (layer_sweep_L3 l) (i0, now) = some s ∧ loop (ref_SweepOf_L3 l) (i0, now) = some s ∧ RowP rows s := by
  obtain ⟨e, e', e1, e2, rfl, e3⟩ := loop_inv2 (body := layer_sweep_L3 l) (body' := ref_SweepOf_L3 l) (s0 := (i0, now)) (t0 := (i0, now)) (fun st st' => st = st' ∧ (-10 ≤ st.1 ∧ st.1 + 1 < rows.length ∨ st.1 < 0 ∧ -10 ≤ st.1) ∧ RowP rows st.2) (fun st => (st.1 + 11).toNat) (fun e e' => e = e' ∧ RowP rows e) ⟨rfl, h0, h⟩ (fun st st' hI => by
    obtain ⟨rfl, i2, i3⟩ := hI
    obtain ⟨i, s⟩ := st
    simp only at i2 i3
    have hs := i3.ok hr
    have hsl := i3.1
    have hrl := hr.1
    unfold layer_sweep_L3 ref_SweepOf_L3
    simp only
    by_cases c : 0 ≤ i
    · left
      have n1 : inR s (i + 1) := ⟨by omega, by omega⟩
      have n2 : inR s i := ⟨c, by omega⟩
      obtain ⟨a1, a2⟩ := hs.2 (i + 1) (by omega) (by omega)
      obtain ⟨b1, b2⟩ := hs.2 i c (by omega)
      obtain ⟨o, o1, o2, o3⟩ := sort_both (dr := Dir.up) (ends := layer_sweep_3) (.inr ⟨rfl, rfl⟩) n2 n1 b1 b2 a1 a2 hl (fun x => rfl)
      rw [decide_eq_true c, cond_true, cond_true, need_of n2, Wk (n := i + 1) (by omega) (by omega), need_of n1, o1, o2, Option.bind_some, Option.bind_some, need_of n2, bnd_eq, Wk (by omega) (by omega), bnd_eq]
      exact ⟨_, _, rfl, rfl, ⟨rfl, by simp only; omega, i3.put c (by omega) o3⟩, by simp only; omega⟩
    · right
      rw [decide_eq_false c, cond_false, cond_false]
      exact ⟨_, _, rfl, rfl, rfl, i3⟩)
  exact ⟨e, e1, e2, e3⟩
theorem sweep_both {rows : List (List Int)} {l : List Link} {rounds : Int} (hr : RowsOK rows) (hl : l.length ≤ 200) (hn : rounds ≤ 20) : ∃ out k, layer_sweep rows l rounds = some (out, k) ∧ ref_SweepOf rows l rounds = some (out, k) ∧ RowP rows out := by
  have hr0 := hr.1
  have hlen : rows.length ≤ 1073741824 := by omega
  obtain ⟨a, ha, ha'⟩ := all_both hr hl
  unfold layer_sweep ref_SweepOf
  have ho : slices_Clone_Lint_own rows = some (rows, rows) := by unfold slices_Clone_Lint_own; rw [need_of hlen]
  rw [Clone_Lint_eq hlen, Option.bind_some, ho, Option.bind_some, ha, Option.bind_some, copied_eq hr, Option.bind_some, copied_eq hr, Option.bind_some, ha', Option.bind_some]
  obtain ⟨s, s', s1, s2, rfl, s3, s4⟩ := rfor_inv2 (n := rounds) (step := layer_sweep_L1 l) (step' := ref_SweepOf_L1 l) (s0 := (rows, rows, a)) (t0 := (rows, rows, a)) (fun _ s t => s = t ∧ RowP rows s.1 ∧ RowP rows s.2.1) (by omega) ⟨rfl, .refl, .refl⟩ (fun i s t _ hI => by
    obtain ⟨rfl, i1, i2⟩ := hI
    unfold layer_sweep_L1 ref_SweepOf_L1
    obtain ⟨d, d1, d2, d3⟩ := down_both hr hl i1
    obtain ⟨b, k, k1, k2, k3⟩ := keep_both (l := l) (best := s.2.1) (least := s.2.2) (d3.ok hr) hl
    have hdl := d3.1
    rw [d1, d2, Option.bind_some, Option.bind_some, k1, k2, Option.bind_some, Option.bind_some, bnd_eq, bnd_eq]
    simp only
    rw [Wk (by omega) (by omega)]
    obtain ⟨u, u1, u2, u3⟩ := up_both (i0 := (d.length : Int) - 2) hr hl d3 (by omega)
    have hb : RowP rows b := by
      rcases k3 with e | e
      · rw [e]; exact d3
      · rw [e]; exact i2
    obtain ⟨b', k', q1, q2, q3⟩ := keep_both (l := l) (best := b) (least := k) (u3.ok hr) hl
    rw [u1, u2, Option.bind_some, Option.bind_some, q1, q2, Option.bind_some]
    refine ⟨_, _, rfl, rfl, rfl, u3, ?_⟩
    rcases q3 with e | e
    · simp only; rw [e]; exact u3
    · simp only; rw [e]; exact hb)
  rw [s1, s2, Option.bind_some, Option.bind_some]
  obtain ⟨t, t1, t2⟩ := rfor_inv (n := (s.2.1.length : Int)) (step := layer_sweep_L4) (s0 := s.2.1) (fun _ t => t = s.2.1) (by have := s4.1; omega) rfl (fun i t hi hI => by
    subst hI
    unfold layer_sweep_L4
    have hin : inR s.2.1 (i : Int) := ⟨by omega, hi⟩
    have hrow := (s4.ok hr).2 (i : Int) (by omega) hi
    rw [need_of hin, Clone_int_eqR (by have := hrow.1; omega), Option.bind_some, need_of hin]
    refine ⟨_, rfl, ?_⟩
    have h2 : i < s.2.1.length := by have := hin.2; omega
    rw [gx_nat h2, Int.toNat_natCast]
    exact List.set_getElem_self h2)
  rw [t1, Option.bind_some, t2]
  exact ⟨_, _, rfl, rfl, s4⟩

/-! Errors. -/

def lnkE (m : GMap Int Int) (x : Link) : Int := if ((!(m.has x.From)) || (!(m.has x.To))) = true then 10 else if m.getD x.To 0 = W (m.getD x.From 0 + 1) then 0 else 7
theorem rows_step (rows : List (List Int)) : layer_checkRows_L1 rows = ref_SweepError_L1 rows := by
  funext i s
  unfold layer_checkRows_L1 ref_SweepError_L1
  simp only [checkRow_eq, RowError_eq]
  rfl
theorem err_both {rows : List (List Int)} {l : List Link} {rounds : Int} (hll : (l.length : Int) ≤ 9223372036854775807) :
    (∃ e, e ≠ 0 ∧ layer_checkRows rows l = some e ∧ ref_SweepError rows l rounds = some e) ∨
    (layer_checkRows rows l = some 0 ∧ ref_SweepError rows l rounds = some (if 0 ≤ rounds ∧ rounds ≤ 20 then 0 else 3) ∧ RowsOK rows ∧ l.length ≤ 200) := by
  unfold layer_checkRows ref_SweepError
  by_cases h60 : 60 < rows.length
  · left
    refine ⟨4, by decide, ?_, ?_⟩
    · rw [decide_eq_true (by omega), cond_true]
    · rw [decide_eq_true (by omega), cond_true]
  · rw [decide_eq_false (by omega), cond_false, cond_false, bnd_eq, bnd_eq, rows_step]
    obtain ⟨e, e1, e2⟩ := rforE_inv (n := (rows.length : Int)) (step := ref_SweepError_L1 rows) (fin := fun s => (Res.nx s : Res (GMap Int Int) Int)) (s0 := GMap.nil) (fun i _ => ∀ j, j < i → rowErr (gx rows (j : Int)) = 0)
      (fun e => (∃ m, e = .nx m ∧ ∀ j, j < rows.length → rowErr (gx rows (j : Int)) = 0) ∨ ∃ c, c ≠ 0 ∧ e = .ab c) (by omega) (fun j hj => by omega) (fun i s hi hI => by
        have hin : inR rows (i : Int) := ⟨by omega, hi⟩
        unfold ref_SweepError_L1
        rw [need_of hin, bnd_eq, RowError_eq, Option.bind_some]
        by_cases c : rowErr (gx rows (i : Int)) = 0
        · rw [decide_eq_true c, Bool.not_true, cond_false]
          have hrl := (rowErr_zero c).1
          obtain ⟨e, e1, e2⟩ := rforE_inv (n := ((gx rows (i : Int)).length : Int)) (step := ref_SweepError_L2 (gx rows (i : Int)) ((i : Int), s)) (fin := fun s => (Res.nx s : Res (GMap Int Int) (Res (GMap Int Int) Int))) (s0 := s) (fun _ _ => True) (fun e => (∃ m, e = .nx m) ∨ e = .ab (.ab 6)) (by omega) trivial (fun k m hk _ => by
            unfold ref_SweepError_L2
            rw [need_of ⟨by omega, hk⟩, bnd_eq]
            cases m.has (gx (gx rows (i : Int)) (k : Int)) with
            | true => exact .inr ⟨_, rfl, .inr rfl⟩
            | false => exact .inl ⟨_, rfl, trivial⟩) (fun m _ => .inl ⟨m, rfl⟩)
          rw [e1]
          rcases e2 with ⟨m, rfl⟩ | rfl
          · left
            refine ⟨_, rfl, fun j hj => ?_⟩
            by_cases hji : j = i
            · rw [hji]; exact c
            · exact hI j (by omega)
          · right
            exact ⟨_, rfl, .inr ⟨6, by decide, rfl⟩⟩
        · right
          rw [decide_eq_false c, Bool.not_false, cond_true]
          exact ⟨_, rfl, .inr ⟨_, c, rfl⟩⟩) (fun m hI => .inl ⟨m, rfl, fun j hj => hI j (by simpa using hj)⟩)
    rw [e1]
    rcases e2 with ⟨m, rfl, hm⟩ | ⟨c, hc, rfl⟩
    · rw [bindR_nx, bindR_nx]
      by_cases h200 : 200 < l.length
      · left
        refine ⟨4, by decide, ?_, ?_⟩
        · rw [decide_eq_true (by omega), cond_true]
        · rw [decide_eq_true (by omega), cond_true]
      · rw [decide_eq_false (by omega), cond_false, cond_false]
        have p1 := rforE_err (l := l) (step := layer_checkRows_L3 l m) (fin := fun s => (Res.nx s : Res Unit Int)) (lnkE m) (fun e => Res.ab e) hll (fun i hi => by
          unfold layer_checkRows_L3 lnkE
          rw [need_of hi, bnd_eq]
          cases (!(m.has (gx l i).From)) || (!(m.has (gx l i).To)) with
          | true => rfl
          | false =>
            by_cases c : m.getD (gx l i).To 0 = W (m.getD (gx l i).From 0 + 1)
            · simp [c]
            · simp [c])
        have p2 := rforE_err (l := l) (step := ref_SweepError_L3 l m) (fin := fun s => (Res.nx s : Res Unit Int)) (lnkE m) (fun e => Res.ab e) hll (fun i hi => by
          unfold ref_SweepError_L3 lnkE
          rw [need_of hi, bnd_eq, When_eq, Option.bind_some, When_eq, Option.bind_some, First_eq (by simp)]
          cases (!(m.has (gx l i).From)) || (!(m.has (gx l i).To)) with
          | true => rfl
          | false =>
            by_cases c : m.getD (gx l i).To 0 = W (m.getD (gx l i).From 0 + 1)
            · simp [c]
            · simp [c])
        rw [p1, p2]
        by_cases c : firstErr (l.map (lnkE m)) = 0
        · right
          rw [if_pos c]
          refine ⟨rfl, ?_, ⟨by omega, fun k k0 k1 => ?_⟩, by omega⟩
          · rw [bindR_nx, In_eq, Option.bind_some, When_eq, Option.bind_some]
            by_cases d : 0 ≤ rounds ∧ rounds ≤ 20
            · rw [decide_eq_true d, if_pos d]; rfl
            · rw [decide_eq_false d, if_neg d]; rfl
          · have := rowErr_zero (hm k.toNat (by omega))
            rw [show ((k.toNat : Nat) : Int) = k by omega] at this
            exact ⟨this.1, this.2.1⟩
        · left
          rw [if_neg c]
          exact ⟨_, c, rfl, rfl⟩
    · left
      exact ⟨c, hc, rfl, rfl⟩
theorem EqualFunc_self {s : List (List Int)} (hr : RowsOK s) : slices_EqualFunc_Lint s s law_SweepsMatch_1 = some true := by
  have h0 := hr.1
  unfold slices_EqualFunc_Lint
  rw [decide_eq_true rfl, Bool.not_true, cond_false]
  obtain ⟨e, e1, e2⟩ := rforE_inv (n := (s.length : Int)) (step := slices_EqualFunc_Lint_L1 law_SweepsMatch_1 s s) (fin := fun s => (Res.nx s : Res Unit Bool)) (s0 := ()) (fun _ _ => True) (fun e => e = Res.nx ()) (by omega) trivial (fun i u hi _ => by
    left
    have hin : inR s (i : Int) := ⟨by omega, hi⟩
    have hrow := hr.2 (i : Int) (by omega) hi
    unfold slices_EqualFunc_Lint_L1 law_SweepsMatch_1
    rw [need_of hin, need_of hin, Equal_int_eq _ _ (by omega)]
    simp only [decide_true, Option.bind_some, Bool.not_true, cond_false]
    exact ⟨(), trivial, trivial⟩) (fun u _ => by cases u; rfl)
  rw [e1, e2]; rfl
theorem SweepsMatch_true (rows : List (List Int)) (l : List Link) (rounds : Int) (hf : fits l) : law_SweepsMatch rows l rounds = some true := by
  have hll : (l.length : Int) ≤ 9223372036854775807 := by have := hf.1; omega
  unfold law_SweepsMatch layer_Sweep
  rw [layers_eq]
  rcases err_both (rows := rows) (rounds := rounds) hll with ⟨e, he, h1, h2⟩ | ⟨h1, h2, hr, hl⟩
  · rw [h1, h2]
    simp only [Option.bind_some, decide_eq_false he, Bool.not_false, cond_true, Bool.or_true]
    simp
  · rw [h1, h2]
    by_cases c : 0 ≤ rounds ∧ rounds ≤ 20
    · obtain ⟨out, k, o1, o2, o3⟩ := sweep_both hr hl c.2
      have hor := o3.ok hr
      simp only [Option.bind_some, if_pos c, decide_eq_false (show ¬ rounds < 0 by omega), decide_eq_false (show ¬ 20 < rounds by omega), o1, o2, decide_true, Bool.not_true, cond_false, Bool.or_self, gd_true, Bool.and_self, EqualFunc_self hor]
      cases (decide (5 < rounds) || decide (60 < (l.length : Int))) <;> rfl
    · have hb : (decide (rounds < 0) || decide (20 < rounds)) = true := by
        rw [Bool.or_eq_true, decide_eq_true_eq, decide_eq_true_eq]; omega
      simp only [Option.bind_some, if_neg c, hb, decide_true, Bool.not_true, cond_false, cond_true]
      simp
end Go.DB
