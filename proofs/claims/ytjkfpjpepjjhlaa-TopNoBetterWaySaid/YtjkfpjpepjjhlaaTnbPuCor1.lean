/-
  The bends of a way.
-/
import Derived.Test.YtjkfpjpepjjhlaaTnbPuRch2
set_option linter.unusedSimpArgs false
set_option linter.unusedVariables false
namespace Go.DB
open Go Go.RowKit

/-- Where a way bends. -/
noncomputable def cor (t : Task) : List Route_spot → List Point
  | a :: b :: r => (if b.side = a.side then [] else [ptS t a]) ++ cor t (b :: r)
  | _ => []
theorem cor_snoc (t : Task) (a b : Route_spot) : ∀ l : List Route_spot, cor t (l ++ [a, b]) = cor t (l ++ [a]) ++ (if b.side = a.side then [] else [ptS t a])
  | [] => by simp [cor]
  | [x] => by simp [cor]
  | x :: y :: l => by
    have ih := cor_snoc t a b (y :: l)
    simp only [List.cons_append, cor] at ih ⊢
    rw [ih, List.append_assoc]
theorem Tr.last {nx : Route_spot → Int → Option (Route_spot × Int)} {fr to q : Route_spot} {l : List Route_spot} {b n : Int} (h : Tr nx fr to l q b n) : ∃ l0, l = l0 ++ [q] := by
  cases h with
  | one => exact ⟨[], rfl⟩
  | snoc _ _ _ => exact ⟨_, rfl⟩
theorem Tr.cor {t : Task} {nx : Route_spot → Int → Option (Route_spot × Int)} {fr to p q : Route_spot} {l : List Route_spot} {b n : Int} (h : Tr nx fr to l p b n) : cor t (l ++ [q]) = cor t l ++ (if q.side = p.side then [] else [ptS t p]) := by
  obtain ⟨l0, rfl⟩ := h.last
  have := cor_snoc t p q l0
  simpa using this
theorem Tr.all {s : Route_search} {nx : Route_spot → Int → Option (Route_spot × Int)} (hS : Sea s nx) {fr to q : Route_spot} (hf : InS s fr) (ht : InS s to) {l : List Route_spot} {b n : Int} (h : Tr nx fr to l q b n) : InS s q ∧ ∀ p ∈ l, InS s p := by
  induction h with
  | one => exact ⟨hf, fun p hp => by rw [List.mem_singleton.1 hp]; exact hf⟩
  | snoc _ _ hE ih =>
    have hq := edge_in hS ih.1 ht hE
    refine ⟨hq, fun p hp => ?_⟩
    rcases List.mem_append.1 hp with hp | hp
    · exact ih.2 p hp
    · rw [List.mem_singleton.1 hp]; exact hq

/-- The program's bends are these. -/
theorem bends_eq {t : Task} {s : Route_search} (eX : s.xs = XL t) (eY : s.ys = YL t) {way : List Route_spot} (hw : ∀ p ∈ way, InS s p) (h1 : 1 ≤ way.length) (hl : way.length ≤ 10000000) (ok : Bool) : loop (route_Route_L1 s (way, ok)) ([t.From], 1) = some ([t.From] ++ cor t way) := by
  have hcl : ∀ l : List Route_spot, (cor t l).length ≤ l.length := by
    intro l
    induction l with
    | nil => simp [cor]
    | cons a r ih =>
      cases r with
      | nil => simp [cor]
      | cons b r =>
        simp only [cor, List.length_append, List.length_cons] at ih ⊢
        split <;> simp <;> omega
  obtain ⟨e, he, rfl⟩ := loop_inv (body := route_Route_L1 s (way, ok)) (s0 := ([t.From], (1 : Int))) (fun st => ∃ i : Nat, st = ([t.From] ++ cor t (way.take i), (i : Int)) ∧ 1 ≤ i ∧ i ≤ way.length) (fun st => (way.length - st.2).toNat) (fun e => e = [t.From] ++ cor t way)
    ⟨1, by
      cases way with
      | nil => simp at h1
      | cons a r => simp [cor], Nat.le_refl _, h1⟩ (by
    rintro st ⟨i, rfl, i1, i2⟩
    unfold route_Route_L1
    simp only
    by_cases c : i = way.length
    · right
      subst c
      exact ⟨_, by rw [decide_eq_false (by omega), cond_false], by rw [List.take_length]⟩
    · left
      have e1 : gx way (i : Int) = way[i] := gx_nat (by omega)
      have e2 : gx way ((i : Int) - 1) = way[i - 1] := by rw [show (i : Int) - 1 = ((i - 1 : Nat) : Int) by omega]; exact gx_nat (by omega)
      have hp := hw way[i - 1] (List.getElem_mem _)
      have hx : inR s.xs (way[i - 1]).x := ⟨hp.x0, hp.x1⟩
      have hy : inR s.ys (way[i - 1]).y := ⟨hp.y0, hp.y1⟩
      have hr : inR way (i : Int) := ⟨by omega, by omega⟩
      have hr1 : inR way ((i : Int) - 1) := ⟨by omega, by omega⟩
      have hcor : cor t (way.take (i + 1)) = cor t (way.take i) ++ (if (way[i]).side = (way[i - 1]).side then [] else [ptS t way[i - 1]]) := by
        have t1 : way.take (i + 1) = way.take (i - 1) ++ [way[i - 1], way[i]] := by
          rw [List.take_succ_eq_append_getElem (by omega)]
          have : way.take i = way.take (i - 1) ++ [way[i - 1]] := by
            have := List.take_succ_eq_append_getElem (l := way) (i := i - 1) (by omega)
            rw [show i - 1 + 1 = i by omega] at this
            exact this
          rw [this, List.append_assoc]; rfl
        have t2 : way.take i = way.take (i - 1) ++ [way[i - 1]] := by
          have := List.take_succ_eq_append_getElem (l := way) (i := i - 1) (by omega)
          rw [show i - 1 + 1 = i by omega] at this
          exact this
        rw [t1, t2, cor_snoc]
      have hroom := hcl (way.take i)
      rw [List.length_take] at hroom
      rw [decide_eq_true (show ((i : Nat) : Int) < (way.length : Int) by omega), cond_true, need_of hr, Wk (n := (i : Int) - 1) (by omega) (by omega), need_of hr1, e1, e2]
      by_cases cs : (way[i]).side = (way[i - 1]).side
      · rw [decide_eq_true cs]
        simp only [Bool.not_true, cond_false, bind_sm, bnd_eq]
        rw [Wk (by omega) (by omega)]
        exact ⟨_, rfl, ⟨i + 1, by rw [hcor, if_pos cs, List.append_nil]; simp, by omega, by omega⟩, by simp only; omega⟩
      · rw [decide_eq_false cs]
        simp only [Bool.not_false, cond_true]
        rw [need_of hr1, need_of hx, need_of hr1, need_of hy, need_of (by rw [room_iff]; simp; omega), bind_sm, bnd_eq, Wk (by omega) (by omega)]
        refine ⟨_, rfl, ⟨i + 1, ?_, by omega, by omega⟩, by simp only; omega⟩
        rw [hcor, if_neg cs]
        simp [ptS, eX, eY])
  exact he

/-- Bends one behind the other: the last one, in which direction it goes on, and the length so far. -/
inductive Cs (t : Task) : List Point → Point → Int → Int → Prop
  | nil : Cs t [] (startP t) t.FromSide 0
  | snoc {C : List Point} {o c : Point} {s s' n e : Int} : Cs t C o s n → c.X = o.X + e * (tow s).X → c.Y = o.Y + e * (tow s).Y → 0 ≤ e → (C ≠ [] → 0 < e) → blkB t o c = false → c.X ∈ XL t → c.Y ∈ YL t → s' ≠ s → s' ≠ backS s → 1 ≤ s' → s' ≤ 4 → Cs t (C ++ [c]) c s' (n + e)

theorem blk_join {t : Task} (h : TaskOK t) {a b c : Point} {s k l : Int} (h1 : b.X = a.X + k * (tow s).X) (h2 : b.Y = a.Y + k * (tow s).Y) (h3 : c.X = b.X + l * (tow s).X) (h4 : c.Y = b.Y + l * (tow s).Y) (hk : 0 ≤ k) (hl : 0 ≤ l)
    (f1 : blkB t a b = false) (f2 : blkB t b c = false) : blkB t a c = false := by
  rw [Bool.eq_false_iff]
  intro hx
  obtain ⟨w, hw, hz⟩ := blkB_iff.1 hx
  have hlt := zn_lt h hw
  have : inZ (zn t w) a b ∨ inZ (zn t w) b c := by
    unfold inZ at hz ⊢
    rcases tow_cases s with e | e | e | e <;> rw [e] at h1 h2 h3 h4 <;> simp only at h1 h2 h3 h4 <;> omega
  rcases this with hz | hz
  · rw [blkB_iff.2 ⟨w, hw, hz⟩] at f1; cases f1
  · rw [blkB_iff.2 ⟨w, hw, hz⟩] at f2; cases f2
theorem blk_end {t : Task} {a b : Point} (f : blkB t a b = false) : blkB t b b = false := by
  rw [Bool.eq_false_iff]
  intro hx
  obtain ⟨w, hw, hz⟩ := blkB_iff.1 hx
  have : inZ (zn t w) a b := by unfold inZ at hz ⊢; omega
  rw [blkB_iff.2 ⟨w, hw, this⟩] at f; cases f

/-- A way's bends. -/
theorem tr_cs {t : Task} (h : TaskOK t) {s : Route_search} (hS : Sea s (nxT t)) (eX : s.xs = XL t) (eY : s.ys = YL t) {fr to : Route_spot} (hE : EndsN t fr to) (hf : InS s fr) (ht : InS s to) (hfree : blkB t (startP t) (startP t) = false) {l : List Route_spot} {q : Route_spot} {b n : Int} (htr : Tr (nxT t) fr to l q b n) :
    ∃ o m k, Cs t (cor t l) o q.side m ∧ ((cor t l).length : Int) = b ∧ (ptS t q).X = o.X + k * (tow q.side).X ∧ (ptS t q).Y = o.Y + k * (tow q.side).Y ∧ 0 ≤ k ∧ (cor t l ≠ [] → 0 < k ∨ q = to) ∧ blkB t o (ptS t q) = false ∧ n = m + k := by
  induction htr with
  | one => exact ⟨startP t, 0, 0, by rw [hE.fs]; exact .nil, rfl, by rw [hE.fp]; simp, by rw [hE.fp]; simp, Int.le_refl _, fun hn => absurd rfl hn, by rw [hE.fp]; exact hfree, rfl⟩
  | @snoc l p b n q b' n' htr hne hEd ih =>
    obtain ⟨o, m, k, i1, i2, i3, i4, i5, i6, i7, i8⟩ := ih
    have hp := (htr.all hS hf ht).1
    have hmx : (ptS t p).X ∈ XL t := gx_mem ⟨hp.x0, by rw [← eX]; exact hp.x1⟩
    have hmy : (ptS t p).Y ∈ YL t := gx_mem ⟨hp.y0, by rw [← eY]; exact hp.y1⟩
    have hk : cor t l ≠ [] → 0 < k := fun hn => (i6 hn).resolve_right hne
    rw [htr.cor]
    rcases hEd with ⟨side, s1, s4, hb, hn, hbb⟩ | ⟨rfl, hx, hy, hs, rfl, rfl⟩
    · obtain ⟨g1, g2, g3, g4⟩ := hS.ok p side q n' hp s1 s4 hn
      -- where the next crossing lies
      have hnx := hn
      unfold nxT at hnx
      split at hnx
      · rename_i hc
        obtain ⟨hon, hblk⟩ := hc
        simp only [Option.some.injEq, Prod.mk.injEq] at hnx
        obtain ⟨hq, hfar⟩ := hnx
        subst hq
        have hpo : OnN t p := ⟨hp.x0, by rw [← eX]; exact hp.x1, hp.y0, by rw [← eY]; exact hp.y1⟩
        have hline : (ptS t (sd p side)).X = (ptS t p).X + n' * (tow side).X ∧ (ptS t (sd p side)).Y = (ptS t p).Y + n' * (tow side).Y := by
          have sx := gridOf_strict (xv t); have sy := gridOf_strict (yv t)
          change (XL t).Pairwise (· < ·) at sx
          change (YL t).Pairwise (· < ·) at sy
          obtain ⟨p1, p2, p3, p4⟩ := hpo
          obtain ⟨o1, o2, o3, o4⟩ := hon
          rw [← hfar]
          unfold farI ptS sd at *
          simp only at *
          rcases tow_cases side with c | c | c | c <;> rw [c] at o1 o2 o3 o4 ⊢ <;> simp only [Int.mul_zero, Int.add_zero] at o1 o2 o3 o4 ⊢
          · have := gx_lt sy (a := p.y + -1) (b := p.y) o3 (by omega) p4
            refine ⟨?_, ?_⟩ <;> first | trivial | omega
          · have := gx_lt sx (a := p.x) (b := p.x + 1) p1 (by omega) o2
            refine ⟨?_, ?_⟩ <;> first | trivial | omega
          · have := gx_lt sy (a := p.y) (b := p.y + 1) p3 (by omega) o4
            refine ⟨?_, ?_⟩ <;> first | trivial | omega
          · have := gx_lt sx (a := p.x + -1) (b := p.x) o1 (by omega) p2
            refine ⟨?_, ?_⟩ <;> first | trivial | omega
        have hsd : (sd p side).side = side := rfl
        by_cases cs : side = p.side
        · subst cs
          rw [if_pos hsd, List.append_nil, hbb, if_pos rfl, Int.add_zero]
          refine ⟨o, m, k + n', i1, i2, ?_, ?_, by omega, fun hn => .inl (by have := hk hn; omega), ?_, by omega⟩
          · rw [hline.1, i3, hsd, Int.add_mul]; omega
          · rw [hline.2, i4, hsd, Int.add_mul]; omega
          · exact blk_join h i3 i4 hline.1 hline.2 i5 (by omega) i7 hblk
        · rw [if_neg (by rw [hsd]; exact cs), hbb, if_neg cs]
          refine ⟨ptS t p, m + k, n', .snoc i1 i3 i4 i5 hk i7 hmx hmy cs hb s1 s4, by rw [List.length_append, List.length_singleton]; omega, hline.1, hline.2, by omega, fun _ => .inl g3, hblk, by omega⟩
      · cases hnx
    · have hside : q.side ≠ p.side := fun e => hne (by cases p; cases q; simp_all)
      have hpt : ptS t q = ptS t p := by unfold ptS; rw [hx, hy]
      rw [if_neg hside]
      refine ⟨ptS t p, m + k, 0, .snoc i1 i3 i4 i5 hk i7 hmx hmy hside (fun e => hs (by rw [e, back_back hp.s1 hp.s4])) ht.s1 ht.s4, by rw [List.length_append, List.length_singleton]; omega, by rw [hpt]; simp, by rw [hpt]; simp, Int.le_refl _, fun _ => .inr rfl, by rw [hpt]; exact blk_end i7, by omega⟩
end Go.DB
