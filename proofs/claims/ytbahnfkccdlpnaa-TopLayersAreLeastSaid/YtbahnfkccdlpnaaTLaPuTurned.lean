/-
  Links against the way of a walk in depth: what they are.
-/
import Derived.Test.YtbahnfkccdlpnaaTLaPuGraph
set_option linter.unusedSimpArgs false
set_option linter.unusedVariables false
namespace Go.DB
open Go Go.RowKit

theorem gx_setJ {st : List Int} {v j k : Int} (hv : inR st v) (hj : 0 ≤ j) : gx (st.set v.toNat k) j = if j = v then k else gx st j := by
  obtain ⟨h0, h1⟩ := hv
  unfold gx
  rw [List.getElem?_set]
  by_cases h : j = v
  · subst h
    have : j.toNat < st.length := by omega
    simp [this]
  · have : ¬ v.toNat = j.toNat := by omega
    simp [this, h]
theorem nodup_few : ∀ (n : Nat) (l : List Int), l.Nodup → (∀ k ∈ l, 0 ≤ k ∧ k < n) → l.length ≤ n
  | 0, [], _, _ => by simp
  | 0, x :: l, _, h => by have := h x (by simp); omega
  | n + 1, l, hn, h => by
    have h1 := nodup_few n (l.erase (n : Int)) (hn.erase _) (fun k hk => by
      have := h k (List.mem_of_mem_erase hk)
      have hne : k ≠ (n : Int) := fun e => by subst e; exact absurd hk (fun hk => by rw [hn.mem_erase_iff] at hk; exact hk.1 rfl)
      omega)
    rw [List.length_erase] at h1
    split at h1 <;> omega
/-- An invariant of loops that are alike. -/
theorem rfor_invU {σ : Type} {n : Int} {step : Nat → Int → σ → Option σ} {s0 : σ} (P : Nat → Prop) (I : Nat → σ → Prop) (hn : n ≤ 9223372036854775807) (h0 : I 0 s0)
    (hs : ∀ (i : Nat) s, (i : Int) < n → I i s → ∃ s', (∀ m, P m → step m i s = some s') ∧ I (i + 1) s') : ∃ s, (∀ m, P m → rfor n (step m) s0 = some s) ∧ I n.toNat s := by
  have key : ∀ (k i : Nat) (s : σ), i + k = n.toNat → I i s → ∃ e, (∀ m, P m → rgo (step m) k (i : Int) s = some e) ∧ I n.toNat e := by
    intro k
    induction k with
    | zero => intro i s hk hI; exact ⟨_, fun m hm => rfl, by rw [← hk]; exact hI⟩
    | succ k ih =>
      intro i s hk hI
      obtain ⟨s', h1, h2⟩ := hs i s (by omega) hI
      obtain ⟨e, h3, h4⟩ := ih (i + 1) s' (by omega) h2
      refine ⟨e, fun m hm => ?_, h4⟩
      simp only [rgo]
      rw [h1 m hm]
      simpa using h3 m hm
  obtain ⟨e, h1, h2⟩ := key n.toNat 0 s0 (by omega) h0
  exact ⟨e, fun m hm => by rw [rfor_eq hn]; exact h1 m hm, h2⟩

def OKl (n : Nat) (l : List Link) : Prop := l.length ≤ 200 ∧ ∀ j, inR l j → (0 ≤ (gx l j).From ∧ (gx l j).From < n) ∧ (0 ≤ (gx l j).To ∧ (gx l j).To < n) ∧ (gx l j).From ≠ (gx l j).To
def zeros (st : List Int) : Nat := st.countP fun x => decide (x = 0)
theorem zeros_pos {st : List Int} {v : Int} (hv : inR st v) (h : gx st v = 0) : 1 ≤ zeros st := by
  have := gx_mem hv
  rw [h] at this
  exact List.countP_pos_iff.2 ⟨0, this, by simp⟩
theorem zeros_one {st : List Int} {v : Int} (hv : inR st v) (h : gx st v = 0) : zeros (st.set v.toNat 1) < zeros st := by
  have h1 := zeros_pos hv h
  have hlt : v.toNat < st.length := by have := hv.1; have := hv.2; omega
  rw [gx_get hv] at h
  unfold zeros at *
  rw [List.countP_set (by exact hlt), h]
  simp; omega
theorem zeros_two {st : List Int} {v : Int} (hv : inR st v) (h : gx st v = 1) : zeros (st.set v.toNat 2) ≤ zeros st := by
  have hlt : v.toNat < st.length := by have := hv.1; have := hv.2; omega
  rw [gx_get hv] at h
  unfold zeros at *
  rw [List.countP_set (by exact hlt), h]
  simp

/-- What is known on the way: when the finished ones were finished. -/
structure Tv (n : Nat) (l : List Link) (st out : List Int) (T : Int → Nat) (c : Nat) : Prop where
  len : st.length = n
  val : ∀ u : Int, 0 ≤ u → u < n → gx st u = 0 ∨ gx st u = 1 ∨ gx st u = 2
  tim : ∀ u : Int, 0 ≤ u → u < n → gx st u = 2 → T u ≤ c
  nd : out.Nodup
  mem : ∀ j ∈ out, inR l j ∧ gx st (gx l j).From ≠ 0
  ord : ∀ j, inR l j → gx st (gx l j).From = 2 → (j ∉ out → gx st (gx l j).To = 2 ∧ T (gx l j).To < T (gx l j).From) ∧ (j ∈ out → gx st (gx l j).To = 2 → T (gx l j).From < T (gx l j).To)
/-- What a visit does. -/
structure Vis (n : Nat) (l : List Link) (st out st' out' : List Int) (v : Int) : Prop where
  ok : ∃ T c, Tv n l st' out' T c
  one : ∀ u : Int, 0 ≤ u → u < n → (gx st' u = 1 ↔ gx st u = 1)
  two : ∀ u : Int, 0 ≤ u → u < n → gx st u = 2 → gx st' u = 2
  fin : gx st' v = 2
  old : ∀ j, inR l j → gx st (gx l j).From ≠ 0 → (j ∈ out' ↔ j ∈ out)
  zer : zeros st' < zeros st
  pot : ∀ p : Int → Nat, (∀ j, inR l j → p (gx l j).To < p (gx l j).From) → (∀ u : Int, 0 ≤ u → u < n → gx st u = 1 → p v < p u) → out' = out
/-- What is known in a visit. -/
structure Lp (n : Nat) (l : List Link) (st out : List Int) (v : Int) (i : Nat) (s : List Int × List Int) : Prop where
  ok : ∃ T c, Tv n l s.1 s.2 T c
  one : ∀ u : Int, 0 ≤ u → u < n → (gx s.1 u = 1 ↔ gx st u = 1 ∨ u = v)
  two : ∀ u : Int, 0 ≤ u → u < n → gx st u = 2 → gx s.1 u = 2
  old : ∀ j, inR l j → gx st (gx l j).From ≠ 0 → (j ∈ s.2 ↔ j ∈ out)
  own : ∀ j, inR l j → (gx l j).From = v → (j < i → (j ∈ s.2 → gx s.1 (gx l j).To = 1) ∧ (j ∉ s.2 → gx s.1 (gx l j).To = 2)) ∧ ((i : Int) ≤ j → j ∉ s.2)
  zer : zeros s.1 < zeros st
  pot : ∀ p : Int → Nat, (∀ j, inR l j → p (gx l j).To < p (gx l j).From) → (∀ u : Int, 0 ≤ u → u < n → gx st u = 1 → p v < p u) → s.2 = out

theorem Lp.start {n : Nat} {l : List Link} {st out : List Int} {v : Int} {T : Int → Nat} {c : Nat} (hl : OKl n l) (h : Tv n l st out T c) (hv0 : 0 ≤ v) (hv1 : v < n) (hz : gx st v = 0) : Lp n l st out v 0 (st.set v.toNat 1, out) := by
  have hvr : inR st v := ⟨hv0, by rw [h.len]; exact hv1⟩
  have g : ∀ u : Int, 0 ≤ u → gx (st.set v.toNat 1) u = if u = v then 1 else gx st u := fun u h0 => gx_setJ hvr h0
  refine ⟨⟨T, c, by simp [h.len], fun u u0 u1 => ?_, fun u u0 u1 h2 => ?_, h.nd, fun j hj => ?_, fun j hj h2 => ?_⟩, fun u u0 u1 => ?_, fun u u0 u1 h2 => ?_, fun j hj h2 => Iff.rfl, fun j hj h2 => ⟨fun h3 => ?_, fun h3 h4 => ?_⟩, zeros_one hvr hz, fun p _ _ => rfl⟩
  · simp only [g u u0]
    by_cases e : u = v
    · simp [e]
    · rw [if_neg e]; exact h.val u u0 u1
  · simp only [g u u0] at h2
    by_cases e : u = v
    · simp [e] at h2
    · rw [if_neg e] at h2; exact h.tim u u0 u1 h2
  · obtain ⟨a, b⟩ := h.mem j hj
    refine ⟨a, ?_⟩
    simp only [g _ (hl.2 j a).1.1]
    by_cases e : (gx l j).From = v
    · simp [e]
    · rw [if_neg e]; exact b
  · obtain ⟨a, b, d⟩ := hl.2 j hj
    simp only [g _ a.1, g _ b.1] at h2 ⊢
    by_cases e : (gx l j).From = v
    · simp [e] at h2
    · rw [if_neg e] at h2
      obtain ⟨o1, o2⟩ := h.ord j hj h2
      refine ⟨fun hn => ?_, fun hi h3 => ?_⟩
      · obtain ⟨o3, o4⟩ := o1 hn
        have : ¬ (gx l j).To = v := fun e => by rw [e, hz] at o3; omega
        rw [if_neg this]; exact ⟨o3, o4⟩
      · by_cases e2 : (gx l j).To = v
        · simp [e2] at h3
        · rw [if_neg e2] at h3; exact o2 hi h3
  · simp only [g u u0]
    by_cases e : u = v
    · simp [e]
    · rw [if_neg e]; simp [e]
  · have : ¬ u = v := fun e => by rw [e, hz] at h2; omega
    simp only [g u u0]
    rw [if_neg this]; exact h2
  · have := hj.1; omega
  · have := (h.mem j h4).2
    rw [h2] at this; exact this hz

theorem Lp.stop {n : Nat} {l : List Link} {st out : List Int} {v : Int} {s : List Int × List Int} (hl : OKl n l) (h : Lp n l st out v l.length s) (hv0 : 0 ≤ v) (hv1 : v < n) (hz : gx st v = 0) :
    inR s.1 v ∧ Vis n l st out (s.1.set v.toNat 2) s.2 v := by
  obtain ⟨T, c, hT⟩ := h.ok
  have hvr : inR s.1 v := ⟨hv0, by rw [hT.len]; exact hv1⟩
  have g : ∀ u : Int, 0 ≤ u → gx (s.1.set v.toNat 2) u = if u = v then 2 else gx s.1 u := fun u h0 => gx_setJ hvr h0
  have h1v : gx s.1 v = 1 := (h.one v hv0 hv1).2 (.inr rfl)
  refine ⟨hvr, ⟨fun u => if u = v then c + 1 else T u, c + 1, by simp [hT.len], fun u u0 u1 => ?_, fun u u0 u1 h2 => ?_, hT.nd, fun j hj => ?_, fun j hj h2 => ?_⟩, fun u u0 u1 => ?_, fun u u0 u1 h2 => ?_, ?_, h.old, ?_, h.pot⟩
  · simp only [g u u0]
    by_cases e : u = v
    · simp [e]
    · rw [if_neg e]; exact hT.val u u0 u1
  · simp only [g u u0] at h2
    by_cases e : u = v
    · simp [e]
    · rw [if_neg e] at h2
      have := hT.tim u u0 u1 h2
      simp only [if_neg e]; omega
  · obtain ⟨a, b⟩ := hT.mem j hj
    refine ⟨a, ?_⟩
    simp only [g _ (hl.2 j a).1.1]
    by_cases e : (gx l j).From = v
    · simp [e]
    · rw [if_neg e]; exact b
  · obtain ⟨a, b, d⟩ := hl.2 j hj
    simp only [g _ a.1, g _ b.1] at h2 ⊢
    by_cases e : (gx l j).From = v
    · have e2 : ¬ (gx l j).To = v := fun e2 => d (by rw [e, e2])
      simp only [if_pos e, if_neg e2]
      obtain ⟨o1, o2⟩ := (h.own j hj e).1 hj.2
      refine ⟨fun hn => ⟨o2 hn, ?_⟩, fun hi h3 => ?_⟩
      · have := hT.tim _ b.1 b.2 (o2 hn); omega
      · rw [o1 hi] at h3; omega
    · rw [if_neg e] at h2
      obtain ⟨o1, o2⟩ := hT.ord j hj h2
      simp only [if_neg e]
      refine ⟨fun hn => ?_, fun hi h3 => ?_⟩
      · obtain ⟨o3, o4⟩ := o1 hn
        have : ¬ (gx l j).To = v := fun e => by rw [e, h1v] at o3; omega
        simp only [if_neg this]; exact ⟨o3, o4⟩
      · by_cases e2 : (gx l j).To = v
        · simp only [if_pos e2]
          have := hT.tim _ a.1 a.2 h2; omega
        · rw [if_neg e2] at h3
          simp only [if_neg e2]; exact o2 hi h3
  · simp only [g u u0]
    by_cases e : u = v
    · subst e; simp [hz]
    · rw [if_neg e, h.one u u0 u1]; simp [e]
  · simp only [g u u0]
    by_cases e : u = v
    · simp [e]
    · rw [if_neg e]; exact h.two u u0 u1 h2
  · simp only [g v hv0]; simp
  · have := zeros_two hvr h1v
    have := h.zer
    omega

theorem visit {n : Nat} {l : List Link} (hl : OKl n l) : ∀ (k : Nat) (v : Int) (st out : List Int) (T : Int → Nat) (c : Nat), Tv n l st out T c → 0 ≤ v → v < n → gx st v = 0 → zeros st ≤ k →
    ∃ st' out', (∀ m, k ≤ m → fixN layer_turned_1_body m (v, st, l, out) = some (st', out')) ∧ Vis n l st out st' out' v := by
  intro k
  induction k with
  | zero =>
    intro v st out T c h hv0 hv1 hz hk
    have := zeros_pos ⟨hv0, by rw [h.len]; exact hv1⟩ hz
    omega
  | succ k ih =>
    intro v st out T c h hv0 hv1 hz hk
    have hvr : inR st v := ⟨hv0, by rw [h.len]; exact hv1⟩
    have hll := hl.1
    obtain ⟨s, hs, hI⟩ := rfor_invU (n := (l.length : Int)) (step := fun m => layer_turned_1_L1 (fixN layer_turned_1_body m) (v, st, l, out)) (s0 := (st.set v.toNat 1, out)) (fun m => k ≤ m) (Lp n l st out v) (by omega) (Lp.start hl h hv0 hv1 hz) (fun i s hi hI => by
      have hi' : inR l (i : Int) := ⟨by omega, hi⟩
      obtain ⟨T, c, hT⟩ := hI.ok
      obtain ⟨a, b, d⟩ := hl.2 _ hi'
      have hto : inR s.1 (gx l (i : Int)).To := ⟨b.1, by rw [hT.len]; exact b.2⟩
      by_cases e : (gx l (i : Int)).From = v
      · have h1v : gx s.1 v = 1 := (hI.one v hv0 hv1).2 (.inr rfl)
        have hni : (i : Int) ∉ s.2 := (hI.own _ hi' e).2 (Int.le_refl _)
        rcases hT.val _ b.1 b.2 with h0 | h1 | h2
        · obtain ⟨st', out', r1, r2⟩ := ih _ s.1 s.2 T c hT b.1 b.2 h0 (by have := hI.zer; omega)
          refine ⟨(st', out'), fun m hm => ?_, ?_⟩
          · unfold layer_turned_1_L1
            rw [need_of hi']
            simp only [bnd_eq, e, decide_true, Bool.not_true, cond_false]
            rw [need_of hto, h0, r1 m hm]
            simp
          · refine ⟨r2.ok, fun u u0 u1 => by rw [← hI.one u u0 u1]; exact r2.one u u0 u1, fun u u0 u1 h2 => r2.two u u0 u1 (hI.two u u0 u1 h2), fun j hj h2 => ?_, fun j hj h2 => ⟨fun h3 => ?_, fun h3 => ?_⟩, by have := r2.zer; have := hI.zer; simp only; omega, fun p p1 p2 => ?_⟩
            · rw [← hI.old j hj h2]
              refine r2.old j hj ?_
              obtain ⟨a2, _, _⟩ := hl.2 j hj
              intro h3
              by_cases e2 : (gx l j).From = v
              · rw [e2, h1v] at h3; omega
              · rcases h.val _ a2.1 a2.2 with x | x | x
                · exact h2 x
                · have := (hI.one _ a2.1 a2.2).2 (.inl x); omega
                · have := hI.two _ a2.1 a2.2 x; omega
            · obtain ⟨_, b2, _⟩ := hl.2 j hj
              have ho := r2.old j hj (by rw [h2, h1v]; decide)
              rcases Nat.lt_or_ge j.toNat i with h4 | h4
              · obtain ⟨o1, o2⟩ := (hI.own j hj h2).1 (by have := hj.1; omega)
                exact ⟨fun h5 => (r2.one _ b2.1 b2.2).2 (o1 (ho.1 h5)), fun h5 => r2.two _ b2.1 b2.2 (o2 (fun h6 => h5 (ho.2 h6)))⟩
              · have : j = (i : Int) := by have := hj.1; omega
                subst this
                exact ⟨fun h5 => absurd (ho.1 h5) hni, fun h5 => r2.fin⟩
            · have ho := r2.old j hj (by rw [h2, h1v]; decide)
              exact fun h5 => (hI.own j hj h2).2 (by omega) (ho.1 h5)
            · rw [← hI.pot p p1 p2]
              refine r2.pot p p1 (fun u u0 u1 h2 => ?_)
              have hp := p1 _ hi'
              rw [e] at hp
              rcases (hI.one u u0 u1).1 h2 with x | x
              · have := p2 u u0 u1 x; omega
              · rw [x]; exact hp
        · have hlen : s.2.length ≤ 200 := nodup_few 200 _ hT.nd (fun j hj => by have := (hT.mem j hj).1; exact ⟨this.1, by have := this.2; omega⟩)
          refine ⟨(s.1, s.2 ++ [(i : Int)]), fun m hm => ?_, ?_⟩
          · unfold layer_turned_1_L1
            rw [need_of hi']
            simp only [bnd_eq, e, decide_true, Bool.not_true, cond_false]
            rw [need_of hto, h1, need_of (by rw [room_iff]; simp; omega)]
            simp
          · have hmem : ∀ j, j ∈ s.2 ++ [(i : Int)] ↔ j ∈ s.2 ∨ j = i := fun j => by simp
            refine ⟨⟨T, c, hT.len, hT.val, hT.tim, ?_, fun j hj => ?_, fun j hj h2 => ?_⟩, hI.one, hI.two, fun j hj h2 => ?_, fun j hj h2 => ⟨fun h3 => ?_, fun h3 => ?_⟩, hI.zer, fun p p1 p2 => ?_⟩
            · simp only [List.nodup_append]
              refine ⟨hT.nd, by simp, fun x hx y hy => ?_⟩
              simp at hy; subst hy
              exact fun e => hni (e ▸ hx)
            · rcases (hmem j).1 hj with x | x
              · exact hT.mem j x
              · subst x; exact ⟨hi', by simp only; rw [e, h1v]; decide⟩
            · have hne : j ≠ (i : Int) := fun x => by simp only at h2; rw [x, e, h1v] at h2; omega
              obtain ⟨o1, o2⟩ := hT.ord j hj h2
              exact ⟨fun h5 => o1 (fun h6 => h5 ((hmem j).2 (.inl h6))), fun h5 => o2 (((hmem j).1 h5).resolve_right hne)⟩
            · have hne : j ≠ (i : Int) := fun x => by rw [x, e] at h2; exact h2 hz
              rw [hmem, hI.old j hj h2]; simp [hne]
            · rcases Nat.lt_or_ge j.toNat i with h4 | h4
              · obtain ⟨o1, o2⟩ := (hI.own j hj h2).1 (by have := hj.1; omega)
                have hne : j ≠ (i : Int) := fun x => by have := hj.1; omega
                exact ⟨fun h5 => o1 (((hmem j).1 h5).resolve_right hne), fun h5 => o2 (fun h6 => h5 ((hmem j).2 (.inl h6)))⟩
              · have : j = (i : Int) := by have := hj.1; omega
                subst this
                exact ⟨fun h5 => h1, fun h5 => absurd ((hmem _).2 (.inr rfl)) h5⟩
            · intro h5
              rcases (hmem j).1 h5 with x | x
              · exact (hI.own j hj h2).2 (by omega) x
              · omega
            · exfalso
              have hp := p1 _ hi'
              rw [e] at hp
              rcases (hI.one _ b.1 b.2).1 h1 with x | x
              · have := p2 _ b.1 b.2 x; omega
              · rw [x] at hp; omega
        · refine ⟨s, fun m hm => ?_, ⟨T, c, hT⟩, hI.one, hI.two, hI.old, fun j hj h2' => ⟨fun h3 => ?_, fun h3 => ?_⟩, hI.zer, hI.pot⟩
          · unfold layer_turned_1_L1
            rw [need_of hi']
            simp only [bnd_eq, e, decide_true, Bool.not_true, cond_false]
            rw [need_of hto, h2]
            simp
          · rcases Nat.lt_or_ge j.toNat i with h4 | h4
            · exact (hI.own j hj h2').1 (by have := hj.1; omega)
            · have : j = (i : Int) := by have := hj.1; omega
              subst this
              exact ⟨fun h5 => absurd h5 hni, fun h5 => h2⟩
          · exact (hI.own j hj h2').2 (by omega)
      · refine ⟨s, fun m hm => ?_, ⟨T, c, hT⟩, hI.one, hI.two, hI.old, fun j hj h2' => ⟨fun h3 => ?_, fun h3 => ?_⟩, hI.zer, hI.pot⟩
        · unfold layer_turned_1_L1
          rw [need_of hi']
          simp only [bnd_eq, e, decide_false, Bool.not_false, cond_true]
        · rcases Nat.lt_or_ge j.toNat i with h4 | h4
          · exact (hI.own j hj h2').1 (by have := hj.1; omega)
          · have : j = (i : Int) := by have := hj.1; omega
            subst this
            exact absurd h2' e
        · exact (hI.own j hj h2').2 (by omega))
    obtain ⟨h1, h2⟩ := Lp.stop hl (by simpa using hI) hv0 hv1 hz
    refine ⟨_, _, fun m hm => ?_, h2⟩
    obtain ⟨m, rfl⟩ : ∃ m', m = m' + 1 := ⟨m - 1, by omega⟩
    show layer_turned_1_body (fixN layer_turned_1_body m) (v, st, l, out) = _
    have hb : ∀ self, layer_turned_1_body self (v, st, l, out) = need (inR st v) ((rfor (l.length : Int) (layer_turned_1_L1 self (v, st, l, out)) (st.set v.toNat 1, out)).bind fun j => need (inR j.1 v) (some (j.1.set v.toNat 2, j.2))) := fun self => rfl
    rw [hb, need_of hvr]
    have hs' : rfor (l.length : Int) (layer_turned_1_L1 (fixN layer_turned_1_body m) (v, st, l, out)) (st.set v.toNat 1, out) = some s := hs m (by omega)
    rw [hs']
    simp only [bind_sm]
    rw [need_of h1]

/-- What the whole walk comes to. -/
theorem turned_eq {n : Nat} {l : List Link} (hn : 1 ≤ n ∧ n ≤ 60) (hl : OKl n l) : ∃ (out : List Int) (T : Int → Nat), layer_turned (n : Int) l = some (sortI out) ∧ out.Nodup ∧ (∀ j ∈ out, inR l j) ∧
    (∀ j, inR l j → (j ∉ out → T (gx l j).To < T (gx l j).From) ∧ (j ∈ out → T (gx l j).From < T (gx l j).To)) ∧
    ∀ p : Int → Nat, (∀ j, inR l j → p (gx l j).To < p (gx l j).From) → out = [] := by
  have hll := hl.1
  obtain ⟨s, h1, ⟨T, c, hT⟩, h2, h3, h4⟩ := rfor_inv (n := (n : Int)) (step := layer_turned_L1 l) (s0 := (List.replicate (n : Int).toNat (0 : Int), ([] : List Int)))
    (fun i s => (∃ T c, Tv n l s.1 s.2 T c) ∧ (∀ u : Int, 0 ≤ u → u < n → gx s.1 u ≠ 1) ∧ (∀ u : Int, 0 ≤ u → u < i → u < n → gx s.1 u = 2) ∧ ∀ p : Int → Nat, (∀ j, inR l j → p (gx l j).To < p (gx l j).From) → s.2 = []) (by omega) (by
      have hz : ∀ u : Int, 0 ≤ u → u < n → gx (List.replicate (n : Int).toNat (0 : Int)) u = 0 := fun u u0 u1 => by
        have : u.toNat < n := by omega
        simp [gx, List.getElem?_replicate, this]
      refine ⟨⟨fun _ => 0, 0, by simp, fun u u0 u1 => .inl (hz u u0 u1), fun u u0 u1 _ => Nat.le_refl _, by simp, by simp, fun j hj h2 => ?_⟩, fun u u0 u1 => by rw [hz u u0 u1]; decide, fun u u0 u1 => by omega, fun p _ => rfl⟩
      have := (hl.2 j hj).1
      simp only [hz _ this.1 this.2] at h2; omega) (fun i s hi hI => by
      obtain ⟨⟨T, c, hT⟩, h2, h3, h4⟩ := hI
      have hir : inR s.1 (i : Int) := ⟨by omega, by rw [hT.len]; exact hi⟩
      unfold layer_turned_L1
      rw [need_of hir]
      by_cases e : gx s.1 (i : Int) = 0
      · obtain ⟨st', out', r1, r2⟩ := visit hl _ _ s.1 s.2 T c hT (by omega) hi e (Nat.le_refl _)
        have hf : layer_turned_1 (i : Int) s.1 l s.2 = some (st', out') := fixp_of _ r1
        refine ⟨(st', out'), by simp only [e, decide_true, cond_true, hf, bind_sm], r2.ok, fun u u0 u1 h => h2 u u0 u1 ((r2.one u u0 u1).1 h), fun u u0 u1 u2 => ?_, fun p p1 => ?_⟩
        · rcases Int.lt_or_le u i with h | h
          · exact r2.two u u0 u2 (h3 u u0 h u2)
          · have : u = (i : Int) := by omega
            rw [this]; exact r2.fin
        · rw [← h4 p p1]
          exact r2.pot p p1 (fun u u0 u1 h => absurd h (h2 u u0 u1))
      · refine ⟨s, by simp only [e, decide_false, cond_false], ⟨T, c, hT⟩, h2, fun u u0 u1 u2 => ?_, h4⟩
        rcases Int.lt_or_le u i with h | h
        · exact h3 u u0 h u2
        · have : u = (i : Int) := by omega
          rw [this]
          rcases hT.val _ hir.1 hi with x | x | x
          · exact absurd x e
          · exact absurd x (h2 _ hir.1 hi)
          · exact x)
  have hlen : s.2.length ≤ 200 := nodup_few 200 _ hT.nd (fun j hj => by have := (hT.mem j hj).1; exact ⟨this.1, by have := this.2; omega⟩)
  refine ⟨s.2, T, ?_, hT.nd, fun j hj => (hT.mem j hj).1, fun j hj => ?_, h4⟩
  · unfold layer_turned
    rw [need_of ⟨by omega, Int.le_refl _, by omega⟩]
    simp only [bnd_eq]
    rw [h1]
    simp only [bind_sm]
    unfold slices_Sort_int
    rw [need_of (by omega)]
    rfl
  · obtain ⟨a, b, _⟩ := hl.2 j hj
    have hall : ∀ u : Int, 0 ≤ u → u < n → gx s.1 u = 2 := fun u u0 u1 => h3 u u0 (by simpa using u1) u1
    obtain ⟨o1, o2⟩ := hT.ord j hj (hall _ a.1 a.2)
    exact ⟨fun h => (o1 h).2, fun h => o2 h (hall _ b.1 b.2)⟩

def flip (x : Link) : Link := ⟨x.To, x.From⟩
end Go.DB
