/-
  The rule for a region, whatever its order: a chain in the text's order serves every order that the edges allow.
-/
import Derived.Test.YtieepiblancbpaaCore1
set_option linter.unusedSimpArgs false
set_option linter.unusedVariables false
namespace Go.DB
open Go Go.RowKit

def dstsOk (n : Nat) : List Oper → Bool
  | [] => true
  | o :: os => (match o.dst with | some d => Nat.blt d n | none => true) && dstsOk n os

theorem dstsOk_spec {n : Nat} : ∀ (os : List Oper) (i : Nat) (o : Oper) (d : Nat), dstsOk n os = true → os[i]? = some o → o.dst = some d → d < n
  | [], _, _, _, _, h, _ => by simp at h
  | x :: os, 0, o, d, hk, h, hd => by
    simp at h; subst h
    simp only [dstsOk, hd, Bool.and_eq_true, Nat.blt_eq] at hk
    exact hk.1
  | x :: os, i + 1, o, d, hk, h, hd => by
    simp only [dstsOk, Bool.and_eq_true] at hk
    exact dstsOk_spec os i o d hk.2 (by simpa using h) hd

section
variable {P : Program} {ops : Array Oper} {Q : Exit → Act → World → Prop} {n : Nat} {w0 : World} {Mf : MSet} {L : Slots} {B : Owns} {Es : List Ent} {Ws : List (Option (Nat × CPred))} {aux : List Aux}

def on (listed : Array Bool) (j : Nat) : Bool := listed.getD j false

structure Mid1 (ops : Array Oper) (Es : List Ent) (Ws : List (Option (Nat × CPred))) (L : Slots) (B : Owns) (n : Nat) (w0 : World) (Mf : MSet) (listed : Array Bool) (M : MSet) (a : Act) (w : World) : Prop where
  lsize : listed.size = ops.size
  closed : ∀ j, on listed j = true → ∀ i, ((masks ops.toList).getD j 0).testBit i = true → on listed i = true
  size : a.tmps.size = n
  defers : a.defers = []
  below : Below w0.heap.size w0 w
  mf0 : ∀ k, Mf k → k < w0.heap.size
  mlow : ∀ k, Mf k → M k
  mhigh : ∀ k, M k → Mf k ∨ w0.heap.size ≤ k
  msub : ∀ k, M k → k < w.heap.size
  has : ∀ t e, lookP ops Es L (on listed) ops.size t = some e → ∃ v, a.tmps[t]? = some v ∧ e.holds M v w
  hasB : ∀ t c, lookBP ops Ws B (on listed) ops.size t = some c → ∃ v, a.tmps[t]? = some v ∧ c.p M v w
  own : ∀ t c v m, lookBP ops Ws B (on listed) ops.size t = some c → a.tmps[t]? = some v → blk v = some m → w0.heap.size ≤ m
  apart : Apart (lookBP ops Ws B (on listed) ops.size) a

def Mid (ops : Array Oper) (Es : List Ent) (Ws : List (Option (Nat × CPred))) (L : Slots) (B : Owns) (n : Nat) (w0 : World) (Mf : MSet) (listed : Array Bool) (a : Act) (w : World) : Prop :=
  ∃ M, Mid1 ops Es Ws L B n w0 Mf listed M a w

/-- What chain_ents gives of each operation. -/
def Each (P : Program) (ops : Array Oper) (n : Nat) (Es : List Ent) (Ws : List (Option (Nat × CPred))) (L : Slots) (B : Owns) (aux : List Aux) : Prop :=
  ∀ i o, ops[i]? = some o → ∃ E W, Es[i]? = some E ∧ Ws[i]? = some W ∧ W.map (·.1) = ((aux[i]?).getD aux0).2 ∧
    StepOK P ops n o (Lat ops Es L i) (BAt ops Ws B i) ((aux[i]?).getD aux0).1 E W

theorem on_set {listed : Array Bool} {i j : Nat} (h : i < listed.size) : on (listed.setIfInBounds i true) j = (on listed j || (i == j)) := by
  unfold on
  by_cases hij : i = j
  · subst hij; simp [h]
  · rw [Array.getD_eq_getD_getElem?, Array.getElem?_setIfInBounds_ne hij, ← Array.getD_eq_getD_getElem?]
    simp [hij]

theorem ready_facts {listed : Array Bool} {i : Nat} (h : i ∈ Region.ready .any ops listed) :
    i < listed.size ∧ on listed i = false ∧ ∃ o, ops[i]? = some o ∧ ∀ e ∈ o.after, Region.binds .any e = true → on listed e.on = true := by
  obtain ⟨h0, o, ho, hall⟩ := mem_ready.1 h
  have hlt : i < listed.size := by
    rcases Nat.lt_or_ge i listed.size with h' | h'
    · exact h'
    · simp [h'] at h0
  refine ⟨hlt, ?_, o, ho, hall⟩
  unfold on
  rw [Array.getD_eq_getD_getElem?, Array.getElem?_eq_getElem hlt] at *
  exact h0

theorem put_other {a : Act} {d : Option Nat} {t : Nat} {v : Value} (h : d ≠ some t) : (a.put d v).tmps[t]? = a.tmps[t]? := by
  cases d with
  | none => rfl
  | some d =>
    have hne : d ≠ t := fun e => h (by rw [e])
    simp [Act.put, Array.getElem?_setIfInBounds_ne hne]

theorem put_size {a : Act} {d : Option Nat} {v : Value} : (a.put d v).tmps.size = a.tmps.size := by
  cases d <;> simp [Act.put]
theorem put_defers {a : Act} {d : Option Nat} {v : Value} : (a.put d v).defers = a.defers := by
  cases d <;> simp [Act.put]

theorem mem_readsB {o : Oper} {x : Aux} {t : Nat} (h : t ∈ x.1) : 2 * t + 1 ∈ readsN ops o x := by
  simp only [readsN, List.mem_append, List.mem_map]
  exact .inl (.inr ⟨t, h, rfl⟩)
theorem mem_readsX {o : Oper} {x : Aux} {t : Nat} (h : t ∈ o.looksAt ops ++ x.1) : 2 * t ∈ readsN ops o x := by
  simp only [readsN, List.mem_append, List.mem_map]
  rcases List.mem_append.1 h with h | h
  · exact .inl (.inl (.inl ⟨t, h, rfl⟩))
  · exact .inl (.inl (.inr ⟨t, h, rfl⟩))
theorem mem_readsW {o : Oper} {x : Aux} {t : Nat} (h : x.2 = some t) : 2 * t ∈ readsN ops o x := by
  simp only [readsN, List.mem_append, List.mem_map]
  exact .inr ⟨t, by simp [h], rfl⟩
theorem mem_writes {o : Oper} {x : Aux} {t : Nat} (h : o.dst = some t) : 2 * t ∈ writesN o x := by
  simp only [writesN, List.mem_append, List.mem_map]
  exact .inl (.inl ⟨t, by simp [h], rfl⟩)
theorem mem_writesD {o : Oper} {x : Aux} {t : Nat} (h : o.dst = some t) : 2 * t + 1 ∈ writesN o x := by
  simp only [writesN, List.mem_append, List.mem_map]
  exact .inl (.inr ⟨t, by simp [h], rfl⟩)
theorem mem_writesW {o : Oper} {x : Aux} {t : Nat} (h : x.2 = some t) : 2 * t + 1 ∈ writesN o x := by
  simp only [writesN, List.mem_append, List.mem_map]
  exact .inr ⟨t, by simp [h], rfl⟩

theorem Each.touch (hall : Each P ops n Es Ws L B aux) {j t : Nat} (h : touchB ops Ws j t) (hlt : j < ops.size) :
    ∃ o, ops[j]? = some o ∧ 2 * t + 1 ∈ writesN o ((aux[j]?).getD aux0) := by
  obtain ⟨E, W, _, hW, hm, _⟩ := hall j _ (Array.getElem?_eq_getElem hlt)
  refine ⟨_, Array.getElem?_eq_getElem hlt, ?_⟩
  rcases h with h | ⟨c, h⟩
  · rw [Array.getElem?_eq_getElem hlt, Option.bind_some] at h
    exact mem_writesD h
  · rw [hW] at h
    obtain rfl : W = some (t, c) := by simpa using h
    exact mem_writesW (by rw [← hm]; rfl)

theorem put_at {a : Act} {d : Option Nat} {t : Nat} {v : Value} (h : d = some t) (hlt : t < a.tmps.size) : (a.put d v).tmps[t]? = some v := by
  subst h; simp [Act.put, hlt]

theorem Mid.step {listed : Array Bool} {a : Act} {w : World} {i : Nat} (hwf : wfR ops aux = true) (hds : dstsOk n ops.toList = true)
    (hl : Es.length = ops.size) (hl' : Ws.length = ops.size) (hall : Each P ops n Es Ws L B aux)
    (h : Mid ops Es Ws L B n w0 Mf listed a w) (hi : i ∈ Region.ready .any ops listed) :
    wpOp P ops Q i (Mid ops Es Ws L B n w0 Mf (listed.setIfInBounds i true)) a w := by
  obtain ⟨M, h⟩ := h
  obtain ⟨hlt, hoff, o, ho, hedges⟩ := ready_facts hi
  have hisz : i < ops.size := by rw [← h.lsize]; exact hlt
  obtain ⟨E, W, hE, hW, hWm, hstep⟩ := hall i o ho
  generalize hxr : ((aux[i]?).getD aux0).1 = xr at hstep
  -- what stands ahead of i has been done
  have ahead : ∀ k, ((masks ops.toList).getD i 0).testBit k = true → on listed k = true := by
    intro k hk
    obtain ⟨e, he, hb, h1⟩ := masks_spec (ops := ops.toList) (by simpa using ho) hk
    have h2 := hedges e he hb
    rcases h1 with rfl | h1
    · exact h2
    · exact h.closed _ h2 _ h1
  -- what i stands ahead of has not
  have behind : ∀ j, ((masks ops.toList).getD j 0).testBit i = true → on listed j = false := by
    intro j hj
    cases hon : on listed j with
    | false => rfl
    | true =>
      have := h.closed j hon i hj
      rw [this] at hoff; cases hoff
  -- the entry at each slot that i names
  have same : ∀ t, t ∈ o.looksAt ops ++ xr → lookP ops Es L (on listed) ops.size t = look (Lat ops Es L i) t := by
    intro t ht
    rw [look_Lat hl i t (by omega)]
    rw [lookP_skip (i := i) ops.size (by omega)]
    · refine lookP_congr i (fun j hj hd => ?_)
      obtain ⟨oj, hoj, hdj⟩ := Option.bind_eq_some_iff.1 hd
      exact ahead j (wfR_spec hwf hoj ho hj _ (.inl ⟨mem_writes hdj, .inr (mem_readsX (by rw [hxr]; exact ht))⟩))
    · intro j h1 h2 hd
      obtain ⟨oj, hoj, hdj⟩ := Option.bind_eq_some_iff.1 hd
      by_cases hji : i = j
      · subst hji; exact hoff
      · exact behind j (wfR_spec hwf ho hoj (by omega) _ (.inr ⟨mem_writes hdj, .inr (mem_readsX (by rw [hxr]; exact ht))⟩))
  have sameB : ∀ t, t ∈ xr → lookBP ops Ws B (on listed) ops.size t = lookB (BAt ops Ws B i) t := by
    intro t ht
    rw [lookB_BAt hl' i t (by omega)]
    rw [lookBP_skip (i := i) ops.size (by omega)]
    · refine lookBP_congr i (fun j hj hd => ?_)
      obtain ⟨oj, hoj, hdj⟩ := hall.touch hd (by omega)
      exact ahead j (wfR_spec hwf hoj ho hj _ (.inl ⟨hdj, .inr (mem_readsB (by rw [hxr]; exact ht))⟩))
    · intro j h1 h2 hd
      obtain ⟨oj, hoj, hdj⟩ := hall.touch hd h2
      by_cases hji : i = j
      · subst hji; exact hoff
      · exact behind j (wfR_spec hwf ho hoj (by omega) _ (.inr ⟨hdj, .inr (mem_readsB (by rw [hxr]; exact ht))⟩))
  have sat : SatOn (o.looksAt ops ++ xr) M (Lat ops Es L i) a w := fun t ht e he => h.has t e (by rw [same t ht]; exact he)
  have satB : SatB xr M (BAt ops Ws B i) a w := fun t ht c hc => h.hasB t c (by rw [sameB t ht]; exact hc)
  have hs := hstep M a w h.size h.msub sat satB
  have hon : ∀ j, on (listed.setIfInBounds i true) j = (on listed j || (i == j)) := fun j => on_set hlt
  have hself : on (listed.setIfInBounds i true) i = true := by rw [hon]; simp
  -- how the entries turn
  have lookD : ∀ t, o.dst = some t → lookP ops Es L (on (listed.setIfInBounds i true)) ops.size t = some E := by
    intro t hd
    rw [lookP_skip (i := i + 1) ops.size (by omega)]
    · simp only [lookP]
      rw [if_pos ⟨hself, by simp [ho, hd]⟩, hE]
    · intro j h1 h2 hdj'
      obtain ⟨oj, hoj, hdj⟩ := Option.bind_eq_some_iff.1 hdj'
      rw [hon, behind j (wfR_spec hwf ho hoj (by omega) _ (.inl ⟨mem_writes hd, .inl (mem_writes hdj)⟩))]
      simp; omega
  have lookO : ∀ t, o.dst ≠ some t → lookP ops Es L (on (listed.setIfInBounds i true)) ops.size t = lookP ops Es L (on listed) ops.size t := by
    intro t hd
    refine lookP_congr ops.size (fun j _ hdj => ?_)
    rw [hon]
    by_cases hij : i = j
    · subst hij; simp [ho] at hdj; exact absurd hdj hd
    · simp [hij]
  have lookBT : ∀ t, touchB ops Ws i t → lookBP ops Ws B (on (listed.setIfInBounds i true)) ops.size t = newB Ws i t := by
    intro t hd
    rw [lookBP_skip (i := i + 1) ops.size (by omega)]
    · simp only [lookBP]
      rw [if_pos ⟨hself, hd⟩]
    · intro j h1 h2 hdj'
      obtain ⟨oj, hoj, hdj⟩ := hall.touch hdj' h2
      obtain ⟨oi, hoi, hdi⟩ := hall.touch hd hisz
      rw [hon, behind j (wfR_spec hwf hoi hoj (by omega) _ (.inl ⟨hdi, .inl hdj⟩))]
      simp; omega
  have lookBO : ∀ t, ¬ touchB ops Ws i t → lookBP ops Ws B (on (listed.setIfInBounds i true)) ops.size t = lookBP ops Ws B (on listed) ops.size t := by
    intro t hd
    refine lookBP_congr ops.size (fun j _ hdj => ?_)
    rw [hon]
    by_cases hij : i = j
    · subst hij; exact absurd hdj hd
    · simp [hij]
  have closed' : ∀ j, on (listed.setIfInBounds i true) j = true → ∀ k, ((masks ops.toList).getD j 0).testBit k = true → on (listed.setIfInBounds i true) k = true := by
    intro j hj k hk
    rw [hon] at hj ⊢
    simp only [Bool.or_eq_true, beq_iff_eq] at hj ⊢
    rcases hj with hj | rfl
    · exact .inl (h.closed j hj k hk)
    · exact .inl (ahead k hk)
  have dlt : ∀ t, o.dst = some t → t < a.tmps.size := by
    intro t hd
    rw [h.size]; exact dstsOk_spec ops.toList i o t hds (by simpa using ho) hd
  -- behind the step
  have after : ∀ v w', Leaves o (BAt ops Ws B i) xr E W M a w v w' → Mid ops Es Ws L B n w0 Mf (listed.setIfInBounds i true) (a.put o.dst v) w' := by
    intro v w' hv
    -- a slot that another operation owns
    have notouch : ∀ t c, lookBP ops Ws B (on (listed.setIfInBounds i true)) ops.size t = some c → (∀ c', W ≠ some (t, c')) → ¬ touchB ops Ws i t ∧ o.dst ≠ some t := by
      intro t c hc hne
      have h1 : ¬ touchB ops Ws i t := by
        intro ht
        rw [lookBT t ht] at hc
        unfold newB at hc
        rw [hW] at hc
        cases W with
        | none => simp at hc
        | some x =>
          obtain ⟨t', c'⟩ := x
          by_cases he : t' = t
          · subst he; exact hne c' rfl
          · simp [he] at hc
      exact ⟨h1, fun hd => h1 (.inl (by simp [ho, hd]))⟩
    cases W with
    | none =>
      obtain ⟨hx, hv⟩ := hv
      refine ⟨M, by simpa using h.lsize, closed', by rw [put_size]; exact h.size, by rw [put_defers]; exact h.defers, h.below.trans (hx.below h.below.size), h.mf0, h.mlow, h.mhigh,
        fun k hk => Nat.lt_of_lt_of_le (h.msub k hk) hx.size, ?_, ?_, ?_, ?_⟩
      · intro t e he
        by_cases hd : o.dst = some t
        · rw [lookD t hd] at he
          obtain rfl : E = e := by simpa using he
          exact ⟨v, put_at hd (dlt t hd), hv⟩
        · rw [lookO t hd] at he
          obtain ⟨v', h1, h2⟩ := h.has t e he
          exact ⟨v', by rw [put_other hd]; exact h1, Ent.holds_ext hx h2⟩
      · intro t c hc
        obtain ⟨h1, hd⟩ := notouch t c hc (by simp)
        rw [lookBO t h1] at hc
        obtain ⟨v', h2, h3⟩ := h.hasB t c hc
        refine ⟨v', by rw [put_other hd]; exact h2, c.law M M v' w w' hx.keeps (fun _ h => .inl h) (fun m hm => ?_) h3⟩
        have hM := c.inM _ _ _ _ h3 hm
        exact ⟨hM, hx.block m (h.msub m hM) (fun f => f)⟩
      · intro t c v' m hc hv' hm
        obtain ⟨h1, hd⟩ := notouch t c hc (by simp)
        rw [lookBO t h1] at hc
        rw [put_other hd] at hv'
        exact h.own t c v' m hc hv' hm
      · intro t t' c c' u u' m hc hc' hne hu hu' hm
        obtain ⟨h1, hd⟩ := notouch t c hc (by simp)
        obtain ⟨h1', hd'⟩ := notouch t' c' hc' (by simp)
        rw [lookBO t h1] at hc
        rw [lookBO t' h1'] at hc'
        rw [put_other hd] at hu
        rw [put_other hd'] at hu'
        exact h.apart t t' c c' u u' m hc hc' hne hu hu' hm
    | some x =>
      obtain ⟨T, C⟩ := x
      obtain ⟨M', hk, hmm, hmh, hms, hv, u, hu, hC, hblk⟩ := hv
      -- whose blocks may have been written
      have mine : ∀ k, Mine xr (BAt ops Ws B i) T a k → M k ∧ w0.heap.size ≤ k ∧ ∃ c v, lookBP ops Ws B (on listed) ops.size T = some c ∧ a.tmps[T]? = some v ∧ blk v = some k := by
        rintro k ⟨hTx, c, v0, hc, hv0, hb⟩
        rw [← sameB T hTx] at hc
        obtain ⟨v1, h1, h2⟩ := h.hasB T c hc
        obtain rfl : v0 = v1 := by rw [hv0] at h1; simpa using h1
        exact ⟨c.inM _ _ _ _ h2 hb, h.own T c v0 k hc hv0 hb, c, v0, hc, hv0, hb⟩
      have hkM : Keeps M w w' := hk.mono (fun k _ hm => (mine k hm).1)
      have other : ∀ t c, t ≠ T → lookBP ops Ws B (on (listed.setIfInBounds i true)) ops.size t = some c →
          lookBP ops Ws B (on listed) ops.size t = some c ∧ o.dst ≠ some t := by
        intro t c hne hc
        obtain ⟨h1, hd⟩ := notouch t c hc (fun c' e => hne (by simpa using (congrArg (fun z => z.map (·.1)) e).symm))
        exact ⟨by rw [← lookBO t h1]; exact hc, hd⟩
      have hTT : lookBP ops Ws B (on (listed.setIfInBounds i true)) ops.size T = some C := by
        rw [lookBT T (.inr ⟨C, hW⟩)]; simp [newB, hW]
      refine ⟨M', by simpa using h.lsize, closed', by rw [put_size]; exact h.size, by rw [put_defers]; exact h.defers, ?_, h.mf0, fun k hk => hmm k (h.mlow k hk), ?_, hms, ?_, ?_, ?_, ?_⟩
      · refine h.below.trans ⟨hk.os, hk.tape, hk.output, hk.size, fun k hkl => hk.block k (Nat.lt_of_lt_of_le hkl h.below.size) (fun hm => ?_)⟩
        have := (mine k hm).2.1
        omega
      · intro k hk'
        rcases hmh k hk' with h1 | h1
        · exact h.mhigh k h1
        · exact .inr (Nat.le_trans h.below.size h1)
      · intro t e he
        by_cases hd : o.dst = some t
        · rw [lookD t hd] at he
          obtain rfl : E = e := by simpa using he
          exact ⟨v, put_at hd (dlt t hd), hv⟩
        · rw [lookO t hd] at he
          obtain ⟨v', h1, h2⟩ := h.has t e he
          exact ⟨v', by rw [put_other hd]; exact h1, Ent.holds_law hkM hmh h2⟩
      · intro t c hc
        by_cases hne : t = T
        · subst hne
          rw [hTT] at hc
          obtain rfl : C = c := by simpa using hc
          exact ⟨u, hu, hC⟩
        · obtain ⟨hc', hd⟩ := other t c hne hc
          obtain ⟨v', h2, h3⟩ := h.hasB t c hc'
          refine ⟨v', by rw [put_other hd]; exact h2, c.law M M' v' w w' hkM hmh (fun m hm => ?_) h3⟩
          have hM := c.inM _ _ _ _ h3 hm
          refine ⟨hmm m hM, hk.block m (h.msub m hM) (fun hmine => ?_)⟩
          obtain ⟨_, _, c1, v1, hc1, hv1, hb1⟩ := mine m hmine
          exact h.apart T t c1 c v1 v' m hc1 hc' (Ne.symm hne) hv1 h2 hb1 hm
      · intro t c v' m hc hv' hm
        by_cases hne : t = T
        · subst hne
          obtain rfl : u = v' := by rw [hu] at hv'; simpa using hv'
          rcases hblk m hm with h1 | h1
          · exact (mine m h1).2.1
          · exact Nat.le_trans h.below.size h1
        · obtain ⟨hc', hd⟩ := other t c hne hc
          rw [put_other hd] at hv'
          exact h.own t c v' m hc' hv' hm
      · -- two slots, one block?
        have cross : ∀ t c v1 m, t ≠ T → lookBP ops Ws B (on (listed.setIfInBounds i true)) ops.size t = some c → (a.put o.dst v).tmps[t]? = some v1 → blk u = some m → blk v1 ≠ some m := by
          intro t c v1 m hne hc hv1 hm hm1
          obtain ⟨hc', hd⟩ := other t c hne hc
          rw [put_other hd] at hv1
          obtain ⟨v2, h2, h3⟩ := h.hasB t c hc'
          obtain rfl : v1 = v2 := by rw [hv1] at h2; simpa using h2
          rcases hblk m hm with hmine | hge
          · obtain ⟨_, _, c1, v3, hc1, hv3, hb3⟩ := mine m hmine
            exact h.apart T t c1 c v3 v1 m hc1 hc' (Ne.symm hne) hv3 hv1 hb3 hm1
          · have := h.msub m (c.inM _ _ _ _ h3 hm1)
            omega
        intro t t' c c' u1 u2 m hc hc' hne hu1 hu2 hm hm2
        by_cases h1 : t = T
        · subst h1
          obtain rfl : u = u1 := by rw [hu] at hu1; simpa using hu1
          exact cross t' c' u2 m (Ne.symm hne) hc' hu2 hm hm2
        · by_cases h2 : t' = T
          · subst h2
            obtain rfl : u = u2 := by rw [hu] at hu2; simpa using hu2
            exact cross t c u1 m h1 hc hu1 hm2 hm
          · obtain ⟨hc1, hd1⟩ := other t c h1 hc
            obtain ⟨hc2, hd2⟩ := other t' c' h2 hc'
            rw [put_other hd1] at hu1
            rw [put_other hd2] at hu2
            exact h.apart t t' c c' u1 u2 m hc1 hc2 hne hu1 hu2 hm hm2
  unfold wpOp
  rw [ho]
  dsimp only
  split at hs
  · rename_i hw
    rw [if_pos hw]
    exact .inl (hs.wp after)
  · rename_i hw
    rw [if_neg hw]
    obtain ⟨rfl, hs⟩ := hs
    exact after undef w ⟨Keeps.refl _ _, hs⟩

/-- An order that the edges allow, from 'listed' on, to the end. -/
def Legal (ops : Array Oper) : Array Bool → List Nat → Prop
  | listed, [] => ∀ j, j < ops.size → on listed j = true
  | listed, i :: l => i ∈ Region.ready .any ops listed ∧ Legal ops (listed.setIfInBounds i true) l

theorem wpOps_legal (hwf : wfR ops aux = true) (hds : dstsOk n ops.toList = true)
    (hl : Es.length = ops.size) (hl' : Ws.length = ops.size) (hall : Each P ops n Es Ws L B aux)
    (hq : ∀ a w, Sat n w0 Mf (Lat ops Es L ops.size) (BAt ops Ws B ops.size) a w → Q .normal a w) :
    ∀ (l : List Nat) (listed : Array Bool) (a : Act) (w : World), Mid ops Es Ws L B n w0 Mf listed a w → Legal ops listed l → wpOps P ops Q l a w := by
  intro l
  induction l with
  | nil =>
    intro listed a w h hlg
    simp only [wpOps]
    obtain ⟨M, h⟩ := h
    have e1 : ∀ t, look (Lat ops Es L ops.size) t = lookP ops Es L (on listed) ops.size t := by
      intro t
      rw [look_Lat hl _ _ (Nat.le_refl _)]
      exact (lookP_congr _ (fun j hj _ => hlg j hj)).symm
    have e2 : lookB (BAt ops Ws B ops.size) = lookBP ops Ws B (on listed) ops.size := by
      funext t
      rw [lookB_BAt hl' _ _ (Nat.le_refl _)]
      exact (lookBP_congr _ (fun j hj _ => hlg j hj)).symm
    exact hq a w ⟨M, h.size, h.defers, h.below, h.mf0, h.mlow, h.mhigh, h.msub, fun t e he => h.has t e (by rw [← e1]; exact he),
      fun t c hc => h.hasB t c (by rw [← e2]; exact hc), fun t c v m hc => h.own t c v m (by rw [← e2]; exact hc), by rw [e2]; exact h.apart⟩
  | cons i l ih =>
    intro listed a w h hlg
    rw [wpOps_cons]
    exact wpOp_mono (fun a w hm => ih _ a w hm hlg.2) (h.step hwf hds hl hl' hall hlg.1)

theorem legal_range (hedge : edgesOk 0 ops.toList = true) : ∀ (m k : Nat) (listed : Array Bool), k + m = ops.size → listed.size = ops.size →
    (∀ j, on listed j = decide (j < k)) → Legal ops listed (List.range' k m) := by
  intro m
  induction m with
  | zero =>
    intro k listed hk hs hon j hj
    rw [hon]; simp; omega
  | succ m ih =>
    intro k listed hk hs hon
    rw [List.range'_succ]
    have hkl : k < ops.size := by omega
    refine ⟨?_, ih (k + 1) _ (by omega) (by simpa using hs) ?_⟩
    · rw [mem_ready]
      refine ⟨?_, ops[k], Array.getElem?_eq_getElem hkl, ?_⟩
      · have := hon k
        unfold on at this
        rw [Array.getD_eq_getD_getElem?, Array.getElem?_eq_getElem (by omega)] at this ⊢
        simpa using this
      · intro e he hb
        have := edgesOk_spec ops.toList 0 k ops[k] hedge (by simp [hkl]) e he hb
        exact (hon e.on).trans (by simp; omega)
    · intro j
      rw [on_set (by omega), hon]
      by_cases h1 : j < k
      · simp [h1]; omega
      · by_cases h2 : k = j
        · subst h2; simp
        · rw [decide_eq_false h1, decide_eq_false (by omega), Bool.false_or]
          simpa using h2

theorem ready_nil {listed : Array Bool} (hedge : edgesOk 0 ops.toList = true) (hs : listed.size = ops.size) (h : Region.ready .any ops listed = []) :
    ∀ j, j < ops.size → on listed j = true := by
  intro j
  induction j using Nat.strongRecOn with
  | _ j ih =>
    intro hj
    cases hon : on listed j with
    | true => rfl
    | false =>
      have : j ∈ Region.ready .any ops listed := by
        rw [mem_ready]
        refine ⟨?_, ops[j], Array.getElem?_eq_getElem hj, ?_⟩
        · unfold on at hon
          rw [Array.getD_eq_getD_getElem?, Array.getElem?_eq_getElem (by omega)] at hon ⊢
          simpa using hon
        · intro e he hb
          have := edgesOk_spec ops.toList 0 j ops[j] hedge (by simp [hj]) e he hb
          exact ih e.on (by omega) (by omega)
      rw [h] at this; cases this

theorem count_set : ∀ (l : List Bool) (i : Nat), l[i]? = some false → (l.set i true).count true = l.count true + 1
  | [], _, h => by simp at h
  | b :: l, 0, h => by simp at h; subst h; simp
  | b :: l, i + 1, h => by
    have := count_set l i (by simpa using h)
    cases b <;> simp [this]

theorem legal_go (hedge : edgesOk 0 ops.toList = true) : ∀ (fuel t : Nat) (listed : Array Bool), listed.size = ops.size → listed.toList.count true + fuel = ops.size →
    Legal ops listed (Region.linearise.go .any ops fuel t listed []) := by
  intro fuel
  induction fuel with
  | zero =>
    intro t listed hs hc
    simp only [Region.linearise.go, List.reverse_nil]
    intro j hj
    have h1 : listed.toList.count true = listed.toList.length := by rw [Array.length_toList]; omega
    rw [List.count_eq_length] at h1
    unfold on
    rw [Array.getD_eq_getD_getElem?, Array.getElem?_eq_getElem (by omega)]
    exact (h1 _ (by simp)).symm
  | succ fuel ih =>
    intro t listed hs hc
    simp only [Region.linearise.go]
    change Legal ops listed (match (Region.ready .any ops listed)[t % (Region.ready .any ops listed).length]? with
      | some i => Region.linearise.go .any ops fuel (t / (Region.ready .any ops listed).length) (listed.setIfInBounds i true) [i]
      | none => [].reverse)
    cases hi : (Region.ready .any ops listed)[t % (Region.ready .any ops listed).length]? with
    | none =>
      have hnil : Region.ready .any ops listed = [] := by
        cases hr : Region.ready .any ops listed with
        | nil => rfl
        | cons x xs =>
          rw [hr] at hi
          have hlt : t % (x :: xs).length < (x :: xs).length := Nat.mod_lt _ (by simp)
          simp at hi
          simp at hlt
          omega
      exact ready_nil hedge hs hnil
    | some i =>
      have hm := List.mem_of_getElem? hi
      obtain ⟨hlt, hoff, _⟩ := ready_facts hm
      simp only []
      rw [linearise_go_acc, List.reverse_singleton, List.singleton_append]
      refine ⟨hm, ih _ _ (by simpa using hs) ?_⟩
      rw [Array.toList_setIfInBounds, count_set]
      · omega
      · unfold on at hoff
        rw [Array.getD_eq_getD_getElem?, Array.getElem?_eq_getElem hlt] at hoff
        simpa [hlt] using hoff

theorem replicate_count (m : Nat) : ((Array.replicate m false).toList.count true) = 0 := by
  simp [List.count_replicate]

/-- What a chain needs of its region: closed facts. -/
def regOk (n : Nat) (ops : Array Oper) (aux : List Aux) : Bool := wfR ops aux && dstsOk n ops.toList

theorem region_ops {id : Nat} {draw : Bool} (aux : List Aux) (hm : P.follows .mixedOrders = true) (hok : regOk n ops aux = true)
    (hch : Chain P ops n ops.toList aux L B (fun L' B' => ∀ a w, Sat n w0 Mf L' B' a w → Q .normal a w)) {a : Act} {w : World} (hs : Sat n w0 Mf L B a w) :
    (Code.region id ops draw).wp P Q a w := by
  simp only [regOk, Bool.and_eq_true] at hok
  obtain ⟨hwf, hds⟩ := hok
  have hedge : edgesOk 0 ops.toList = true := by simp only [wfR, Bool.and_eq_true] at hwf; exact hwf.1
  obtain ⟨Es, Ws, hl, hl', hk, hall⟩ := chain_ents _ _ _ _ hch
  simp only [Array.length_toList, Array.toArray_toList] at hl hl' hk hall
  have hall' : Each P ops n Es Ws L B aux := fun i o ho => hall i o (by simpa using ho)
  have on0 : ∀ j, on (Array.replicate ops.size false) j = false := by
    intro j
    unfold on
    rw [Array.getD_eq_getD_getElem?, Array.getElem?_replicate]
    split <;> rfl
  have skip0 : ∀ t m, lookP ops Es L (on (Array.replicate ops.size false)) m t = look L t := by
    intro t m
    exact lookP_skip (i := 0) m (Nat.zero_le _) (fun j _ _ _ => on0 j)
  have skipB0 : lookBP ops Ws B (on (Array.replicate ops.size false)) ops.size = lookB B := by
    funext t
    exact lookBP_skip (i := 0) ops.size (Nat.zero_le _) (fun j _ _ _ => on0 j)
  have mid : ∀ w', Ext w w' → Mid ops Es Ws L B n w0 Mf (Array.replicate ops.size false) a w' := by
    intro w' hx
    obtain ⟨M, hs⟩ := hs
    refine ⟨M, by simp, fun j hj => absurd ((on0 j).symm.trans hj) (by simp), hs.size, hs.defers, hs.below.trans (hx.below hs.below.size), hs.mf0, hs.mlow, hs.mhigh,
      fun k hk => Nat.lt_of_lt_of_le (hs.msub k hk) hx.size, fun t e he => ?_, fun t c hc => ?_, fun t c v m hc => hs.own t c v m (by rw [← skipB0]; exact hc), by rw [skipB0]; exact hs.apart⟩
    · rw [skip0] at he
      obtain ⟨v, h1, h2⟩ := hs.has t e he
      exact ⟨v, h1, Ent.holds_ext hx h2⟩
    · rw [skipB0] at hc
      obtain ⟨v, h1, h2⟩ := hs.hasB t c hc
      refine ⟨v, h1, c.law M M v w w' hx.keeps (fun _ h => .inl h) (fun m hm => ?_) h2⟩
      have hM := c.inM _ _ _ _ h2 hm
      exact ⟨hM, hx.block m (hs.msub m hM) (fun f => f)⟩
  cases draw with
  | false =>
    refine wp_region ?_
    rw [List.range_eq_range']
    exact wpOps_legal hwf hds hl hl' hall' hk _ _ _ _ (mid w (Keeps.refl _ _)) (legal_range hedge _ 0 _ (by simp) (by simp) (by intro j; rw [on0]; simp))
  | true =>
    refine wp_region_draw fun t => ?_
    have hsch : Region.schedule (P.follows .mixedOrders) ops t = Region.linearise .any ops t := by
      simp [Region.schedule, hm]
    rw [hsch]
    exact wpOps_legal hwf hds hl hl' hall' hk _ _ _ _ (mid _ (Ext.drew w)) (legal_go hedge _ _ _ (by simp) (by rw [replicate_count]; simp))

end
end Go.DB
