/-
  The rule for a region, whatever its order: a chain in the text's order serves every order that the edges allow.
-/
import Derived.Test.YthopjimlhjgoiaaDoorCore1
set_option linter.unusedSimpArgs false
set_option linter.unusedVariables false
namespace Go.DB
open Go Go.RowKit

def dstsOk (n : Nat) : List Oper → Bool
  | [] => true
  | o :: os => (match o.dst with | some d => Nat.blt d n | none => true) && dstsOk n os

theorem dstsOk_spec {n : Nat} : ∀ (os : List Oper) (i : Nat) (o : Oper) (d : Nat), dstsOk n os = true → os[i]? = some o → o.dst = some d → d < n
  | [], _, _, _, _, h, _ => by simp at h
  | x :: os, 0, o, d, hk, h, hd => by
    simp at h; subst h
    simp only [dstsOk, hd, Bool.and_eq_true, Nat.blt_eq] at hk
    exact hk.1
  | x :: os, i + 1, o, d, hk, h, hd => by
    simp only [dstsOk, Bool.and_eq_true] at hk
    exact dstsOk_spec os i o d hk.2 (by simpa using h) hd

section
variable {P : Program} {ops : Array Oper} {Q : Exit → Act → World → Prop} {n : Nat} {F : Fr} {L : Slots} {B : Owns} {Es : List Ent} {Ws : List Writes} {aux : List Aux}

def on (listed : Array Bool) (j : Nat) : Bool := listed.getD j false

structure Mid1 (ops : Array Oper) (Es : List Ent) (Ws : List Writes) (L : Slots) (B : Owns) (n : Nat) (F : Fr) (listed : Array Bool) (M : MSet) (D : Nat → MSet) (a : Act) (w : World) : Prop where
  lsize : listed.size = ops.size
  closed : ∀ j, on listed j = true → ∀ i, ((masks ops.toList).getD j 0).testBit i = true → on listed i = true
  size : a.tmps.size = n
  defers : a.defers = []
  keeps : Keeps F.M0 F.w0 w
  mf0 : ∀ k, F.Mf k → k < F.w0.heap.size
  mlow : ∀ k, F.Mf k → M k ∨ F.M0 k
  mhigh : ∀ k, M k → F.Mf k ∨ F.w0.heap.size ≤ k
  msub : Low M w
  has : ∀ t e, lookP ops Es L (on listed) ops.size t = some e → ∃ v, a.tmps[t]? = some v ∧ e.holds M v w
  hasB : ∀ t c, lookBP ops Ws B (on listed) ops.size t = some c → c.p M (D t) (Act.val a t) w
  own : ∀ t c, lookBP ops Ws B (on listed) ops.size t = some c → ∀ k, D t k → F.M0 k ∨ F.w0.heap.size ≤ k
  apart : Apart (lookBP ops Ws B (on listed) ops.size) D

def Mid (ops : Array Oper) (Es : List Ent) (Ws : List Writes) (L : Slots) (B : Owns) (n : Nat) (F : Fr) (listed : Array Bool) (a : Act) (w : World) : Prop :=
  ∃ M D, Mid1 ops Es Ws L B n F listed M D a w

/-- What chain_ents gives of each operation. -/
def Each (P : Program) (ops : Array Oper) (n : Nat) (Es : List Ent) (Ws : List Writes) (L : Slots) (B : Owns) (aux : List Aux) : Prop :=
  ∀ i o, ops[i]? = some o → ∃ E W, Es[i]? = some E ∧ Ws[i]? = some W ∧ W.map (·.1) = ((aux[i]?).getD aux0).2 ∧
    StepOK P ops n o (Lat ops Es L i) (BAt ops Ws B i) ((aux[i]?).getD aux0) E W

theorem on_set {listed : Array Bool} {i j : Nat} (h : i < listed.size) : on (listed.setIfInBounds i true) j = (on listed j || (i == j)) := by
  unfold on
  by_cases hij : i = j
  · subst hij; simp [h]
  · rw [Array.getD_eq_getD_getElem?, Array.getElem?_setIfInBounds_ne hij, ← Array.getD_eq_getD_getElem?]
    simp [hij]

theorem ready_facts {listed : Array Bool} {i : Nat} (h : i ∈ Region.ready .any ops listed) :
    i < listed.size ∧ on listed i = false ∧ ∃ o, ops[i]? = some o ∧ ∀ e ∈ o.after, Region.binds .any e = true → on listed e.on = true := by
  obtain ⟨h0, o, ho, hall⟩ := mem_ready.1 h
  have hlt : i < listed.size := by
    rcases Nat.lt_or_ge i listed.size with h' | h'
    · exact h'
    · simp [h'] at h0
  refine ⟨hlt, ?_, o, ho, hall⟩
  unfold on
  rw [Array.getD_eq_getD_getElem?, Array.getElem?_eq_getElem hlt] at *
  exact h0

theorem put_other {a : Act} {d : Option Nat} {t : Nat} {v : Value} (h : d ≠ some t) : (a.put d v).tmps[t]? = a.tmps[t]? := by
  cases d with
  | none => rfl
  | some d =>
    have hne : d ≠ t := fun e => h (by rw [e])
    simp [Act.put, Array.getElem?_setIfInBounds_ne hne]

theorem put_size {a : Act} {d : Option Nat} {v : Value} : (a.put d v).tmps.size = a.tmps.size := by
  cases d <;> simp [Act.put]
theorem put_defers {a : Act} {d : Option Nat} {v : Value} : (a.put d v).defers = a.defers := by
  cases d <;> simp [Act.put]

theorem mem_readsB {o : Oper} {x : Aux} {t : Nat} (h : t ∈ x.1) : 2 * t + 1 ∈ readsN ops o x := by
  simp only [readsN, List.mem_append, List.mem_map]
  exact .inl (.inr ⟨t, h, rfl⟩)
theorem mem_readsX {o : Oper} {x : Aux} {t : Nat} (h : t ∈ o.looksAt ops ++ x.1) : 2 * t ∈ readsN ops o x := by
  simp only [readsN, List.mem_append, List.mem_map]
  rcases List.mem_append.1 h with h | h
  · exact .inl (.inl (.inl ⟨t, h, rfl⟩))
  · exact .inl (.inl (.inr ⟨t, h, rfl⟩))
theorem mem_readsW {o : Oper} {x : Aux} {t : Nat} (h : t ∈ x.2) : 2 * t ∈ readsN ops o x := by
  simp only [readsN, List.mem_append, List.mem_map]
  exact .inr ⟨t, h, rfl⟩
theorem mem_writes {o : Oper} {x : Aux} {t : Nat} (h : o.dst = some t) : 2 * t ∈ writesN o x := by
  simp only [writesN, List.mem_append, List.mem_map]
  exact .inl (.inl ⟨t, by simp [h], rfl⟩)
theorem mem_writesD {o : Oper} {x : Aux} {t : Nat} (h : o.dst = some t) : 2 * t + 1 ∈ writesN o x := by
  simp only [writesN, List.mem_append, List.mem_map]
  exact .inl (.inr ⟨t, by simp [h], rfl⟩)
theorem mem_writesW {o : Oper} {x : Aux} {t : Nat} (h : t ∈ x.2) : 2 * t + 1 ∈ writesN o x := by
  simp only [writesN, List.mem_append, List.mem_map]
  exact .inr ⟨t, h, rfl⟩
theorem writes_ne {o : Oper} {x : Aux} {t d : Nat} (h : t ∈ x.2) (hd : o.dst = some d) : True := trivial

theorem Each.touch (hall : Each P ops n Es Ws L B aux) {j t : Nat} (h : touchB ops Ws j t) (hlt : j < ops.size) :
    ∃ o, ops[j]? = some o ∧ 2 * t + 1 ∈ writesN o ((aux[j]?).getD aux0) := by
  obtain ⟨E, W, _, hW, hm, _⟩ := hall j _ (Array.getElem?_eq_getElem hlt)
  refine ⟨_, Array.getElem?_eq_getElem hlt, ?_⟩
  rcases h with h | ⟨W', h, hmem⟩
  · rw [Array.getElem?_eq_getElem hlt, Option.bind_some] at h
    exact mem_writesD h
  · rw [hW] at h
    obtain rfl : W = W' := by simpa using h
    exact mem_writesW (by rw [← hm]; exact hmem)

theorem put_at {a : Act} {d : Option Nat} {t : Nat} {v : Value} (h : d = some t) (hlt : t < a.tmps.size) : (a.put d v).tmps[t]? = some v := by
  subst h; simp [Act.put, hlt]

theorem Mid.step {listed : Array Bool} {a : Act} {w : World} {i : Nat} (hwf : wfR ops aux = true) (hds : dstsOk n ops.toList = true)
    (hl : Es.length = ops.size) (hl' : Ws.length = ops.size) (hall : Each P ops n Es Ws L B aux)
    (h : Mid ops Es Ws L B n F listed a w) (hi : i ∈ Region.ready .any ops listed) :
    wpOp P ops Q i (Mid ops Es Ws L B n F (listed.setIfInBounds i true)) a w := by
  obtain ⟨M, D, h⟩ := h
  obtain ⟨hlt, hoff, o, ho, hedges⟩ := ready_facts hi
  have hisz : i < ops.size := by rw [← h.lsize]; exact hlt
  obtain ⟨E, W, hE, hW, hWm, hstep⟩ := hall i o ho
  generalize hxx : (aux[i]?).getD aux0 = xx at hstep hWm
  obtain ⟨xr, xs⟩ := xx
  -- what stands ahead of i has been done
  have ahead : ∀ k, ((masks ops.toList).getD i 0).testBit k = true → on listed k = true := by
    intro k hk
    obtain ⟨e, he, hb, h1⟩ := masks_spec (ops := ops.toList) (by simpa using ho) hk
    have h2 := hedges e he hb
    rcases h1 with rfl | h1
    · exact h2
    · exact h.closed _ h2 _ h1
  -- what i stands ahead of has not
  have behind : ∀ j, ((masks ops.toList).getD j 0).testBit i = true → on listed j = false := by
    intro j hj
    cases hon : on listed j with
    | false => rfl
    | true =>
      have := h.closed j hon i hj
      rw [this] at hoff; cases hoff
  -- the entry at each slot that i names
  have same : ∀ t, t ∈ o.looksAt ops ++ xr → lookP ops Es L (on listed) ops.size t = look (Lat ops Es L i) t := by
    intro t ht
    rw [look_Lat hl i t (by omega)]
    rw [lookP_skip (i := i) ops.size (by omega)]
    · refine lookP_congr i (fun j hj hd => ?_)
      obtain ⟨oj, hoj, hdj⟩ := Option.bind_eq_some_iff.1 hd
      exact ahead j (wfR_spec hwf hoj ho hj _ (.inl ⟨mem_writes hdj, .inr (mem_readsX (by rw [hxx]; exact ht))⟩))
    · intro j h1 h2 hd
      obtain ⟨oj, hoj, hdj⟩ := Option.bind_eq_some_iff.1 hd
      by_cases hji : i = j
      · subst hji; exact hoff
      · exact behind j (wfR_spec hwf ho hoj (by omega) _ (.inr ⟨mem_writes hdj, .inr (mem_readsX (by rw [hxx]; exact ht))⟩))
  have sameB : ∀ t, t ∈ xr ++ xs → lookBP ops Ws B (on listed) ops.size t = lookB (BAt ops Ws B i) t := by
    intro t ht
    have hn : 2 * t + 1 ∈ writesN o ((aux[i]?).getD aux0) ∨ 2 * t + 1 ∈ readsN ops o ((aux[i]?).getD aux0) := by
      rw [hxx]
      rcases List.mem_append.1 ht with ht | ht
      · exact .inr (mem_readsB ht)
      · exact .inl (mem_writesW ht)
    rw [lookB_BAt hl' i t (by omega)]
    rw [lookBP_skip (i := i) ops.size (by omega)]
    · refine lookBP_congr i (fun j hj hd => ?_)
      obtain ⟨oj, hoj, hdj⟩ := hall.touch hd (by omega)
      exact ahead j (wfR_spec hwf hoj ho hj _ (.inl ⟨hdj, hn⟩))
    · intro j h1 h2 hd
      obtain ⟨oj, hoj, hdj⟩ := hall.touch hd h2
      by_cases hji : i = j
      · subst hji; exact hoff
      · exact behind j (wfR_spec hwf ho hoj (by omega) _ (.inr ⟨hdj, hn⟩))
  have sat : SatOn (o.looksAt ops ++ xr) M (Lat ops Es L i) a w := fun t ht e he => h.has t e (by rw [same t ht]; exact he)
  have satB : SatB (xr ++ xs) M D (BAt ops Ws B i) a w := ⟨fun t ht c hc => h.hasB t c (by rw [sameB t ht]; exact hc),
    fun t ht t' ht' c c' hc hc' => h.apart t t' c c' (by rw [sameB t ht]; exact hc) (by rw [sameB t' ht']; exact hc')⟩
  have hs := hstep M D a w h.size h.msub sat satB
  have hon : ∀ j, on (listed.setIfInBounds i true) j = (on listed j || (i == j)) := fun j => on_set hlt
  have hself : on (listed.setIfInBounds i true) i = true := by rw [hon]; simp
  -- how the entries turn
  have lookD : ∀ t, o.dst = some t → lookP ops Es L (on (listed.setIfInBounds i true)) ops.size t = some E := by
    intro t hd
    rw [lookP_skip (i := i + 1) ops.size (by omega)]
    · simp only [lookP]
      rw [if_pos ⟨hself, by simp [ho, hd]⟩, hE]
    · intro j h1 h2 hdj'
      obtain ⟨oj, hoj, hdj⟩ := Option.bind_eq_some_iff.1 hdj'
      rw [hon, behind j (wfR_spec hwf ho hoj (by omega) _ (.inl ⟨mem_writes hd, .inl (mem_writes hdj)⟩))]
      simp; omega
  have lookO : ∀ t, o.dst ≠ some t → lookP ops Es L (on (listed.setIfInBounds i true)) ops.size t = lookP ops Es L (on listed) ops.size t := by
    intro t hd
    refine lookP_congr ops.size (fun j _ hdj => ?_)
    rw [hon]
    by_cases hij : i = j
    · subst hij; simp [ho] at hdj; exact absurd hdj hd
    · simp [hij]
  have lookBT : ∀ t, touchB ops Ws i t → lookBP ops Ws B (on (listed.setIfInBounds i true)) ops.size t = newB Ws i t := by
    intro t hd
    rw [lookBP_skip (i := i + 1) ops.size (by omega)]
    · simp only [lookBP]
      rw [if_pos ⟨hself, hd⟩]
    · intro j h1 h2 hdj'
      obtain ⟨oj, hoj, hdj⟩ := hall.touch hdj' h2
      obtain ⟨oi, hoi, hdi⟩ := hall.touch hd hisz
      rw [hon, behind j (wfR_spec hwf hoi hoj (by omega) _ (.inl ⟨hdi, .inl hdj⟩))]
      simp; omega
  have lookBO : ∀ t, ¬ touchB ops Ws i t → lookBP ops Ws B (on (listed.setIfInBounds i true)) ops.size t = lookBP ops Ws B (on listed) ops.size t := by
    intro t hd
    refine lookBP_congr ops.size (fun j _ hdj => ?_)
    rw [hon]
    by_cases hij : i = j
    · subst hij; exact absurd hdj hd
    · simp [hij]
  have closed' : ∀ j, on (listed.setIfInBounds i true) j = true → ∀ k, ((masks ops.toList).getD j 0).testBit k = true → on (listed.setIfInBounds i true) k = true := by
    intro j hj k hk
    rw [hon] at hj ⊢
    simp only [Bool.or_eq_true, beq_iff_eq] at hj ⊢
    rcases hj with hj | rfl
    · exact .inl (h.closed j hj k hk)
    · exact .inl (ahead k hk)
  have dlt : ∀ t, o.dst = some t → t < a.tmps.size := by
    intro t hd
    rw [h.size]; exact dstsOk_spec ops.toList i o t hds (by simpa using ho) hd
  -- behind the step
  have after : ∀ v w', Leaves o (BAt ops Ws B i) D xs E W M a w v w' → Mid ops Es Ws L B n F (listed.setIfInBounds i true) (a.put o.dst v) w' := by
    intro v w' hv
    have hWx : W.map (·.1) = xs := hWm
    have touchI : ∀ t, touchB ops Ws i t ↔ (o.dst = some t ∨ t ∈ xs) := by
      intro t
      simp only [touchB, ho, hW, Option.bind_some, Option.some.injEq, exists_eq_left', hWx]
    have newI : ∀ t, newB Ws i t = lookB W t := by intro t; simp [newB, hW]
    -- a key that another operation owns
    have notouch : ∀ t c, lookBP ops Ws B (on (listed.setIfInBounds i true)) ops.size t = some c → t ∉ xs → ¬ touchB ops Ws i t ∧ o.dst ≠ some t := by
      intro t c hc hne
      have h1 : ¬ touchB ops Ws i t := by
        intro ht
        rw [lookBT t ht, newI, lookB_notin (by rw [hWx]; exact hne)] at hc
        cases hc
      exact ⟨h1, fun hd => h1 ((touchI t).2 (.inl hd))⟩
    have valO : ∀ t, o.dst ≠ some t → Act.val (a.put o.dst v) t = Act.val a t := by
      intro t hd; unfold Act.val; rw [put_other hd]
    cases W with
    | nil =>
      obtain ⟨hx, hv⟩ := hv
      have hxs : xs = [] := by rw [← hWx]; rfl
      have nt : ∀ t c, lookBP ops Ws B (on (listed.setIfInBounds i true)) ops.size t = some c → ¬ touchB ops Ws i t ∧ o.dst ≠ some t := fun t c hc => notouch t c hc (by rw [hxs]; simp)
      refine ⟨M, D, by simpa using h.lsize, closed', by rw [put_size]; exact h.size, by rw [put_defers]; exact h.defers, h.keeps.trans hx.keeps, h.mf0, h.mlow, h.mhigh,
        h.msub.ext hx, ?_, ?_, ?_, ?_⟩
      · intro t e he
        by_cases hd : o.dst = some t
        · rw [lookD t hd] at he
          obtain rfl : E = e := by simpa using he
          exact ⟨v, put_at hd (dlt t hd), hv⟩
        · rw [lookO t hd] at he
          obtain ⟨v', h1, h2⟩ := h.has t e he
          exact ⟨v', by rw [put_other hd]; exact h1, Ent.holds_ext hx h2⟩
      · intro t c hc
        obtain ⟨h1, hd⟩ := nt t c hc
        rw [lookBO t h1] at hc
        rw [valO t hd]
        have h3 := h.hasB t c hc
        refine c.law M M (D t) _ w w' hx.keeps (fun _ h => .inl h) (fun m hm => ?_) h3
        have hM := c.inM _ _ _ _ h3 m hm
        exact ⟨hM, hx.block m (h.msub m hM) (fun f => f)⟩
      · intro t c hc
        obtain ⟨h1, _⟩ := nt t c hc
        rw [lookBO t h1] at hc
        exact h.own t c hc
      · intro t t' c c' hc hc' hne
        obtain ⟨h1, _⟩ := nt t c hc
        obtain ⟨h1', _⟩ := nt t' c' hc'
        rw [lookBO t h1] at hc
        rw [lookBO t' h1'] at hc'
        exact h.apart t t' c c' hc hc' hne
    | cons W1 Wr =>
      generalize hWW : W1 :: Wr = W at hv hWx newI hW
      have hv : ∃ M' D', Keeps (Mine xs (BAt ops Ws B i) D) w w' ∧ (∀ k, M k → M' k ∨ Mine xs (BAt ops Ws B i) D k) ∧ (∀ k, M' k → M k ∨ w.heap.size ≤ k) ∧ (∀ k, M' k → k < w'.heap.size) ∧ E.holds M' v w' ∧
          (∀ t c, lookB W t = some c → c.p M' (D' t) (Act.val (a.put o.dst v) t) w' ∧ ∀ k, D' t k → Mine xs (BAt ops Ws B i) D k ∨ w.heap.size ≤ k) ∧ Apart (lookB W) D' := by
        subst hWW; exact hv
      obtain ⟨M', D', hk, hml, hmh, hms, hv, hC, hap⟩ := hv
      -- whose blocks may have been written
      have mine : ∀ k, Mine xs (BAt ops Ws B i) D k → M k ∧ (F.M0 k ∨ F.w0.heap.size ≤ k) ∧ ∃ t ∈ xs, ∃ c, lookBP ops Ws B (on listed) ops.size t = some c ∧ D t k := by
        rintro k ⟨t, ht, c, hc, hb⟩
        rw [← sameB t (List.mem_append_right _ ht)] at hc
        exact ⟨c.inM _ _ _ _ (h.hasB t c hc) k hb, h.own t c hc k hb, t, ht, c, hc, hb⟩
      have hkM : Keeps M w w' := hk.mono (fun k _ hm => (mine k hm).1)
      have other : ∀ t c, t ∉ xs → lookBP ops Ws B (on (listed.setIfInBounds i true)) ops.size t = some c →
          lookBP ops Ws B (on listed) ops.size t = some c ∧ o.dst ≠ some t := by
        intro t c hne hc
        obtain ⟨h1, hd⟩ := notouch t c hc hne
        exact ⟨by rw [← lookBO t h1]; exact hc, hd⟩
      have hTT : ∀ t, t ∈ xs → lookBP ops Ws B (on (listed.setIfInBounds i true)) ops.size t = lookB W t := by
        intro t ht
        rw [lookBT t ((touchI t).2 (.inr ht)), newI]
      -- a key that stays has nothing of the blocks that may have been written
      have free : ∀ t c, t ∉ xs → lookBP ops Ws B (on listed) ops.size t = some c → ∀ k, D t k → ¬ Mine xs (BAt ops Ws B i) D k := by
        intro t c hne hc k hk hm
        obtain ⟨_, _, t1, ht1, c1, hc1, hb1⟩ := mine k hm
        exact h.apart t t1 c c1 hc hc1 (fun e => hne (e ▸ ht1)) k hk hb1
      have fresh : ∀ t c, lookBP ops Ws B (on listed) ops.size t = some c → ∀ k, D t k → k < w.heap.size := fun t c hc k hk => h.msub k (c.inM _ _ _ _ (h.hasB t c hc) k hk)
      let D2 : Nat → MSet := fun t => if t ∈ xs then D' t else D t
      have D2x : ∀ t, t ∈ xs → D2 t = D' t := fun t ht => if_pos ht
      have D2n : ∀ t, t ∉ xs → D2 t = D t := fun t ht => if_neg ht
      refine ⟨M', D2, by simpa using h.lsize, closed', by rw [put_size]; exact h.size, by rw [put_defers]; exact h.defers, ?_, h.mf0, ?_, ?_, h.msub.next hkM hmh hms, ?_, ?_, ?_, ?_⟩
      · refine ⟨hk.os.trans h.keeps.os, hk.tape.trans h.keeps.tape, hk.output.trans h.keeps.output, Nat.le_trans h.keeps.size hk.size, fun k hlt hn => ?_⟩
        rw [hk.block k (Nat.lt_of_lt_of_le hlt h.keeps.size) (fun hm => ?_), h.keeps.block k hlt hn]
        rcases (mine k hm).2.1 with h1 | h1
        · exact hn h1
        · omega
      · intro k hk'
        rcases h.mlow k hk' with h1 | h1
        · rcases hml k h1 with h2 | h2
          · exact .inl h2
          · rcases (mine k h2).2.1 with h3 | h3
            · exact .inr h3
            · have := h.mf0 k hk'
              omega
        · exact .inr h1
      · intro k hk'
        rcases hmh k hk' with h1 | h1
        · exact h.mhigh k h1
        · exact .inr (Nat.le_trans h.keeps.size h1)
      · intro t e he
        by_cases hd : o.dst = some t
        · rw [lookD t hd] at he
          obtain rfl : E = e := by simpa using he
          exact ⟨v, put_at hd (dlt t hd), hv⟩
        · rw [lookO t hd] at he
          obtain ⟨v', h1, h2⟩ := h.has t e he
          exact ⟨v', by rw [put_other hd]; exact h1, Ent.holds_law hkM hmh h2⟩
      · intro t c hc
        by_cases ht : t ∈ xs
        · rw [hTT t ht] at hc
          rw [D2x t ht]
          exact (hC t c hc).1
        · obtain ⟨hc', hd⟩ := other t c ht hc
          rw [D2n t ht, valO t hd]
          have h3 := h.hasB t c hc'
          refine c.law M M' (D t) _ w w' hkM hmh (fun m hm => ?_) h3
          have hM := c.inM _ _ _ _ h3 m hm
          have hnm := free t c ht hc' m hm
          exact ⟨(hml m hM).resolve_right hnm, hk.block m (h.msub m hM) hnm⟩
      · intro t c hc
        by_cases ht : t ∈ xs
        · rw [hTT t ht] at hc
          rw [D2x t ht]
          intro k hk'
          rcases (hC t c hc).2 k hk' with h1 | h1
          · exact (mine k h1).2.1
          · exact .inr (Nat.le_trans h.keeps.size h1)
        · obtain ⟨hc', hd⟩ := other t c ht hc
          rw [D2n t ht]
          exact h.own t c hc'
      · -- two keys, one block?
        have cross : ∀ t t' c c', t ∈ xs → t' ∉ xs → lookBP ops Ws B (on (listed.setIfInBounds i true)) ops.size t = some c → lookBP ops Ws B (on (listed.setIfInBounds i true)) ops.size t' = some c' →
            ∀ k, D' t k → ¬ D t' k := by
          intro t t' c c' ht ht' hc hc' k hk1 hk2
          rw [hTT t ht] at hc
          obtain ⟨hc1, _⟩ := other t' c' ht' hc'
          rcases (hC t c hc).2 k hk1 with h1 | h1
          · exact free t' c' ht' hc1 k hk2 h1
          · have := fresh t' c' hc1 k hk2
            omega
        intro t t' c c' hc hc' hne k hk1 hk2
        by_cases ht : t ∈ xs <;> by_cases ht' : t' ∈ xs
        · rw [D2x t ht] at hk1
          rw [D2x t' ht'] at hk2
          rw [hTT t ht] at hc
          rw [hTT t' ht'] at hc'
          exact hap t t' c c' hc hc' hne k hk1 hk2
        · rw [D2x t ht] at hk1
          rw [D2n t' ht'] at hk2
          exact cross t t' c c' ht ht' hc hc' k hk1 hk2
        · rw [D2n t ht] at hk1
          rw [D2x t' ht'] at hk2
          exact cross t' t c' c ht' ht hc' hc k hk2 hk1
        · rw [D2n t ht] at hk1
          rw [D2n t' ht'] at hk2
          obtain ⟨h1, _⟩ := other t c ht hc
          obtain ⟨h2, _⟩ := other t' c' ht' hc'
          exact h.apart t t' c c' h1 h2 hne k hk1 hk2
  unfold wpOp
  rw [ho]
  dsimp only
  split at hs
  · rename_i hw
    rw [if_pos hw]
    exact .inl (hs.wp after)
  · rename_i hw
    rw [if_neg hw]
    obtain ⟨rfl, hs⟩ := hs
    exact after undef w ⟨Keeps.refl _ _, hs⟩

/-- An order that the edges allow, from 'listed' on, to the end. -/
def Legal (ops : Array Oper) : Array Bool → List Nat → Prop
  | listed, [] => ∀ j, j < ops.size → on listed j = true
  | listed, i :: l => i ∈ Region.ready .any ops listed ∧ Legal ops (listed.setIfInBounds i true) l

theorem wpOps_legal (hwf : wfR ops aux = true) (hds : dstsOk n ops.toList = true)
    (hl : Es.length = ops.size) (hl' : Ws.length = ops.size) (hall : Each P ops n Es Ws L B aux)
    (hq : ∀ a w, Sat n F (Lat ops Es L ops.size) (BAt ops Ws B ops.size) a w → Q .normal a w) :
    ∀ (l : List Nat) (listed : Array Bool) (a : Act) (w : World), Mid ops Es Ws L B n F listed a w → Legal ops listed l → wpOps P ops Q l a w := by
  intro l
  induction l with
  | nil =>
    intro listed a w h hlg
    simp only [wpOps]
    obtain ⟨M, D, h⟩ := h
    have e1 : ∀ t, look (Lat ops Es L ops.size) t = lookP ops Es L (on listed) ops.size t := by
      intro t
      rw [look_Lat hl _ _ (Nat.le_refl _)]
      exact (lookP_congr _ (fun j hj _ => hlg j hj)).symm
    have e2 : lookB (BAt ops Ws B ops.size) = lookBP ops Ws B (on listed) ops.size := by
      funext t
      rw [lookB_BAt hl' _ _ (Nat.le_refl _)]
      exact (lookBP_congr _ (fun j hj _ => hlg j hj)).symm
    exact hq a w ⟨M, D, h.size, h.defers, h.keeps, h.mf0, h.mlow, h.mhigh, h.msub, fun t e he => h.has t e (by rw [← e1]; exact he),
      fun t c hc => h.hasB t c (by rw [← e2]; exact hc), fun t c hc => h.own t c (by rw [← e2]; exact hc), by rw [e2]; exact h.apart⟩
  | cons i l ih =>
    intro listed a w h hlg
    rw [wpOps_cons]
    exact wpOp_mono (fun a w hm => ih _ a w hm hlg.2) (h.step hwf hds hl hl' hall hlg.1)

theorem legal_range (hedge : edgesOk 0 ops.toList = true) : ∀ (m k : Nat) (listed : Array Bool), k + m = ops.size → listed.size = ops.size →
    (∀ j, on listed j = decide (j < k)) → Legal ops listed (List.range' k m) := by
  intro m
  induction m with
  | zero =>
    intro k listed hk hs hon j hj
    rw [hon]; simp; omega
  | succ m ih =>
    intro k listed hk hs hon
    rw [List.range'_succ]
    have hkl : k < ops.size := by omega
    refine ⟨?_, ih (k + 1) _ (by omega) (by simpa using hs) ?_⟩
    · rw [mem_ready]
      refine ⟨?_, ops[k], Array.getElem?_eq_getElem hkl, ?_⟩
      · have := hon k
        unfold on at this
        rw [Array.getD_eq_getD_getElem?, Array.getElem?_eq_getElem (by omega)] at this ⊢
        simpa using this
      · intro e he hb
        have := edgesOk_spec ops.toList 0 k ops[k] hedge (by simp [hkl]) e he hb
        exact (hon e.on).trans (by simp; omega)
    · intro j
      rw [on_set (by omega), hon]
      by_cases h1 : j < k
      · simp [h1]; omega
      · by_cases h2 : k = j
        · subst h2; simp
        · rw [decide_eq_false h1, decide_eq_false (by omega), Bool.false_or]
          simpa using h2

theorem ready_nil {listed : Array Bool} (hedge : edgesOk 0 ops.toList = true) (hs : listed.size = ops.size) (h : Region.ready .any ops listed = []) :
    ∀ j, j < ops.size → on listed j = true := by
  intro j
  induction j using Nat.strongRecOn with
  | _ j ih =>
    intro hj
    cases hon : on listed j with
    | true => rfl
    | false =>
      have : j ∈ Region.ready .any ops listed := by
        rw [mem_ready]
        refine ⟨?_, ops[j], Array.getElem?_eq_getElem hj, ?_⟩
        · unfold on at hon
          rw [Array.getD_eq_getD_getElem?, Array.getElem?_eq_getElem (by omega)] at hon ⊢
          simpa using hon
        · intro e he hb
          have := edgesOk_spec ops.toList 0 j ops[j] hedge (by simp [hj]) e he hb
          exact ih e.on (by omega) (by omega)
      rw [h] at this; cases this

theorem count_set : ∀ (l : List Bool) (i : Nat), l[i]? = some false → (l.set i true).count true = l.count true + 1
  | [], _, h => by simp at h
  | b :: l, 0, h => by simp at h; subst h; simp
  | b :: l, i + 1, h => by
    have := count_set l i (by simpa using h)
    cases b <;> simp [this]

theorem legal_go (hedge : edgesOk 0 ops.toList = true) : ∀ (fuel t : Nat) (listed : Array Bool), listed.size = ops.size → listed.toList.count true + fuel = ops.size →
    Legal ops listed (Region.linearise.go .any ops fuel t listed []) := by
  intro fuel
  induction fuel with
  | zero =>
    intro t listed hs hc
    simp only [Region.linearise.go, List.reverse_nil]
    intro j hj
    have h1 : listed.toList.count true = listed.toList.length := by rw [Array.length_toList]; omega
    rw [List.count_eq_length] at h1
    unfold on
    rw [Array.getD_eq_getD_getElem?, Array.getElem?_eq_getElem (by omega)]
    exact (h1 _ (by simp)).symm
  | succ fuel ih =>
    intro t listed hs hc
    simp only [Region.linearise.go]
    change Legal ops listed (match (Region.ready .any ops listed)[t % (Region.ready .any ops listed).length]? with
      | some i => Region.linearise.go .any ops fuel (t / (Region.ready .any ops listed).length) (listed.setIfInBounds i true) [i]
      | none => [].reverse)
    cases hi : (Region.ready .any ops listed)[t % (Region.ready .any ops listed).length]? with
    | none =>
      have hnil : Region.ready .any ops listed = [] := by
        cases hr : Region.ready .any ops listed with
        | nil => rfl
        | cons x xs =>
          rw [hr] at hi
          have hlt : t % (x :: xs).length < (x :: xs).length := Nat.mod_lt _ (by simp)
          simp at hi
          simp at hlt
          omega
      exact ready_nil hedge hs hnil
    | some i =>
      have hm := List.mem_of_getElem? hi
      obtain ⟨hlt, hoff, _⟩ := ready_facts hm
      simp only []
      rw [linearise_go_acc, List.reverse_singleton, List.singleton_append]
      refine ⟨hm, ih _ _ (by simpa using hs) ?_⟩
      rw [Array.toList_setIfInBounds, count_set]
      · omega
      · unfold on at hoff
        rw [Array.getD_eq_getD_getElem?, Array.getElem?_eq_getElem hlt] at hoff
        simpa [hlt] using hoff

theorem replicate_count (m : Nat) : ((Array.replicate m false).toList.count true) = 0 := by
  simp [List.count_replicate]

/-- What a chain needs of its region: closed facts. -/
def regOk (n : Nat) (ops : Array Oper) (aux : List Aux) : Bool := wfR ops aux && dstsOk n ops.toList

theorem region_ops {id : Nat} {draw : Bool} (aux : List Aux) (hm : P.follows .mixedOrders = true) (hok : regOk n ops aux = true)
    (hch : Chain P ops n ops.toList aux L B (fun L' B' => ∀ a w, Sat n F L' B' a w → Q .normal a w)) {a : Act} {w : World} (hs : Sat n F L B a w) :
    (Code.region id ops draw).wp P Q a w := by
  simp only [regOk, Bool.and_eq_true] at hok
  obtain ⟨hwf, hds⟩ := hok
  have hedge : edgesOk 0 ops.toList = true := by simp only [wfR, Bool.and_eq_true] at hwf; exact hwf.1
  obtain ⟨Es, Ws, hl, hl', hk, hall⟩ := chain_ents _ _ _ _ hch
  simp only [Array.length_toList, Array.toArray_toList] at hl hl' hk hall
  have hall' : Each P ops n Es Ws L B aux := fun i o ho => hall i o (by simpa using ho)
  have on0 : ∀ j, on (Array.replicate ops.size false) j = false := by
    intro j
    unfold on
    rw [Array.getD_eq_getD_getElem?, Array.getElem?_replicate]
    split <;> rfl
  have skip0 : ∀ t m, lookP ops Es L (on (Array.replicate ops.size false)) m t = look L t := by
    intro t m
    exact lookP_skip (i := 0) m (Nat.zero_le _) (fun j _ _ _ => on0 j)
  have skipB0 : lookBP ops Ws B (on (Array.replicate ops.size false)) ops.size = lookB B := by
    funext t
    exact lookBP_skip (i := 0) ops.size (Nat.zero_le _) (fun j _ _ _ => on0 j)
  have mid : ∀ w', Ext w w' → Mid ops Es Ws L B n F (Array.replicate ops.size false) a w' := by
    intro w' hx
    obtain ⟨M, D, hs⟩ := hs
    refine ⟨M, D, by simp, fun j hj => absurd ((on0 j).symm.trans hj) (by simp), hs.size, hs.defers, hs.keeps.trans hx.keeps, hs.mf0, hs.mlow, hs.mhigh,
      hs.msub.ext hx, fun t e he => ?_, fun t c hc => ?_, fun t c hc => hs.own t c (by rw [← skipB0]; exact hc), by rw [skipB0]; exact hs.apart⟩
    · rw [skip0] at he
      obtain ⟨v, h1, h2⟩ := hs.has t e he
      exact ⟨v, h1, Ent.holds_ext hx h2⟩
    · rw [skipB0] at hc
      have h2 := hs.hasB t c hc
      refine c.law M M (D t) _ w w' hx.keeps (fun _ h => .inl h) (fun m hm => ?_) h2
      have hM := c.inM _ _ _ _ h2 m hm
      exact ⟨hM, hx.block m (hs.msub m hM) (fun f => f)⟩
  cases draw with
  | false =>
    refine wp_region ?_
    rw [List.range_eq_range']
    exact wpOps_legal hwf hds hl hl' hall' hk _ _ _ _ (mid w (Keeps.refl _ _)) (legal_range hedge _ 0 _ (by simp) (by simp) (by intro j; rw [on0]; simp))
  | true =>
    refine wp_region_draw fun t => ?_
    have hsch : Region.schedule (P.follows .mixedOrders) ops t = Region.linearise .any ops t := by
      simp [Region.schedule, hm]
    rw [hsch]
    exact wpOps_legal hwf hds hl hl' hall' hk _ _ _ _ (mid _ (Ext.drew w)) (legal_go hedge _ _ _ (by simp) (by rw [replicate_count]; simp))

end
end Go.DB
