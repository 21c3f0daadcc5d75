/-
  Calls that are handed memory of one's own; slices of rows.
-/
import Derived.Test.YthopjimlhjgoiaaDoorCore9
set_option linter.unusedSimpArgs false
set_option linter.unusedVariables false
namespace Go.DB
open Go Go.RowKit

/-- The keys hold what is handed over. -/
inductive Holds (B : Owns) : List Nat → Given → Prop
  | nil : Holds B [] []
  | cons {k ks s c Os} : lookB B k = some (CPred.at s c) → Holds B ks Os → Holds B (k :: ks) ((s, c) :: Os)

theorem Holds.length {B : Owns} : ∀ {ks : List Nat} {Os : Given}, Holds B ks Os → ks.length = Os.length
  | _, _, .nil => rfl
  | _, _, .cons _ h => by simp [h.length]
theorem Holds.at {B : Owns} : ∀ {ks : List Nat} {Os : Given}, Holds B ks Os → ∀ (i : Nat) (s : Value) (c : CPred), Os[i]? = some (s, c) → ∃ k, ks[i]? = some k ∧ lookB B k = some (CPred.at s c)
  | _, _, .nil, i, s, c, h => by simp at h
  | _, _, .cons h1 _, 0, s, c, h => by
    simp at h
    obtain ⟨rfl, rfl⟩ := h
    exact ⟨_, rfl, h1⟩
  | _, _, .cons _ h2, i + 1, s, c, h => by
    obtain ⟨k, h3, h4⟩ := h2.at i s c (by simpa using h)
    exact ⟨k, by simpa using h3, h4⟩

/-- The keys behind a call: what was handed over, and the result's slot. -/
def outW : List Value → List Nat → Option Nat → List (Option CPred) → Writes
  | s :: an, k :: ks, d, some c :: outs => (k, some (CPred.at s c)) :: outW an ks d outs
  | _ :: an, k :: ks, d, none :: outs => (k, none) :: outW an ks d outs
  | [], [], some d, [o] => [(d, o)]
  | _, _, _, _ => []

theorem outW_at : ∀ (an : List Value) (ks : List Nat) (d : Option Nat) (outs : List (Option CPred)) (t : Nat) (c : CPred), lookB (outW an ks d outs) t = some c →
    ∃ i c0, outs[i]? = some (some c0) ∧ ((∃ s, an[i]? = some s ∧ ks[i]? = some t ∧ c = CPred.at s c0) ∨ (i = an.length ∧ i = ks.length ∧ d = some t ∧ c = c0))
  | s :: an, k :: ks, d, some c1 :: outs, t, c, h => by
    simp only [outW, lookB] at h
    by_cases he : k = t
    · subst he; simp at h; subst h
      exact ⟨0, c1, rfl, .inl ⟨s, rfl, rfl, rfl⟩⟩
    · rw [beq_ne he, cond_false] at h
      obtain ⟨i, c0, h1, h2⟩ := outW_at an ks d outs t c h
      refine ⟨i + 1, c0, by simpa using h1, ?_⟩
      rcases h2 with ⟨s', a1, a2, a3⟩ | ⟨a1, a2, a3⟩
      · exact .inl ⟨s', by simpa using a1, by simpa using a2, a3⟩
      · exact .inr ⟨by simp [a1], by simp [a2], a3⟩
  | s :: an, k :: ks, d, none :: outs, t, c, h => by
    simp only [outW, lookB] at h
    by_cases he : k = t
    · subst he; simp at h
    · rw [beq_ne he, cond_false] at h
      obtain ⟨i, c0, h1, h2⟩ := outW_at an ks d outs t c h
      refine ⟨i + 1, c0, by simpa using h1, ?_⟩
      rcases h2 with ⟨s', a1, a2, a3⟩ | ⟨a1, a2, a3⟩
      · exact .inl ⟨s', by simpa using a1, by simpa using a2, a3⟩
      · exact .inr ⟨by simp [a1], by simp [a2], a3⟩
  | [], [], some d, [o], t, c, h => by
    simp only [outW, lookB] at h
    by_cases he : d = t
    · subst he
      simp at h; subst h
      exact ⟨0, c, rfl, .inr ⟨rfl, rfl, rfl, rfl⟩⟩
    · rw [beq_ne he] at h; cases h
  | [], [], none, _, t, c, h => by simp [outW, lookB] at h
  | [], [], some d, [], t, c, h => by simp [outW, lookB] at h
  | [], [], some d, _ :: _ :: _, t, c, h => by simp [outW, lookB] at h
  | [], _ :: _, _, _, t, c, h => by simp [outW, lookB] at h
  | _ :: _, [], _, _, t, c, h => by simp [outW, lookB] at h
  | _ :: _, _ :: _, _, [], t, c, h => by simp [outW, lookB] at h

section
variable {P : Program} {ops : Array Oper} {fs : Nat} {L : Slots} {B : Owns} {G : Prop}
variable {ty : TypeId} {pos : String} {after : Array Edge}

theorem Does.enterO {o : Oper} {a : Act} {w : World} {f : Nat} {vs : List Value} {R : Ending → World → Prop} {R' : Value → World → Prop} (hr : (execOp a.eval o).run P w = .ok (.enter f vs.toArray) w)
    (h : Calls P f vs.toArray w R) (hR : ∀ e w', R e w' → ∃ v, e = .returned v ∧ R' v w') : Does P o a w R' := by
  unfold Does Oper.wp
  rw [hr]
  refine Calls.mono h fun e w' he => ?_
  obtain ⟨v, rfl, hv⟩ := hR e w' he
  exact ⟨v, rfl, hv⟩

/-- The keys that a call writes: all that were handed over, and the result's slot, where that is its own memory. -/
def outK (ks : List Nat) (d : Option Nat) (outs : List (Option CPred)) : List Nat := ks ++ (if ks.length < outs.length then d.toList else [])

/-- What a call leaves, where memory was handed over. -/
theorem Leaves.call {o : Oper} {M : MSet} {D : Nat → MSet} {a : Act} {w : World} {xs ks : List Nat} {Os : Given} {S : SPred} {outs : List (Option CPred)} {W : Nat × Option CPred} {Ws : Writes} {v : Value} {w' : World}
    (hH : Holds B ks Os) (hW : outW (Os.map (·.1)) ks o.dst outs = W :: Ws) (hxs : ∀ k ∈ ks, k ∈ xs) (hnd : (ks ++ o.dst.toList).Nodup) (hsz : ∀ d, o.dst = some d → d < a.tmps.size)
    (h : PostO ⟨w, M, DU (fun i => D ((ks[i]?).getD 0)) Os.length⟩ S (Os.map (·.1)) outs (.returned v) w') : Leaves o B D xs ⟨True, S⟩ (W :: Ws) M a w v w' := by
  obtain ⟨v', M', D', hv, hk, hml, hmh, hms, hS, hC, hA⟩ := h
  obtain rfl : v = v' := by simpa using hv
  have hlen := hH.length
  have mine : ∀ k, DU (fun i => D ((ks[i]?).getD 0)) Os.length k → Mine xs B D k := by
    rintro k ⟨i, hi, hd⟩
    obtain ⟨s, c, hsc⟩ : ∃ s c, Os[i]? = some (s, c) := ⟨_, _, List.getElem?_eq_getElem hi⟩
    obtain ⟨t, ht, hl⟩ := hH.at i s c hsc
    simp only [ht, Option.getD_some] at hd
    exact ⟨t, hxs t (List.mem_of_getElem? ht), _, hl, hd⟩
  -- the index of a key
  let ix : Nat → Nat := fun t => (ks ++ o.dst.toList).idxOf t
  have ixk : ∀ i t, (ks ++ o.dst.toList)[i]? = some t → ix t = i := by
    intro i t ht
    have hm : t ∈ ks ++ o.dst.toList := List.mem_of_getElem? ht
    have h1 : (ks ++ o.dst.toList)[ix t]? = some t := by
      have hlt := List.idxOf_lt_length_iff.2 hm
      rw [List.getElem?_eq_getElem hlt]
      simp only [Option.some.injEq]
      exact List.getElem_idxOf hlt
    exact nodup_inj hnd h1 ht
  have at_ : ∀ t c, lookB (W :: Ws) t = some c → ∃ c0, outs[ix t]? = some (some c0) ∧ ∀ M D w, c0.p M D ((((Os.map (·.1)) ++ [v])[ix t]?).getD undef) w → c.p M D (Act.val (a.put o.dst v) t) w := by
    intro t c hc
    rw [← hW] at hc
    obtain ⟨i, c0, h1, h2⟩ := outW_at _ _ _ _ _ _ hc
    rcases h2 with ⟨s, a1, a2, rfl⟩ | ⟨a1, a2, a3, rfl⟩
    · have hit : ix t = i := ixk i t (by rw [List.getElem?_append_left (List.getElem?_eq_some_iff.1 a2).1]; exact a2)
      rw [hit]
      refine ⟨c0, h1, fun M D w hp => ?_⟩
      rw [List.getElem?_append_left (List.getElem?_eq_some_iff.1 a1).1, a1, Option.getD_some] at hp
      exact hp
    · have hit : ix t = i := ixk i t (by rw [a2, List.getElem?_append_right (Nat.le_refl _), a3]; simp)
      rw [hit]
      refine ⟨c, h1, fun M D w hp => ?_⟩
      rw [a1, List.getElem?_concat_length, Option.getD_some] at hp
      rw [a3, val_self (hsz t a3)]
      exact hp
  refine ⟨M', fun t => D' (ix t), hk.mono (fun k _ h => mine k h), fun k h => (hml k h).imp id (mine k), hmh, hms, ⟨fun _ => hS, fun hf => (hf trivial).elim⟩, fun t c hc => ?_, fun t1 t2 c1 c2 h1 h2 hne => ?_⟩
  · obtain ⟨c0, h1, h2⟩ := at_ t c hc
    obtain ⟨h3, h4⟩ := hC _ _ h1
    exact ⟨h2 _ _ _ h3, fun k hk => (h4 k hk).imp (mine k) id⟩
  · obtain ⟨c1', g1, _⟩ := at_ t1 c1 h1
    obtain ⟨c2', g2, _⟩ := at_ t2 c2 h2
    refine hA (ix t1) (ix t2) c1' c2' g1 g2 (fun e => hne ?_)
    have m1 : ∀ t c, lookB (W :: Ws) t = some c → (ks ++ o.dst.toList)[ix t]? = some t := by
      intro t c hc
      rw [← hW] at hc
      obtain ⟨i, c0, _, h2⟩ := outW_at _ _ _ _ _ _ hc
      have hm : t ∈ ks ++ o.dst.toList := by
        rcases h2 with ⟨s, _, a2, _⟩ | ⟨_, _, a3, _⟩
        · exact List.mem_append_left _ (List.mem_of_getElem? a2)
        · exact List.mem_append_right _ (by rw [a3]; simp)
      have hlt := List.idxOf_lt_length_iff.2 hm
      rw [List.getElem?_eq_getElem hlt]
      simp only [Option.some.injEq]
      exact List.getElem_idxOf hlt
    have e1 := m1 t1 c1 h1
    have e2 := m1 t2 c2 h2
    rw [e] at e1
    rw [e1] at e2
    exact Option.some.inj e2

theorem OwnL.of {M : MSet} {D : Nat → MSet} {a : Act} {w : World} {xr ks : List Nat} {Os : Given} (hH : Holds B ks Os) (hnd : ks.Nodup) (hsB : SatB xr M D B a w) (hx : ∀ k ∈ ks, k ∈ xr) : OwnL M (fun i => D ((ks[i]?).getD 0)) w Os := by
  refine ⟨fun i s c h => ?_, fun i j x y hi hj hne k h1 h2 => ?_⟩
  · obtain ⟨k, hk, hl⟩ := hH.at i s c h
    have := hsB.has k (hx k (List.mem_of_getElem? hk)) _ hl
    simp only [hk, Option.getD_some]
    exact this
  · obtain ⟨s, c⟩ := x
    obtain ⟨s', c'⟩ := y
    obtain ⟨k1, hk1, hl1⟩ := hH.at i s c hi
    obtain ⟨k2, hk2, hl2⟩ := hH.at j s' c' hj
    simp only [hk1, hk2, Option.getD_some] at h1 h2
    refine hsB.apart k1 (hx k1 (List.mem_of_getElem? hk1)) k2 (hx k2 (List.mem_of_getElem? hk2)) _ _ hl1 hl2 (fun e => ?_) k h1 h2
    subst e
    exact hne (nodup_inj hnd hk1 hk2)

theorem StepOK.callO {d : Option Nat} {f : Nat} {xs : Array Operand} {ts : Array TypeId} {Ss : List SPred} {Os : Given} {S : SPred} {outs : List (Option CPred)} {W : Nat × Option CPred} {Ws : Writes} {xk : List Nat} (ks : List Nat) (hspec : FSpecO P f Ss Os S outs)
    (hx : OpdL L True xs.toList Ss) (hH : Holds B ks Os) (hW : outW (Os.map (·.1)) ks d outs = W :: Ws) (hnd : (ks ++ d.toList).Nodup) (hxk : ∀ k ∈ ks, k ∈ xk) (hd : ∀ d', d = some d' → d' < fs) :
    StepOK P ops fs ⟨d, .call { callee := .value (.func f), args := xs, argTypes := ts }, ty, pos, after, none⟩ L B (ks, xk) ⟨True, S⟩ (W :: Ws) :=
  .doing fun M D a w hsz hm hs hsB => by
    have ha := hx.get hs (fun x hxm t ht => looksAt_op (call_ops (by subst ht; simpa using hxm))) trivial
    have hr : (execOp a.eval ⟨d, .call { callee := .value (.func f), args := xs, argTypes := ts }, ty, pos, after, none⟩).run P w = .ok (.enter f (xs.toList.map a.eval).toArray) w := by
      rw [show (xs.toList.map a.eval).toArray = xs.map a.eval ++ #[] by rw [Array.append_empty, ← List.map_toArray]]
      exact ex_callV hspec.ok rfl
    have hnd' : ks.Nodup := (List.nodup_append.1 hnd).1
    refine Does.enterO hr (hspec.calls M _ w _ hm ha (OwnL.of hH hnd' hsB (fun k hk => List.mem_append_left _ hk))) fun e w' he => ?_
    obtain ⟨v, M', D', rfl, rest⟩ := he
    exact ⟨v, rfl, .call hH hW hxk hnd (fun d' h => by rw [hsz]; exact hd d' h) ⟨v, M', D', rfl, rest⟩⟩

/-- A call of a told function value. -/
theorem StepOK.callRaw {d : Option Nat} {f t : Nat} {caps : List Value} {xs : Array Operand} {ts : Array TypeId} {Ss : List SPred} {Os : Given} {S : SPred} {outs : List (Option CPred)} {W : Nat × Option CPred} {Ws : Writes} {xk : List Nat} (ks : List Nat)
    (hf : Opd L True (.tmp t) (isV (.func (.func f) #[] caps.toArray))) (hspec : FSpecO P f (Ss ++ caps.map isV) Os S outs) (hcap : ∀ c ∈ caps, isOne c = true ∧ c.cells = #[c])
    (hx : OpdL L True xs.toList Ss) (hH : Holds B ks Os) (hW : outW (Os.map (·.1)) ks d outs = W :: Ws) (hnd : (ks ++ d.toList).Nodup) (hxk : ∀ k ∈ ks, k ∈ xk) (hd : ∀ d', d = some d' → d' < fs) :
    StepOK P ops fs ⟨d, .call { callee := .value (.tmp t), args := xs, argTypes := ts }, ty, pos, after, none⟩ L B (ks, xk) ⟨True, S⟩ (W :: Ws) :=
  .doing fun M D a w hsz hm hs hsB => by
    have ha := hx.get hs (fun x hxm t ht => looksAt_op (call_ops (by subst ht; simpa using hxm))) trivial
    have hfv := (rep_raw.1 (hf.get hs (fun t' ht => looksAt_op (by cases ht; simp [Op.operands, Call.operands])) trivial)).1
    have hr : (execOp a.eval ⟨d, .call { callee := .value (.tmp t), args := xs, argTypes := ts }, ty, pos, after, none⟩).run P w = .ok (.enter f (xs.toList.map a.eval ++ caps).toArray) w := by
      rw [show (xs.toList.map a.eval ++ caps).toArray = xs.map a.eval ++ caps.toArray by simp]
      exact ex_callV hspec.ok hfv
    have hnd' : ks.Nodup := (List.nodup_append.1 hnd).1
    have hc : All2 M w (caps.map isV) caps := by
      clear hspec hfv hr hf
      induction caps with
      | nil => trivial
      | cons c cs ih => exact ⟨rep_raw.2 ⟨rfl, hcap c (by simp)⟩, ih (fun c' h => hcap c' (by simp [h]))⟩
    refine Does.enterO hr (hspec.calls M _ w _ hm (All2.append _ _ _ _ ha hc) (OwnL.of hH hnd' hsB (fun k hk => List.mem_append_left _ hk))) fun e w' he => ?_
    obtain ⟨v, M', D', rfl, rest⟩ := he
    exact ⟨v, rfl, .call hH hW hxk hnd (fun d' h => by rw [hsz]; exact hd d' h) ⟨v, M', D', rfl, rest⟩⟩

end
end Go.DB
