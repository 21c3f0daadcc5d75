/-
  Maps whose elements are rows of one's own; pointers that may be nil; rows that a call keeps.
-/
import Derived.Test.YtbahnfkccdlpnaaCoreE
set_option linter.unusedVariables false
set_option linter.unusedSimpArgs false
namespace Go.DB
open Go Go.RowKit

section
variable {K α : Type} [Rep K] [Rep α]

/-- What an entry's row is. -/
def FitR (E : Nat) (M D : MSet) (w : World) : Option (List α) → Option Raw → Prop
  | some l, some s => (rowV E l).p M D s.v w
  | none, none => ∀ j, ¬ D j
  | _, _ => False

theorem FitR.law {E : Nat} {M M' D : MSet} {w w' : World} {a : Option (List α)} {b : Option Raw} (hk : Keeps M w w') (hm : ∀ k, M' k → M k ∨ w.heap.size ≤ k) (ho : ∀ k, D k → M' k ∧ w'.heap[k]? = w.heap[k]?) (h : FitR E M D w a b) : FitR E M' D w' a b := by
  match a, b, h with
  | some l, some s, h => exact (rowV E l).law M M' D s.v w w' hk hm ho h
  | none, none, h => exact h

/-- A map whose elements are rows of one's own; at the keys of the hole nothing is told. -/
def mapH (E : Nat) (hole : K → Prop) (m : GMap K (List α)) : CPred where
  p := fun M D v w => ∃ (r : GMap K Raw) (Dm : MSet) (Dr : K → MSet), (mapV r).p M Dm v w ∧ (∀ k, ¬ hole k → FitR E M (Dr k) w (m.f k) (r.f k)) ∧ (∀ j, D j → M j) ∧
    (∀ j, (Dm j ∨ ∃ k, Dr k j) → D j) ∧ (∀ k j, Dr k j → ¬ Dm j) ∧ ∀ k k' j, Dr k j → Dr k' j → k = k'
  inM := fun M D v w ⟨r, Dm, Dr, h1, _, h3, h4, _⟩ k hk => h3 k hk
  law := fun M M' D v w w' hk hm hown ⟨r, Dm, Dr, h1, h2, h3, h4, h5, h6⟩ => by
    have o1 : ∀ j, Dm j → D j := fun j h => h4 j (.inl h)
    have o2 : ∀ k j, Dr k j → D j := fun k j h => h4 j (.inr ⟨k, h⟩)
    exact ⟨r, Dm, Dr, (mapV r).law M M' Dm v w w' hk hm (fun j h => hown j (o1 j h)) h1, fun k hn => (h2 k hn).law hk hm (fun j h => hown j (o2 k j h)), fun j h => (hown j h).1, h4, h5, h6⟩
abbrev mapW (E : Nat) (m : GMap K (List α)) : CPred := mapH E (fun _ => False) m

end

section
variable {P : Program} {ops : Array Oper} {fs : Nat} {L : Slots} {B : Owns} {G : Prop}
variable {ty : TypeId} {pos : String} {after : Array Edge} {g : Option (Nat × Bool)} {xr : List Nat} {d : Option Tmp}
variable {K α : Type} [Rep K] [DecidableEq K] [MKey K] [Rep α] {T kt et : TypeId} {m : GMap K (List α)} {k : K}

end

section
variable {P : Program} {Q : Exit → Act → World → Prop} {n : Nat} {F : Fr} {L : Slots} {B : Owns} {K α : Type} [Rep K] [Rep α] {m : GMap K (List α)}
end


/-- A slot that is told without a condition. -/
theorem Opd.s {L : Slots} {G : Prop} {t : Nat} {S : SPred} (h : look L t = some ⟨True, S⟩) : Opd L G (.tmp t) S := .tmp h fun _ => trivial

/-! Pointers that may be nil. -/
instance {α : Type} [Rep α] : Rep (Option α) where
  sz := 1
  agg := false
  cells := fun M o cs w => ∃ v, cs = [v] ∧ ((v = .pointer none ∧ o = none) ∨ ∃ x, o = some x ∧ (ref x).p M v w)
  len := fun ⟨v, h, _⟩ => by rw [h]; rfl
  pos := by decide
  flat := fun ⟨v, h, hv⟩ => by
    subst h
    rcases hv with ⟨rfl, _⟩ | ⟨x, _, b, off, cs, rfl, _⟩ <;> rfl
  plain := fun ⟨v, h, hv⟩ c hc => by
    subst h; simp at hc; subst hc
    rcases hv with ⟨rfl, _⟩ | ⟨x, _, b, off, cs, rfl, _⟩ <;> rfl
  law := fun {M M' x cs w w'} hk hm ⟨v, h, hv⟩ => ⟨v, h, by
    rcases hv with hv | ⟨x, h1, h2⟩
    · exact .inl hv
    · exact .inr ⟨x, h1, (ref x).law _ _ _ _ _ hk hm h2⟩⟩
section
variable {P : Program} {ops : Array Oper} {fs : Nat} {L : Slots} {B : Owns} {G : Prop}
theorem lookB_gone {ks : List Nat} {t : Nat} {c : CPred} : lookB (ks.map fun k => (k, none)) t = some c → False := by
  induction ks with
  | nil => intro h; cases h
  | cons k ks ih =>
    intro h
    simp only [List.map_cons, lookB] at h
    by_cases hk : k = t
    · subst hk; simp at h
    · rw [beq_ne hk, cond_false] at h; exact ih h
variable {d : Option Tmp} {ty : TypeId} {pos : String} {after : Array Edge}
/-- A call that may keep the rows that are lent to it: nobody writes them any more. -/
theorem StepOK.callK {f : Nat} {xs : Array Operand} {ts : Array TypeId} {Ss : List SPred} {S : SPred} {k0 : Nat} {ks : List Nat} (hspec : FSpec P f Ss S) (hx : OpdB2 L B True xs.toList Ss (k0 :: ks)) (hk : ∀ k ∈ k0 :: ks, ∃ c, lookB B k = some c) :
    StepOK P ops fs ⟨d, .call { callee := .value (.func f), args := xs, argTypes := ts }, ty, pos, after, none⟩ L B (k0 :: ks, k0 :: ks) ⟨True, S⟩ ((k0 :: ks).map fun k => (k, none)) := by
  refine .doing fun M D a w hsz hm hs hsB => ?_
  let M' : MSet := fun j => M j ∧ ∀ k ∈ k0 :: ks, ¬ D k j
  have ha := hx.get hs (fun x hxm t ht => looksAt_op (call_ops (by subst ht; simpa using hxm))) hsB (fun k h => List.mem_append_left _ h) trivial hm.lt M' (fun k h => h.1) (fun k hk j hd h => h.2 k hk hd)
  have hgive := hspec.calls M' w _ (hm.less fun k h => h.1) ha
  refine Does.enterO (f := f) (vs := xs.toList.map a.eval) ?_ hgive fun e w' ⟨hext, v, he, hv⟩ => ⟨v, he, ?_⟩
  · rw [show (xs.toList.map a.eval).toArray = xs.map a.eval ++ #[] by rw [Array.append_empty, ← List.map_toArray]]
    exact ex_callV hspec.ok rfl
  · refine ⟨M', D, hext.keeps, fun j h => ?_, fun j h => .inl h.1, fun j h => Nat.lt_of_lt_of_le (hm.lt j h.1) hext.size, ⟨fun _ => hv, fun hf => (hf trivial).elim⟩, fun t c hc => (lookB_gone (ks := k0 :: ks) hc).elim, fun t t' c c' hc => (lookB_gone (ks := k0 :: ks) hc).elim⟩
    by_cases hd : ∃ k ∈ k0 :: ks, D k j
    · obtain ⟨k, h1, h2⟩ := hd
      obtain ⟨c, hc⟩ := hk k h1
      exact .inr ⟨k, h1, c, hc, h2⟩
    · exact .inl ⟨h, fun k h1 h2 => hd ⟨k, h1, h2⟩⟩
end

section
variable {P : Program} {Q : Exit → Act → World → Prop} {n : Nat} {F : Fr} {L : Slots} {B : Owns}
end
end Go.DB
